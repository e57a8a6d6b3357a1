/- For all bundles, all loads, every number and every name LorryChecks returns true, and leaves its arguments as they were. No conditions. -/
import Derived.Test.YtdinkpefoljigaaAD
import Derived.Test.YtdinkpefoljigaaLO
import Derived.Lib.SmallJoins
import Derived.Deep.Strs
import Derived.Carry
import Derived.Test.YtdinkpefoljigaaRows
set_option linter.unusedSimpArgs false
set_option linter.unusedVariables false
namespace Go.Proofs.Ytdinkpefoljigaa
open Go.ChangeShapes Go.WideShapes Go.ChangeAt Go.RowKit Go.Joins
set_option maxRecDepth 100000 in
theorem lorryChecks8_lifted (os : Os) (started : os.Started) (H : Type) (enc : TypeId × Value → H) :
    ReturnsInHanded {} Try.checked os 8 .any (Rows.lorryChecksSpec.pre6 enc Try.prog Try.f8 Rows.lorryChecksRow.domain false) (Rows.lorryChecksSpec.post enc Try.prog Try.f8 false true false false) := by
  refine returnsInHanded_of_change (C := Try.checked) Try.own started (by kernel_rfl) Try.func8
    (ChangeSpec.witness6 (enc := enc) (C := Try.checked) false ⟨#[], #[.slice none 0 0, .int .i64 0, .slice none 0 0, .string ⟨#[]⟩], []⟩ 8 (by kernel_rfl) (by kernel_rfl) (by kernel_rfl) (by kernel_rfl)) ?_
  intro W base args ds gs before hval0 hW hcnd _
  have hval : ∀ (j : Nat) t v, Try.f8.params[j]? = some t → args[j]? = some v → Value.okWide Try.prog W .any base t v := hval0
  have hW' := hW
  obtain ⟨p, q, hA0, hV, rfl, hfz, hnd⟩ := hW
  have hA : DataW.TrodAll enc Try.prog W 0 (fun _ => true) true Try.f8.params.toList args.toList ds p := hA0
  rw [Try.params8] at hA hval
  obtain ⟨v0, v1, v2, v3, d0, d1, d2, d3, p0, p1, p2, p3, rfl, rfl, rfl, h0, h1, h2, h3⟩ := trodAll_four hA
  obtain ⟨rfl, rfl⟩ := trodVars_none hV
  obtain ⟨A0, l, c0, L0, rfl, lr, hr0⟩ := open_buns (hval 0 22 v0 rfl rfl) h0
  obtain ⟨most, rfl, mostr⟩ := open_i64 Try.underlying3 (hval 1 3 v1 rfl rfl) h1
  obtain ⟨A2, loads, c2, L2, cp, AD, D, rfl, hLD, hr2⟩ := open_loads (hval 2 25 v2 rfl rfl) h2
  obtain ⟨tag, rfl, tagr⟩ := open_str Try.underlying9 (hval 3 9 v3 rfl rfl) h3
  refine (run_of_sp (lchecks_sp l most loads tag c0 c2 loads.length cp lr hr0.n_le (Nat.le_refl _) hr2.n_le tagr) rfl (fun _ _ h => h) (inv_all (Fs := [one0 L0, one0 L2, famD loads.length D]) ⟨obIn_row hr0, obIn_out hLD hr2 rfl, obIn_fa hLD, trivial⟩) (okL_cons_mk (ok_inF hr0 rfl (by simp [one0])) (okL_cons_mk (ok_v_mk) (okL_cons_mk (ok_inF hr2 rfl (by simp [one0])) (okL_cons_mk (ok_v_mk) okL_nil_mk))))).mono fun e W' ⟨he, hb⟩ => ?_
  subst he
  exact ⟨_, rfl, law_end (P := Try.prog) (B := 4) hW' rfl rfl Try.underlying4 Try.laidOut (by kernel_rfl) rfl hb⟩
theorem lorryChecks8_holds : Rows.LorryChecksSaid :=
  OpenClaim.holds_of_wide 8 Try.f8 rfl rfl rfl rfl rfl rfl rfl ⟨rfl, rfl, rfl, rfl, rfl⟩ rfl rfl rfl rfl rfl (by kernel_rfl) Try.func8 (by kernel_rfl)
    (of_decide_eq_true (by kernel_rfl)) (by unfold Func.isWrapper; first | (rw [if_pos (by decide +kernel)]; kernel_rfl) | (rw [if_neg (by decide +kernel)]; exact ⟨rfl, rfl⟩))
    (fun os started H enc _ => lorryChecks8_lifted os started H enc)
#print axioms lorryChecks8_holds
end Go.Proofs.Ytdinkpefoljigaa
