/- For all bundles, all loads and every number LorryBounds returns true, and leaves its arguments as they were. No conditions. -/
import Derived.Test.YtdinkpefoljigaaAR
import Derived.Test.YtdinkpefoljigaaLO
import Derived.Lib.SmallJoins
import Derived.Deep.Strs
import Derived.Carry
import Derived.Test.YtdinkpefoljigaaRows
set_option linter.unusedSimpArgs false
set_option linter.unusedVariables false
namespace Go.Proofs.Ytdinkpefoljigaa
open Go.ChangeShapes Go.WideShapes Go.ChangeAt Go.RowKit Go.Joins
set_option maxRecDepth 100000 in
theorem lorryBounds6_lifted (os : Os) (started : os.Started) (H : Type) (enc : TypeId × Value → H) :
    ReturnsInHanded {} Try.checked os 6 .any (Rows.lorryBoundsSpec.pre6 enc Try.prog Try.f6 Rows.lorryBoundsRow.domain false) (Rows.lorryBoundsSpec.post enc Try.prog Try.f6 false true false false) := by
  refine returnsInHanded_of_change (C := Try.checked) Try.own started (by kernel_rfl) Try.func6
    (ChangeSpec.witness6 (enc := enc) (C := Try.checked) false ⟨#[], #[.slice none 0 0, .int .i64 0, .slice none 0 0], []⟩ 8 (by kernel_rfl) (by kernel_rfl) (by kernel_rfl) (by kernel_rfl)) ?_
  intro W base args ds gs before hval0 hW hcnd _
  have hval : ∀ (j : Nat) t v, Try.f6.params[j]? = some t → args[j]? = some v → Value.okWide Try.prog W .any base t v := hval0
  have hW' := hW
  obtain ⟨p, q, hA0, hV, rfl, hfz, hnd⟩ := hW
  have hA : DataW.TrodAll enc Try.prog W 0 (fun _ => true) true Try.f6.params.toList args.toList ds p := hA0
  rw [Try.params6] at hA hval
  obtain ⟨v0, v1, v2, d0, d1, d2, p0, p1, p2, rfl, rfl, rfl, h0, h1, h2⟩ := trodAll_three hA
  obtain ⟨rfl, rfl⟩ := trodVars_none hV
  obtain ⟨A0, l, c0, L0, rfl, lr, hr0⟩ := open_buns (hval 0 22 v0 rfl rfl) h0
  obtain ⟨most, rfl, mostr⟩ := open_i64 Try.underlying3 (hval 1 3 v1 rfl rfl) h1
  obtain ⟨A2, loads, c2, L2, cp, AD, D, rfl, hLD, hr2⟩ := open_loads (hval 2 25 v2 rfl rfl) h2
  refine (run_of_sp (lbounds_sp l most loads c0 c2 loads.length cp lr hr0.n_le (Nat.le_refl _) hr2.n_le) rfl (fun _ _ h => h) (inv_all (Fs := [one0 L0, one0 L2, famD loads.length D]) ⟨obIn_row hr0, obIn_out hLD hr2 rfl, obIn_fa hLD, trivial⟩) (okL_cons_mk (ok_inF hr0 rfl (by simp [one0])) (okL_cons_mk (ok_v_mk) (okL_cons_mk (ok_inF hr2 rfl (by simp [one0])) okL_nil_mk)))).mono fun e W' ⟨he, hb⟩ => ?_
  subst he
  exact ⟨_, rfl, law_end (P := Try.prog) (B := 4) hW' rfl rfl Try.underlying4 Try.laidOut (by kernel_rfl) rfl hb⟩
theorem lorryBounds6_holds : Rows.LorryBoundsSaid :=
  OpenClaim.holds_of_wide 6 Try.f6 rfl rfl rfl rfl rfl rfl rfl ⟨rfl, rfl, rfl, rfl, rfl⟩ rfl rfl rfl rfl rfl (by kernel_rfl) Try.func6 (by kernel_rfl)
    (of_decide_eq_true (by kernel_rfl)) (by unfold Func.isWrapper; first | (rw [if_pos (by decide +kernel)]; kernel_rfl) | (rw [if_neg (by decide +kernel)]; exact ⟨rfl, rfl⟩))
    (fun os started H enc _ => lorryBounds6_lifted os started H enc)
#print axioms lorryBounds6_holds
end Go.Proofs.Ytdinkpefoljigaa
