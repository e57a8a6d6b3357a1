/- For all rows of weights BipartiteWeighs returns true, and leaves its arguments as they were. No conditions. -/
import Derived.Test.YtmmabnoemckdiaaAL
import Derived.Test.YtmmabnoemckdiaaLO
import Derived.Lib.SmallJoins
import Derived.Deep.Strs
import Derived.Carry
import Derived.Test.YtmmabnoemckdiaaRows
set_option linter.unusedSimpArgs false
set_option linter.unusedVariables false
namespace Go.Proofs.Ytmmabnoemckdiaa
open Go.ChangeShapes Go.WideShapes Go.ChangeAt Go.RowKit Go.Joins
theorem Try.own : ownKnob Try.prog.godebug = none := by kernel_rfl
theorem Try.laidOut : laidOutB Try.prog = true := by kernel_rfl
set_option maxRecDepth 100000 in
theorem weighs3_lifted (os : Os) (started : os.Started) (H : Type) (enc : TypeId × Value → H) :
    ReturnsInHanded {} Try.checked os 3 .any (Rows.bipartiteWeighsSpec.pre6 enc Try.prog Try.f3 Rows.bipartiteWeighsRow.domain false) (Rows.bipartiteWeighsSpec.post enc Try.prog Try.f3 false true false false) := by
  refine returnsInHanded_of_change (C := Try.checked) Try.own started (by kernel_rfl) Try.func3
    (ChangeSpec.witness6 (enc := enc) (C := Try.checked) false ⟨#[], #[.slice none 0 0], []⟩ 8 (by kernel_rfl) (by kernel_rfl) (by kernel_rfl) (by kernel_rfl)) ?_
  intro W base args ds gs before hval0 hW hcnd _
  have hval : ∀ (j : Nat) t v, Try.f3.params[j]? = some t → args[j]? = some v → Value.okWide Try.prog W .any base t v := hval0
  have hW' := hW
  obtain ⟨p, q, hA0, hV, rfl, hfz, hnd⟩ := hW
  have hA : DataW.TrodAll enc Try.prog W 0 (fun _ => true) true Try.f3.params.toList args.toList ds p := hA0
  rw [Try.params3] at hA hval
  obtain ⟨v0, d0, rfl, rfl, h0⟩ := trodAll_one hA
  obtain ⟨rfl, rfl⟩ := trodVars_none hV
  obtain ⟨A0, ws, c0, L0, cp, AD, D, rfl, hRD, hr0⟩ := open_rows (hval 0 22 v0 rfl rfl) h0
  refine (run_of_sp (lweighs_sp ws c0 cp hr0.n_le) rfl (fun _ _ h => h) (inv_all (Fs := [one0 L0, famD ws.length D]) ⟨obIn_out hRD hr0 rfl, obIn_fa hRD, trivial⟩) (okL_cons_mk (ok_inF hr0 rfl (by simp [one0])) okL_nil_mk)).mono fun e W' ⟨he, hb⟩ => ?_
  subst he
  exact ⟨_, rfl, law_end (P := Try.prog) (B := 4) hW' rfl rfl Try.underlying4 Try.laidOut (by kernel_rfl) rfl hb⟩
theorem weighs3_holds : Rows.BipartiteWeighsSaid :=
  OpenClaim.holds_of_wide 3 Try.f3 rfl rfl rfl rfl rfl rfl rfl ⟨rfl, rfl, rfl, rfl, rfl⟩ rfl rfl rfl rfl rfl (by kernel_rfl) Try.func3 (by kernel_rfl)
    (of_decide_eq_true (by kernel_rfl)) (by unfold Func.isWrapper; first | (rw [if_pos (by decide +kernel)]; kernel_rfl) | (rw [if_neg (by decide +kernel)]; exact ⟨rfl, rfl⟩))
    (fun os started H enc _ => weighs3_lifted os started H enc)
#print axioms weighs3_holds
end Go.Proofs.Ytmmabnoemckdiaa
