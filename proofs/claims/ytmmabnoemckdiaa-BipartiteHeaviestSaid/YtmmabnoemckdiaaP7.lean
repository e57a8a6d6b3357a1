/- For all rows of weights and every list BipartiteHeaviest returns true, and leaves its arguments as they were. No conditions. -/
import Derived.Test.YtmmabnoemckdiaaAN
import Derived.Test.YtmmabnoemckdiaaLO
import Derived.Lib.SmallJoins
import Derived.Deep.Strs
import Derived.Carry
import Derived.Test.YtmmabnoemckdiaaRows
set_option linter.unusedSimpArgs false
set_option linter.unusedVariables false
namespace Go.Proofs.Ytmmabnoemckdiaa
open Go.ChangeShapes Go.WideShapes Go.ChangeAt Go.RowKit Go.Joins
theorem Try.own : ownKnob Try.prog.godebug = none := by kernel_rfl
theorem Try.laidOut : laidOutB Try.prog = true := by kernel_rfl
set_option maxRecDepth 100000 in
theorem heaviest4_lifted (os : Os) (started : os.Started) (H : Type) (enc : TypeId × Value → H) :
    ReturnsInHanded {} Try.checked os 4 .any (Rows.bipartiteHeaviestSpec.pre6 enc Try.prog Try.f4 Rows.bipartiteHeaviestRow.domain false) (Rows.bipartiteHeaviestSpec.post enc Try.prog Try.f4 false true false false) := by
  refine returnsInHanded_of_change (C := Try.checked) Try.own started (by kernel_rfl) Try.func4
    (ChangeSpec.witness6 (enc := enc) (C := Try.checked) false ⟨#[], #[.slice none 0 0, .slice none 0 0], []⟩ 8 (by kernel_rfl) (by kernel_rfl) (by kernel_rfl) (by kernel_rfl)) ?_
  intro W base args ds gs before hval0 hW hcnd _
  have hval : ∀ (j : Nat) t v, Try.f4.params[j]? = some t → args[j]? = some v → Value.okWide Try.prog W .any base t v := hval0
  have hW' := hW
  obtain ⟨p, q, hA0, hV, rfl, hfz, hnd⟩ := hW
  have hA : DataW.TrodAll enc Try.prog W 0 (fun _ => true) true Try.f4.params.toList args.toList ds p := hA0
  rw [Try.params4] at hA hval
  obtain ⟨v0, v1, d0, d1, p0, p1, rfl, rfl, rfl, h0, h1⟩ := trodAll_two hA
  obtain ⟨rfl, rfl⟩ := trodVars_none hV
  obtain ⟨A0, ws, c0, L0, cp, AD, D, rfl, hRD, hr0⟩ := open_rows (hval 0 22 v0 rfl rfl) h0
  obtain ⟨A1, p, c1, L1, rfl, pr, hr1⟩ := open_ints Try.underlying25 Try.underlying3 (by kernel_rfl) (hval 1 25 v1 rfl rfl) h1
  refine (run_of_sp (lheavy_sp ws p c0 c1 cp hr0.n_le hr1.n_le hr1.le) rfl (fun _ _ h => h) (inv_all (Fs := [one0 L0, famD ws.length D, one0 L1]) ⟨obIn_out hRD hr0 rfl, obIn_fa hRD, obIn_row hr1, trivial⟩) (okL_cons_mk (ok_inF hr0 rfl (by simp [one0])) (okL_cons_mk (ok_inF hr1 rfl (by simp [one0])) okL_nil_mk))).mono fun e W' ⟨he, hb⟩ => ?_
  subst he
  exact ⟨_, rfl, law_end (P := Try.prog) (B := 4) hW' rfl rfl Try.underlying4 Try.laidOut (by kernel_rfl) rfl hb⟩
theorem heaviest4_holds : Rows.BipartiteHeaviestSaid :=
  OpenClaim.holds_of_wide 4 Try.f4 rfl rfl rfl rfl rfl rfl rfl ⟨rfl, rfl, rfl, rfl, rfl⟩ rfl rfl rfl rfl rfl (by kernel_rfl) Try.func4 (by kernel_rfl)
    (of_decide_eq_true (by kernel_rfl)) (by unfold Func.isWrapper; first | (rw [if_pos (by decide +kernel)]; kernel_rfl) | (rw [if_neg (by decide +kernel)]; exact ⟨rfl, rfl⟩))
    (fun os started H enc _ => heaviest4_lifted os started H enc)
#print axioms heaviest4_holds
end Go.Proofs.Ytmmabnoemckdiaa
