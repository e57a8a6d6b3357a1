/- For every program and every row ProgramMore returns true, and leaves its arguments as they were. No conditions. -/
import Derived.Test.YtmefgachdnlaoaaMF
import Derived.Test.YtmefgachdnlaoaaLQ
import Derived.Lib.SmallJoins
import Derived.Deep.Strs
import Derived.Carry
import Derived.Test.YtmefgachdnlaoaaRows
set_option linter.unusedSimpArgs false
set_option linter.unusedVariables false
namespace Go.Proofs.Ytmefgachdnlaoaa
open Go.ChangeShapes Go.WideShapes Go.ChangeAt Go.RowKit Go.Joins
theorem Try.own : ownKnob Try.prog.godebug = none := by kernel_rfl
theorem Try.laidOut : laidOutB Try.prog = true := by kernel_rfl
set_option maxRecDepth 100000 in
theorem more4_lifted (os : Os) (started : os.Started) (H : Type) (enc : TypeId × Value → H) :
    ReturnsInHanded {} Try.checked os 4 .any (Rows.programMoreSpec.pre6 enc Try.prog Try.f4 Rows.programMoreRow.domain false) (Rows.programMoreSpec.post enc Try.prog Try.f4 false true false false) := by
  refine returnsInHanded_of_change (C := Try.checked) Try.own started (by kernel_rfl) Try.func4
    (ChangeSpec.witness6 (enc := enc) (C := Try.checked) false ⟨#[], #[.agg #[.slice none 0 0, .slice none 0 0], .agg #[.slice none 0 0, .int .i64 0, .int .i64 0]], []⟩ 8 (by kernel_rfl) (by kernel_rfl) (by kernel_rfl) (by kernel_rfl)) ?_
  intro W base args ds gs before hval0 hW hcnd _
  have hval : ∀ (j : Nat) t v, Try.f4.params[j]? = some t → args[j]? = some v → Value.okWide Try.prog W .any base t v := hval0
  have hW' := hW
  obtain ⟨p, q, hA0, hV, rfl, hfz, hnd⟩ := hW
  have hA : DataW.TrodAll enc Try.prog W 0 (fun _ => true) true Try.f4.params.toList args.toList ds p := hA0
  rw [Try.params4] at hA hval
  obtain ⟨v0, v1, d0, d1, p0, p1, rfl, rfl, rfl, h0, h1⟩ := trodAll_two hA
  obtain ⟨rfl, rfl⟩ := trodVars_none hV
  obtain ⟨q, PA0, PA1, PL0, PL1, PAD, PDD, rfl, hP⟩ := open_prog (hval 0 25 v0 rfl rfl) h0
  obtain ⟨w, rfl, hr1⟩ := open_row45 (hval 1 45 v1 rfl rfl) h1
  refine (run_of_sp (lmore_sp q hP.co.le hP.rw.le (fun t ht => (hP.cf t ht).le) (fun t ht => (hP.cf t ht).n_le) hP.rw.n_le hP.co.n_le w.co.length w.cap (ix w.co) w.kd w.b hr1.n_le) rfl (fun _ _ h => h) (inv_all (Fs := fsP q PL0 PL1 PDD ++ [one0 w.L]) (allIn_app (allIn_prog hP) ⟨obIn_row hr1, trivial⟩)) (okL_cons_mk (ok_prog hP) (okL_cons_mk (ok_row45 hr1 rfl) okL_nil_mk))).mono fun e W' ⟨he, hb⟩ => ?_
  subst he
  exact ⟨_, rfl, law_end (P := Try.prog) (B := 4) hW' rfl rfl Try.underlying4 Try.laidOut (by kernel_rfl) rfl hb⟩
theorem more4_holds : Rows.ProgramMoreSaid :=
  OpenClaim.holds_of_wide 4 Try.f4 rfl rfl rfl rfl rfl rfl rfl ⟨rfl, rfl, rfl, rfl, rfl⟩ rfl rfl rfl rfl rfl (by kernel_rfl) Try.func4 (by kernel_rfl)
    (of_decide_eq_true (by kernel_rfl)) (by unfold Func.isWrapper; first | (rw [if_pos (by decide +kernel)]; kernel_rfl) | (rw [if_neg (by decide +kernel)]; exact ⟨rfl, rfl⟩))
    (fun os started H enc _ => more4_lifted os started H enc)
#print axioms more4_holds
end Go.Proofs.Ytmefgachdnlaoaa
