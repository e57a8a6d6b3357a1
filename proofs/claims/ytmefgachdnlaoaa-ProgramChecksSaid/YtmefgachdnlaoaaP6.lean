/- For every program and all fractions ProgramChecks returns true, and leaves its arguments as they were. No conditions. -/
import Derived.Test.YtmefgachdnlaoaaXF
import Derived.Test.YtmefgachdnlaoaaLP
import Derived.Lib.SmallJoins
import Derived.Deep.Strs
import Derived.Carry
import Derived.Test.YtmefgachdnlaoaaRows
set_option linter.unusedSimpArgs false
set_option linter.unusedVariables false
namespace Go.Proofs.Ytmefgachdnlaoaa
open Go.ChangeShapes Go.WideShapes Go.ChangeAt Go.RowKit Go.Joins
theorem Try.own : ownKnob Try.prog.godebug = none := by kernel_rfl
theorem Try.laidOut : laidOutB Try.prog = true := by kernel_rfl
set_option maxRecDepth 100000 in
theorem checks3_lifted (os : Os) (started : os.Started) (H : Type) (enc : TypeId × Value → H) :
    ReturnsInHanded {} Try.checked os 3 .any (Rows.programChecksSpec.pre6 enc Try.prog Try.f3 Rows.programChecksRow.domain false) (Rows.programChecksSpec.post enc Try.prog Try.f3 false true false false) := by
  refine returnsInHanded_of_change (C := Try.checked) Try.own started (by kernel_rfl) Try.func3
    (ChangeSpec.witness6 (enc := enc) (C := Try.checked) false ⟨#[], #[.agg #[.slice none 0 0, .slice none 0 0], .agg #[.int .i64 0, .int .i64 0, .slice none 0 0, .slice none 0 0], .slice none 0 0], []⟩ 8 (by kernel_rfl) (by kernel_rfl) (by kernel_rfl) (by kernel_rfl)) ?_
  intro W base args ds gs before hval0 hW hcnd _
  have hval : ∀ (j : Nat) t v, Try.f3.params[j]? = some t → args[j]? = some v → Value.okWide Try.prog W .any base t v := hval0
  have hW' := hW
  obtain ⟨p, q, hA0, hV, rfl, hfz, hnd⟩ := hW
  have hA : DataW.TrodAll enc Try.prog W 0 (fun _ => true) true Try.f3.params.toList args.toList ds p := hA0
  rw [Try.params3] at hA hval
  obtain ⟨v0, v1, v2, d0, d1, d2, p0, p1, p2, rfl, rfl, rfl, h0, h1, h2⟩ := trodAll_three hA
  obtain ⟨rfl, rfl⟩ := trodVars_none hV
  obtain ⟨q, PA0, PA1, PL0, PL1, PAD, PDD, rfl, hP⟩ := open_prog (hval 0 25 v0 rfl rfl) h0
  obtain ⟨av, B1, x, d1, M1, B2, y, d2, M2, rfl, wav, xr, hx1, yr, hy1⟩ := open_ans (hval 1 30 v1 rfl rfl) h1
  obtain ⟨A2, z, c2, L2, rfl, zr, hr2⟩ := open_fracs (hval 2 28 v2 rfl rfl) h2
  refine (run_of_sp (lchecks_sp q hP.co.le hP.rw.le (fun t ht => (hP.cf t ht).n_le) hP.rw.n_le hP.co.n_le av.1 av.2 wav x.length d1 (fun k => (ix x k).1) (fun k => (ix x k).2) hx1.n_le (fun k hk => xr _ (ix_mem hk)) y.length d2 (fun k => (ix y k).1) (fun k => (ix y k).2) hy1.n_le (fun k hk => yr _ (ix_mem hk)) z.length c2 (fun k => (ix z k).1) (fun k => (ix z k).2) hr2.n_le fun k hk => zr _ (ix_mem hk)) rfl (fun _ _ h => h) (inv_all (Fs := fsP q PL0 PL1 PDD ++ [one0 M1, one0 M2, one0 L2]) (allIn_app (allIn_prog hP) ⟨obIn_row hx1, obIn_row hy1, obIn_row hr2, trivial⟩)) (okL_cons_mk (ok_prog hP) (okL_cons_mk (ok_ans hx1 hy1 rfl rfl) (okL_cons_mk (ok_inF hr2 rfl (by simp [one0])) okL_nil_mk)))).mono fun e W' ⟨he, hb⟩ => ?_
  subst he
  exact ⟨_, rfl, law_end (P := Try.prog) (B := 4) hW' rfl rfl Try.underlying4 Try.laidOut (by kernel_rfl) rfl hb⟩
theorem checks3_holds : Rows.ProgramChecksSaid :=
  OpenClaim.holds_of_wide 3 Try.f3 rfl rfl rfl rfl rfl rfl rfl ⟨rfl, rfl, rfl, rfl, rfl⟩ rfl rfl rfl rfl rfl (by kernel_rfl) Try.func3 (by kernel_rfl)
    (of_decide_eq_true (by kernel_rfl)) (by unfold Func.isWrapper; first | (rw [if_pos (by decide +kernel)]; kernel_rfl) | (rw [if_neg (by decide +kernel)]; exact ⟨rfl, rfl⟩))
    (fun os started H enc _ => checks3_lifted os started H enc)
#print axioms checks3_holds
end Go.Proofs.Ytmefgachdnlaoaa
