/- For every bar, every two numbers, every list of bars and every order MachineBars returns true, and leaves its arguments as they were. No conditions. -/
import Derived.Test.YtgbldceimdjblaaBO
import Derived.Lib.SmallJoins
import Derived.Deep.Strs
import Derived.Carry
import Derived.Test.YtgbldceimdjblaaRows
set_option linter.unusedSimpArgs false
set_option linter.unusedVariables false
namespace Go.Proofs.Ytgbldceimdjblaa
open Go.ChangeShapes Go.WideShapes Go.ChangeAt Go.RowKit Go.Joins
set_option maxRecDepth 100000 in
theorem bars8_lifted (os : Os) (started : os.Started) (H : Type) (enc : TypeId × Value → H) :
    ReturnsInHanded {} Try.checked os 8 .any (Rows.machineBarsSpec.pre6 enc Try.prog Try.f8 Rows.machineBarsRow.domain false) (Rows.machineBarsSpec.post enc Try.prog Try.f8 false true false false) := by
  refine returnsInHanded_of_change (C := Try.checked) Try.own started (by kernel_rfl) Try.func8
    (ChangeSpec.witness6 (enc := enc) (C := Try.checked) false ⟨#[], #[.agg #[.string ⟨#[]⟩, .int .i64 0, .int .i64 0, .int .i64 0, .slice none 0 0], .int .i64 0, .int .i64 0, .slice none 0 0, .slice none 0 0], []⟩ 8 (by kernel_rfl) (by kernel_rfl) (by kernel_rfl) (by kernel_rfl)) ?_
  intro W base args ds gs before hval0 hW hcnd _
  have hval : ∀ (j : Nat) t v, Try.f8.params[j]? = some t → args[j]? = some v → Value.okWide Try.prog W .any base t v := hval0
  have hW' := hW
  obtain ⟨p, q, hA0, hV, rfl, hfz, hnd⟩ := hW
  have hA : DataW.TrodAll enc Try.prog W 0 (fun _ => true) true Try.f8.params.toList args.toList ds p := hA0
  rw [Try.params8] at hA hval
  obtain ⟨v0, v1, v2, v3, v4, d0, d1, d2, d3, d4, p0, p1, p2, p3, p4, rfl, rfl, rfl, h0, h1, h2, h3, h4⟩ := trodAll_five hA
  obtain ⟨rfl, rfl⟩ := trodVars_none hV
  obtain ⟨b, Ab, Lb, rfl, hb⟩ := open_bar1 (hval 0 47 v0 rfl rfl) h0
  obtain ⟨size, rfl, sizer⟩ := open_i64 Try.underlying3 (hval 1 3 v1 rfl rfl) h1
  obtain ⟨bends, rfl, bendsr⟩ := open_i64 Try.underlying3 (hval 2 3 v2 rfl rfl) h2
  obtain ⟨A3, l, c3, L3, AD, D, rfl, hBD, hr3⟩ := open_bars (hval 3 48 v3 rfl rfl) h3
  obtain ⟨A4, o, c4, L4, rfl, or, hr4⟩ := open_ints Try.underlying25 Try.underlying3 (by kernel_rfl) (hval 4 25 v4 rfl rfl) h4
  refine (run_of_sp (bars_sp b size bends l o c3 c4 hr4.le hb.n_le hr3.n_le hr4.n_le hBD.okDm) rfl (fun _ _ h => h) (inv_all (Fs := [one0 Lb, one0 L3, famD l.length D, one0 L4]) ⟨obIn_row hb, obIn_bars hBD hr3 rfl, obIn_dims hBD, obIn_row hr4, trivial⟩) (okL_cons_mk (ok_bar hb rfl) (okL_cons_mk (ok_v_mk) (okL_cons_mk (ok_v_mk) (okL_cons_mk (ok_inF hr3 rfl (by simp [one0])) (okL_cons_mk (ok_inF hr4 rfl (by simp [one0])) okL_nil_mk)))))).mono fun e W' ⟨he, hb⟩ => ?_
  subst he
  exact ⟨_, rfl, law_end (P := Try.prog) (B := 4) hW' rfl rfl Try.underlying4 Try.laidOut (by kernel_rfl) rfl hb⟩
theorem bars8_holds : Rows.MachineBarsSaid :=
  OpenClaim.holds_of_wide 8 Try.f8 rfl rfl rfl rfl rfl rfl rfl ⟨rfl, rfl, rfl, rfl, rfl⟩ rfl rfl rfl rfl rfl (by kernel_rfl) Try.func8 (by kernel_rfl)
    (of_decide_eq_true (by kernel_rfl)) (by unfold Func.isWrapper; first | (rw [if_pos (by decide +kernel)]; kernel_rfl) | (rw [if_neg (by decide +kernel)]; exact ⟨rfl, rfl⟩))
    (fun os started H enc _ => bars8_lifted os started H enc)
#print axioms bars8_holds
end Go.Proofs.Ytgbldceimdjblaa
