/- For every list of bars, every order and every two numbers MachineSorted returns true, and leaves its arguments as they were. No conditions. -/
import Derived.Test.YtgbldceimdjblaaBO
import Derived.Test.YtgbldceimdjblaaBG
import Derived.Lib.SmallJoins
import Derived.Deep.Strs
import Derived.Carry
import Derived.Test.YtgbldceimdjblaaRows
set_option linter.unusedSimpArgs false
set_option linter.unusedVariables false
namespace Go.Proofs.Ytgbldceimdjblaa
open Go.ChangeShapes Go.WideShapes Go.ChangeAt Go.RowKit Go.Joins
set_option maxRecDepth 100000 in
theorem sorted9_lifted (os : Os) (started : os.Started) (H : Type) (enc : TypeId × Value → H) :
    ReturnsInHanded {} Try.checked os 9 .any (Rows.machineSortedSpec.pre6 enc Try.prog Try.f9 Rows.machineSortedRow.domain false) (Rows.machineSortedSpec.post enc Try.prog Try.f9 false true false false) := by
  refine returnsInHanded_of_change (C := Try.checked) Try.own started (by kernel_rfl) Try.func9
    (ChangeSpec.witness6 (enc := enc) (C := Try.checked) false ⟨#[], #[.slice none 0 0, .slice none 0 0, .int .u8 0, .int .u8 0], []⟩ 8 (by kernel_rfl) (by kernel_rfl) (by kernel_rfl) (by kernel_rfl)) ?_
  intro W base args ds gs before hval0 hW hcnd _
  have hval : ∀ (j : Nat) t v, Try.f9.params[j]? = some t → args[j]? = some v → Value.okWide Try.prog W .any base t v := hval0
  have hW' := hW
  obtain ⟨p, q, hA0, hV, rfl, hfz, hnd⟩ := hW
  have hA : DataW.TrodAll enc Try.prog W 0 (fun _ => true) true Try.f9.params.toList args.toList ds p := hA0
  rw [Try.params9] at hA hval
  obtain ⟨v0, v1, v2, v3, d0, d1, d2, d3, p0, p1, p2, p3, rfl, rfl, rfl, h0, h1, h2, h3⟩ := trodAll_four hA
  obtain ⟨rfl, rfl⟩ := trodVars_none hV
  obtain ⟨A0, l, c0, L0, AD, D, rfl, hBD, hr0⟩ := open_bars (hval 0 48 v0 rfl rfl) h0
  obtain ⟨A1, o, c1, L1, rfl, or, hr1⟩ := open_ints Try.underlying25 Try.underlying3 (by kernel_rfl) (hval 1 25 v1 rfl rfl) h1
  obtain ⟨wh, rfl, whr⟩ := open_int Try.underlying5 (hval 2 5 v2 rfl rfl) h2
  obtain ⟨bn, rfl, bnr⟩ := open_int Try.underlying5 (hval 3 5 v3 rfl rfl) h3
  refine (run_of_sp (sorted_sp l o wh bn c0 c1 hr1.le hr0.n_le hr1.n_le hBD.okDm whr bnr) rfl (fun _ _ h => h) (inv_all (Fs := [one0 L0, famD l.length D, one0 L1]) ⟨obIn_bars hBD hr0 rfl, obIn_dims hBD, obIn_row hr1, trivial⟩) (okL_cons_mk (ok_inF hr0 rfl (by simp [one0])) (okL_cons_mk (ok_inF hr1 rfl (by simp [one0])) (okL_cons_mk (ok_v_mk) (okL_cons_mk (ok_v_mk) okL_nil_mk))))).mono fun e W' ⟨he, hb⟩ => ?_
  subst he
  exact ⟨_, rfl, law_end (P := Try.prog) (B := 4) hW' rfl rfl Try.underlying4 Try.laidOut (by kernel_rfl) rfl hb⟩
theorem sorted9_holds : Rows.MachineSortedSaid :=
  OpenClaim.holds_of_wide 9 Try.f9 rfl rfl rfl rfl rfl rfl rfl ⟨rfl, rfl, rfl, rfl, rfl⟩ rfl rfl rfl rfl rfl (by kernel_rfl) Try.func9 (by kernel_rfl)
    (of_decide_eq_true (by kernel_rfl)) (by unfold Func.isWrapper; first | (rw [if_pos (by decide +kernel)]; kernel_rfl) | (rw [if_neg (by decide +kernel)]; exact ⟨rfl, rfl⟩))
    (fun os started H enc _ => sorted9_lifted os started H enc)
#print axioms sorted9_holds
end Go.Proofs.Ytgbldceimdjblaa
