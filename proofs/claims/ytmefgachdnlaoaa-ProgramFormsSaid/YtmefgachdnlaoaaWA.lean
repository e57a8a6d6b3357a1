/- Contract: short, for one list. -/
import Derived.Test.YtmefgachdnlaoaaW
set_option maxRecDepth 100000
set_option linter.unusedSimpArgs false
set_option linter.unusedVariables false
namespace Go.Proofs.Ytmefgachdnlaoaa
open Go.RowKit Lp
/-- A list of one list of fractions. -/
def rL1 (n cap : Nat) : Ob := ⟨28, true, .row 1 1 (fun _ => 1) (fun _ => 1) (fun _ _ => [.s 1 0 0 n cap 2])⟩
attribute [push_cast] rL1
theorem long_pu (n cap : Nat) (N D : Nat → Int) (hn : n ≤ 9223372036854775807) : Pu Try.prog 44 [.s 1 0 0 n cap 2] [rL1 n cap, rFi n cap N D] (.v (.bool (decide (20 < n)))) := by
  refine pu_of_ex true [] mixed Try.call44 Try.func44 rfl Try.ntmps44 Try.results44 (by decide +kernel) rfl rfl rfl ?_
  simp only [push_cast, ↓branch_true, ↓branch_false, Nat.reduceBEq, Nat.reduceAdd, Nat.reduceMul, Nat.reduceSub, Int.reduceToNat, reduceCtorEq, branch_decide, branch_not, branch_beq, branch_bne, Int.reduceAdd, Int.reduceEq, Int.reduceLE, Int.reduceLT, Nat.reduceLT, Nat.reduceLeDiff, false_imp_iff, true_imp_iff]
  exact vb (by rw [decide_eq_decide]; omega)
theorem index1_pu (n cap : Nat) (N D : Nat → Int) (hn : n ≤ 9223372036854775807) : Pu Try.prog 94 [.s 0 0 0 1 1 1, .f (.func 44) [] []] [rL1 n cap, rFi n cap N D] (.v (.int .i64 (ent (fun _ => decide (20 < n)) 1))) := by
  have hp1 := long_pu n cap N D hn
  refine pu_of_ex true [] mixed Try.call94 Try.func94 rfl Try.ntmps94 Try.results94 (by decide +kernel) rfl rfl rfl ?_
  simp only [push_cast, ↓branch_true, ↓branch_false, Nat.reduceBEq, Nat.reduceAdd, Nat.reduceMul, Nat.reduceSub, Int.reduceToNat, reduceCtorEq, branch_decide, branch_not, branch_beq, branch_bne, Int.reduceAdd, Int.reduceEq, Int.reduceLE, Int.reduceLT, Nat.reduceLT, Nat.reduceLeDiff, false_imp_iff, true_imp_iff]
  refine tr_loop0 mixed (by kernel_rfl) (fun (k : Nat) => [(8, .v (.int .i64 k)), (7, .v (.int .i64 1)), (0, .s 0 0 0 1 1 1), (1, .f (.func 44) [] [])]) (fun k => k ≤ 1 ∧ ∀ j, j < k → decide (20 < n) = false) (fun k => 1 - k) 0 ⟨Nat.zero_le _, fun j h => by omega⟩ ?_ ?_
  · simp only [push_cast, ↓branch_true, ↓branch_false, Nat.reduceBEq, Nat.reduceAdd, Nat.reduceMul, Nat.reduceSub, Int.reduceToNat, reduceCtorEq, branch_decide, branch_not, branch_beq, branch_bne, Int.reduceAdd, Int.reduceEq, Int.reduceLE, Int.reduceLT, Nat.reduceLT, Nat.reduceLeDiff, false_imp_iff, true_imp_iff]
  · rintro k ⟨hk, hn2⟩
    simp only [push_cast, ↓branch_true, ↓branch_false, Nat.reduceBEq, Nat.reduceAdd, Nat.reduceMul, Nat.reduceSub, Int.reduceToNat, reduceCtorEq, branch_decide, branch_not, branch_beq, branch_bne, Int.reduceAdd, Int.reduceEq, Int.reduceLE, Int.reduceLT, Nat.reduceLT, Nat.reduceLeDiff, false_imp_iff, true_imp_iff]
    refine ⟨fun h1 => ?_, fun h1 => ?_⟩
    · obtain rfl : k = 0 := by omega
      repeat (with_reducible refine And.intro (by omega) ?_)
      refine sp_pu (by simpa only [push_cast] using hp1) ?_
      simp only [push_cast, ↓branch_true, ↓branch_false, Nat.reduceBEq, Nat.reduceAdd, Nat.reduceMul, Nat.reduceSub, Int.reduceToNat, reduceCtorEq, branch_decide, branch_not, branch_beq, branch_bne, Int.reduceAdd, Int.reduceEq, Int.reduceLE, Int.reduceLT, Nat.reduceLT, Nat.reduceLeDiff, false_imp_iff, true_imp_iff]
      refine ⟨fun h2 => ?_, fun h2 => ?_⟩
      · rw [ent_is (j := 0) (by decide) (decide_eq_true (by omega)) (fun i hi => absurd hi (Nat.not_lt_zero _))]
        rfl
      · repeat (with_reducible refine And.intro (by omega) ?_)
        refine lp0_normal 1 ⟨by omega, fun j hj => decide_eq_false (by omega)⟩ (by omega) ?_
        simp only [push_cast, ↓branch_true, ↓branch_false, Nat.reduceBEq, Nat.reduceAdd, Nat.reduceMul, Nat.reduceSub, Int.reduceToNat, reduceCtorEq, branch_decide, branch_not, branch_beq, branch_bne, Int.reduceAdd, Int.reduceEq, Int.reduceLE, Int.reduceLT, Nat.reduceLT, Nat.reduceLeDiff, false_imp_iff, true_imp_iff]
        try rfl
    · obtain rfl : k = 1 := by omega
      rw [ent_no fun j hj => hn2 j hj]
theorem contains1_pu (n cap : Nat) (N D : Nat → Int) (hn : n ≤ 9223372036854775807) : Pu Try.prog 43 [.s 0 0 0 1 1 1, .f (.func 44) [] []] [rL1 n cap, rFi n cap N D] (.v (.bool (decide (20 < n)))) := by
  have h := index1_pu n cap N D hn
  have he : decide (0 ≤ ent (fun _ => decide (20 < n)) 1) = decide (20 < n) := by
    rw [ent_all]
    by_cases h : 20 < n
    · rw [decide_eq_true h, decide_eq_false (fun h2 => absurd (h2 0 (by decide)) (by decide))]; rfl
    · rw [decide_eq_false h, decide_eq_true (fun k _ => rfl)]; rfl
  generalize ent (fun _ => decide (20 < n)) 1 = E at *
  refine pu_of_ex true [] mixed Try.call43 Try.func43 rfl Try.ntmps43 Try.results43 (by decide +kernel) rfl rfl rfl ?_
  simp only [push_cast, ↓branch_true, ↓branch_false, Nat.reduceBEq, Nat.reduceAdd, Nat.reduceMul, Nat.reduceSub, Int.reduceToNat, reduceCtorEq, branch_decide, branch_not, branch_beq, branch_bne, Int.reduceAdd, Int.reduceEq, Int.reduceLE, Int.reduceLT, Nat.reduceLT, Nat.reduceLeDiff, false_imp_iff, true_imp_iff]
  refine sp_call (h) rfl [0, 1] rfl (by simp only [push_cast, ↓branch_true, ↓branch_false, Nat.reduceBEq, Nat.reduceAdd, Nat.reduceMul, Nat.reduceSub, Int.reduceToNat, reduceCtorEq, branch_decide, branch_not, branch_beq, branch_bne, Int.reduceAdd, Int.reduceEq, Int.reduceLE, Int.reduceLT, Nat.reduceLT, Nat.reduceLeDiff, false_imp_iff, true_imp_iff]) (by simp only [push_cast, ↓branch_true, ↓branch_false, Nat.reduceBEq, Nat.reduceAdd, Nat.reduceMul, Nat.reduceSub, Int.reduceToNat, reduceCtorEq, branch_decide, branch_not, branch_beq, branch_bne, Int.reduceAdd, Int.reduceEq, Int.reduceLE, Int.reduceLT, Nat.reduceLT, Nat.reduceLeDiff, false_imp_iff, true_imp_iff]) ?_
  simp only [push_cast, ↓branch_true, ↓branch_false, Nat.reduceBEq, Nat.reduceAdd, Nat.reduceMul, Nat.reduceSub, Int.reduceToNat, reduceCtorEq, branch_decide, branch_not, branch_beq, branch_bne, Int.reduceAdd, Int.reduceEq, Int.reduceLE, Int.reduceLT, Nat.reduceLT, Nat.reduceLeDiff, false_imp_iff, true_imp_iff]
  exact vb he
theorem short1_pu (n cap : Nat) (N D : Nat → Int) (hn : n ≤ 9223372036854775807) : Pu Try.prog 13 [.s 0 0 0 1 1 1] [rL1 n cap, rFi n cap N D] (.v (.bool (decide (n ≤ 20)))) := by
  have h := contains1_pu n cap N D hn
  refine pu_of_ex true [] mixed Try.call13 Try.func13 rfl Try.ntmps13 Try.results13 (by decide +kernel) rfl rfl rfl ?_
  simp only [push_cast, ↓branch_true, ↓branch_false, Nat.reduceBEq, Nat.reduceAdd, Nat.reduceMul, Nat.reduceSub, Int.reduceToNat, reduceCtorEq, branch_decide, branch_not, branch_beq, branch_bne, Int.reduceAdd, Int.reduceEq, Int.reduceLE, Int.reduceLT, Nat.reduceLT, Nat.reduceLeDiff, false_imp_iff, true_imp_iff]
  refine sp_call (h) rfl [0, 1] rfl (by simp only [push_cast, ↓branch_true, ↓branch_false, Nat.reduceBEq, Nat.reduceAdd, Nat.reduceMul, Nat.reduceSub, Int.reduceToNat, reduceCtorEq, branch_decide, branch_not, branch_beq, branch_bne, Int.reduceAdd, Int.reduceEq, Int.reduceLE, Int.reduceLT, Nat.reduceLT, Nat.reduceLeDiff, false_imp_iff, true_imp_iff]) (by simp only [push_cast, ↓branch_true, ↓branch_false, Nat.reduceBEq, Nat.reduceAdd, Nat.reduceMul, Nat.reduceSub, Int.reduceToNat, reduceCtorEq, branch_decide, branch_not, branch_beq, branch_bne, Int.reduceAdd, Int.reduceEq, Int.reduceLE, Int.reduceLT, Nat.reduceLT, Nat.reduceLeDiff, false_imp_iff, true_imp_iff]) ?_
  simp only [push_cast, ↓branch_true, ↓branch_false, Nat.reduceBEq, Nat.reduceAdd, Nat.reduceMul, Nat.reduceSub, Int.reduceToNat, reduceCtorEq, branch_decide, branch_not, branch_beq, branch_bne, Int.reduceAdd, Int.reduceEq, Int.reduceLE, Int.reduceLT, Nat.reduceLT, Nat.reduceLeDiff, false_imp_iff, true_imp_iff]
  exact vb (by rw [Bool.eq_iff_iff]; simp)
end Go.Proofs.Ytmefgachdnlaoaa
