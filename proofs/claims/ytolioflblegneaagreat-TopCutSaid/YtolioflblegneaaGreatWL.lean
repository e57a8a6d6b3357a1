/- The example's runs: valid, counted, marked. -/
import Derived.Test.YtolioflblegneaaGreatWH
set_option maxRecDepth 100000
set_option linter.unusedSimpArgs false
set_option linter.unusedVariables false
-- 
namespace Go.Proofs.YtolioflblegneaaGreat
open Go.RowKit
def G0 : List Ob := [rBa 1 l0 c0, rDs l0, rRn]
attribute [push_cast] G0
set_option maxHeartbeats 4000000 in
theorem lvalid_pu (c c2 : Nat) : Pu Tryz.prog 160 [.s 0 0 0 1 c 5, .s 2 0 0 1 c2 10] G0 (.v (.bool true)) := by
  have hv := sched_pu l0 c0 c (by decide) (by decide) (by decide)
  rw [sch0] at hv
  refine pu_of_ex true [] mixed Tryz.call160 Tryz.func160 rfl Tryz.ntmps160 Tryz.results160 (by decide +kernel) rfl rfl rfl ?_
  refine sxg ?_
  try with_reducible exact trivial
  refine sp_c (hv) rfl [0, 1] ?_
  refine sxg ?_
  try with_reducible exact trivial
  refine tr_un mixed (by kernel_rfl) ?_
  refine sxg ?_
  try with_reducible exact trivial
  refine sp_c (rightw_pu c) rfl [0, 1] ?_
  refine sxg ?_
  try with_reducible exact trivial
  refine tl_un mixed (by kernel_rfl) ?_
  refine sxg ?_
  try with_reducible exact trivial
set_option maxHeartbeats 4000000 in
theorem lcount_pu (c c2 : Nat) : Pu Tryz.prog 117 [.s 0 0 0 1 c 5, .s 2 0 0 1 c2 10] G0 (.t [.v (.int .i64 2), .v (.int .i64 0)]) := by
  refine pu_of_ex true [] mixed Tryz.call117 Tryz.func117 rfl Tryz.ntmps117 Tryz.results117 (by decide +kernel) rfl rfl rfl ?_
  refine sxg ?_
  try with_reducible exact trivial
  refine sp_c (lvalid_pu c c2) rfl [0, 1, 2] ?_
  refine sxg ?_
  try with_reducible exact trivial
  repeat (first | (refine tr_un mixed (by kernel_rfl) ?_; (simp only [push_cast, ↓branch_true, ↓branch_false, Nat.reduceBEq, Nat.reduceAdd, Nat.reduceMul, Nat.reduceSub, Int.reduceToNat, reduceCtorEq, Int.reduceAdd, Int.reduceEq, Int.reduceLE, Int.reduceLT, Nat.reduceLT, Nat.reduceLeDiff, ↓arr30, ↓arr31, ↓arr32, Int.reduceSub, Int.reduceMul, Int.reduceNeg, Int.reduceBEq, Int.reduceBNe, Int.reduceTDiv, decide_true, decide_false, decide_not, Int.max_def, Int.min_def, ↓reduceIte, ne_eq, Bool.not_true, Bool.not_false])) | (refine tl_un mixed (by kernel_rfl) ?_; (simp only [push_cast, ↓branch_true, ↓branch_false, Nat.reduceBEq, Nat.reduceAdd, Nat.reduceMul, Nat.reduceSub, Int.reduceToNat, reduceCtorEq, Int.reduceAdd, Int.reduceEq, Int.reduceLE, Int.reduceLT, Nat.reduceLT, Nat.reduceLeDiff, ↓arr30, ↓arr31, ↓arr32, Int.reduceSub, Int.reduceMul, Int.reduceNeg, Int.reduceBEq, Int.reduceBNe, Int.reduceTDiv, decide_true, decide_false, decide_not, Int.max_def, Int.min_def, ↓reduceIte, ne_eq, Bool.not_true, Bool.not_false])))
set_option maxHeartbeats 4000000 in
theorem lmark_pu (c c2 : Nat) (i : Int) (h : i = 0 ∨ i = 1) : Pu Tryz.prog 118 [.s 0 0 0 1 c 5, .s 2 0 0 1 c2 10, .v (.int .i64 i)] G0 (.t [.v (.string sA), .v (.int .i64 0)]) := by
  rcases h with rfl | rfl
  all_goals
    refine pu_of_ex true [] mixed Tryz.call118 Tryz.func118 rfl Tryz.ntmps118 Tryz.results118 (by decide +kernel) rfl rfl rfl ?_
    refine sxg ?_
    try with_reducible exact trivial
    refine sp_c (lvalid_pu c c2) rfl [0, 1, 2] ?_
    refine sxg ?_
    try with_reducible exact trivial
    repeat (first | (refine tr_un mixed (by kernel_rfl) ?_; (simp only [push_cast, ↓branch_true, ↓branch_false, Nat.reduceBEq, Nat.reduceAdd, Nat.reduceMul, Nat.reduceSub, Int.reduceToNat, reduceCtorEq, Int.reduceAdd, Int.reduceEq, Int.reduceLE, Int.reduceLT, Nat.reduceLT, Nat.reduceLeDiff, ↓arr30, ↓arr31, ↓arr32, Int.reduceSub, Int.reduceMul, Int.reduceNeg, Int.reduceBEq, Int.reduceBNe, Int.reduceTDiv, decide_true, decide_false, decide_not, Int.max_def, Int.min_def, ↓reduceIte, ne_eq, Bool.not_true, Bool.not_false])) | (refine tl_un mixed (by kernel_rfl) ?_; (simp only [push_cast, ↓branch_true, ↓branch_false, Nat.reduceBEq, Nat.reduceAdd, Nat.reduceMul, Nat.reduceSub, Int.reduceToNat, reduceCtorEq, Int.reduceAdd, Int.reduceEq, Int.reduceLE, Int.reduceLT, Nat.reduceLT, Nat.reduceLeDiff, ↓arr30, ↓arr31, ↓arr32, Int.reduceSub, Int.reduceMul, Int.reduceNeg, Int.reduceBEq, Int.reduceBNe, Int.reduceTDiv, decide_true, decide_false, decide_not, Int.max_def, Int.min_def, ↓reduceIte, ne_eq, Bool.not_true, Bool.not_false])))
end Go.Proofs.YtolioflblegneaaGreat
