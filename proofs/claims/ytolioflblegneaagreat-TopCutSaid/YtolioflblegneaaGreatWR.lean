/- The example's space: legs and sizes. The example's space: how near the two bars are. -/
import Derived.Test.YtolioflblegneaaGreatWN
set_option maxRecDepth 100000
set_option linter.unusedSimpArgs false
set_option linter.unusedVariables false
namespace Go.Proofs.YtolioflblegneaaGreat
open Go.RowKit
theorem gAw : (upG noG (Value.string sA) (Value.int IntKind.i64 10) (Value.string sA)).getD (Value.int IntKind.i64 0) = Value.int .i64 10 := rfl
def oSpc (j k n a b : Nat) : Ob := ⟨141, false, .st [.s j 0 0 n a 1, .s k 0 0 n b 1]⟩
def oMp : Ob := ⟨192, false, .mp .string 1 (upG noG (.string sA) (.int .i64 10))⟩
def oLs1 (j a cap : Nat) : Ob := ⟨71, false, .row 1 1 (fun _ => 1) (fun _ => cap) (fun _ _ => [.s j 0 0 1 a 6])⟩
def oLs2 (j k a b cap : Nat) : Ob := ⟨71, false, .row 1 1 (fun _ => 2) (fun _ => cap) (fun _ q => bif q == 0 then [.s j 0 0 1 a 6] else [.s k 0 0 1 b 6])⟩
attribute [push_cast] gAw oSpc oMp oLs1 oLs2
set_option maxHeartbeats 8000000 in
theorem of_sp (c c2 : Nat) : Sp Tryz.prog 113 [.s 0 0 0 1 c 5, .s 2 0 0 1 c2 10] G0 (fun r H => ∃ a b x y, r = .t [.p 3 0 0, .v (.int .i64 0)] ∧ H = G0 ++ [oSpc 6 7 2 x y, oBxs [bxI 0] a, oBxs [bxI 1] b, oLs2 4 5 a b x, rOwn 3 2 y (fun _ => 10)]) := by
  refine sp_weak ?_
  refine sp_of_ex true [(20, .hd 5 18 [0, 1] [2, 3, 4, 5, 6, 9, 10, 11, 12, 13, 14] (.alt [(7, .alt [(8, .one 15 (.one 16 (.one 17 .fin))), (15, .alt [(8, .one 16 (.one 17 .fin)), (16, .one 8 (.one 17 .fin))])]), (15, .alt [(7, .alt [(8, .one 16 (.one 17 .fin)), (16, .one 8 (.one 17 .fin))]), (16, .one 7 (.one 8 (.one 17 .fin)))])]))] mixed Tryz.call113 Tryz.func113 rfl Tryz.ntmps113 Tryz.results113 (by decide +kernel) rfl ?_
  refine sxg ?_
  try with_reducible exact trivial
  refine sp_c (lcount_pu c c2) rfl [0, 1, 2] ?_
  refine sxg ?_
  try with_reducible exact trivial
  refine tr_un mixed (by kernel_rfl) ?_
  refine sxg ?_
  try with_reducible exact trivial
  refine tl_un mixed (by kernel_rfl) ?_
  refine sxg ?_
  try with_reducible exact trivial
  refine tr_un mixed (by kernel_rfl) ?_
  refine sxg ?_
  try with_reducible exact trivial
  refine sp_at (llegs_sp c c2 0 (.inl rfl)) [0, 1, 2] (by kernel_rfl) ?_ ?_ ?_
  · refine sxg ?_
    try with_reducible exact trivial
  · refine sxg ?_
    try with_reducible exact trivial
  rintro _ _ ⟨cap0, hcap0, rfl, rfl⟩
  refine sxg ?_
  try with_reducible exact trivial
  refine sp_c (lmark_pu c c2 0 (.inl rfl)) rfl [0, 1, 2] ?_
  refine sxg ?_
  try with_reducible exact trivial
  refine ⟨Nat × Nat, fun x => [(41, .v (.int .i64 0)), (40, .v (.int .i64 2)), (11, .p 5 0 0), (8, .m 3), (0, .s 0 0 0 1 c 5), (1, .s 2 0 0 1 c2 10), (64, .p 5 0 0), (65, .p 5 0 0), (72, .s 7 0 0 1 x.1 1), (81, .s 8 0 0 1 x.2 1)],
    fun x => [rBa 1 l0 c0, rDs l0, rRn, oMp, deadOb, hollow, oBxs [bxI 0] cap0, oLs1 6 cap0 x.1, rOwn 3 1 x.2 (fun _ => 10)], fun x => 1 ≤ x.1 ∧ 1 ≤ x.2, ?_, ?_⟩
  · refine sxg ?_
    try with_reducible exact trivial
    repeat' (first | (with_reducible apply And.intro) | rfl | (refine Or.inr ?_) | intro _)
    all_goals rename_i p hp q hq
    all_goals first
      | (refine ⟨(p, q), ⟨hp, hq⟩, Mt.wk (rl := [0, 1, 2, 3, 4, 5, 6, 8, 10]) ⟨by kernel_rfl, ?_, ?_⟩⟩ <;> ((simp only [push_cast, ↓branch_true, ↓branch_false, Nat.reduceBEq, Nat.reduceAdd, Nat.reduceMul, Nat.reduceSub, Int.reduceToNat, reduceCtorEq, Int.reduceAdd, Int.reduceEq, Int.reduceLE, Int.reduceLT, Nat.reduceLT, Nat.reduceLeDiff, ↓arr30, ↓arr31, ↓arr32, Int.reduceSub, Int.reduceMul, Int.reduceNeg, Int.reduceBEq, Int.reduceBNe, Int.reduceTDiv, decide_true, decide_false, decide_not, Int.max_def, Int.min_def, ↓reduceIte, ne_eq, Bool.not_true, Bool.not_false])); (refine ⟨?_, ?_⟩ <;> (intro _ _ k hk; have e : k = 0 := Nat.lt_one_iff.mp hk; subst e; ((simp only [push_cast, ↓branch_true, ↓branch_false, Nat.reduceBEq, Nat.reduceAdd, Nat.reduceMul, Nat.reduceSub, Int.reduceToNat, reduceCtorEq, Int.reduceAdd, Int.reduceEq, Int.reduceLE, Int.reduceLT, Nat.reduceLT, Nat.reduceLeDiff, ↓arr30, ↓arr31, ↓arr32, Int.reduceSub, Int.reduceMul, Int.reduceNeg, Int.reduceBEq, Int.reduceBNe, Int.reduceTDiv, decide_true, decide_false, decide_not, Int.max_def, Int.min_def, ↓reduceIte, ne_eq, Bool.not_true, Bool.not_false])))); done)
      | (refine ⟨(q, p), ⟨hq, hp⟩, Mt.wk (rl := [0, 1, 2, 3, 4, 5, 6, 8, 10]) ⟨by kernel_rfl, ?_, ?_⟩⟩ <;> ((simp only [push_cast, ↓branch_true, ↓branch_false, Nat.reduceBEq, Nat.reduceAdd, Nat.reduceMul, Nat.reduceSub, Int.reduceToNat, reduceCtorEq, Int.reduceAdd, Int.reduceEq, Int.reduceLE, Int.reduceLT, Nat.reduceLT, Nat.reduceLeDiff, ↓arr30, ↓arr31, ↓arr32, Int.reduceSub, Int.reduceMul, Int.reduceNeg, Int.reduceBEq, Int.reduceBNe, Int.reduceTDiv, decide_true, decide_false, decide_not, Int.max_def, Int.min_def, ↓reduceIte, ne_eq, Bool.not_true, Bool.not_false])); (refine ⟨?_, ?_⟩ <;> (intro _ _ k hk; have e : k = 0 := Nat.lt_one_iff.mp hk; subst e; ((simp only [push_cast, ↓branch_true, ↓branch_false, Nat.reduceBEq, Nat.reduceAdd, Nat.reduceMul, Nat.reduceSub, Int.reduceToNat, reduceCtorEq, Int.reduceAdd, Int.reduceEq, Int.reduceLE, Int.reduceLT, Nat.reduceLT, Nat.reduceLeDiff, ↓arr30, ↓arr31, ↓arr32, Int.reduceSub, Int.reduceMul, Int.reduceNeg, Int.reduceBEq, Int.reduceBNe, Int.reduceTDiv, decide_true, decide_false, decide_not, Int.max_def, Int.min_def, ↓reduceIte, ne_eq, Bool.not_true, Bool.not_false])))); done)
      | (refine ⟨(p, q), ⟨hp, hq⟩, Mt.wk (rl := [0, 1, 2, 3, 4, 5, 6, 9, 10]) ⟨by kernel_rfl, ?_, ?_⟩⟩ <;> ((simp only [push_cast, ↓branch_true, ↓branch_false, Nat.reduceBEq, Nat.reduceAdd, Nat.reduceMul, Nat.reduceSub, Int.reduceToNat, reduceCtorEq, Int.reduceAdd, Int.reduceEq, Int.reduceLE, Int.reduceLT, Nat.reduceLT, Nat.reduceLeDiff, ↓arr30, ↓arr31, ↓arr32, Int.reduceSub, Int.reduceMul, Int.reduceNeg, Int.reduceBEq, Int.reduceBNe, Int.reduceTDiv, decide_true, decide_false, decide_not, Int.max_def, Int.min_def, ↓reduceIte, ne_eq, Bool.not_true, Bool.not_false])); (refine ⟨?_, ?_⟩ <;> (intro _ _ k hk; have e : k = 0 := Nat.lt_one_iff.mp hk; subst e; ((simp only [push_cast, ↓branch_true, ↓branch_false, Nat.reduceBEq, Nat.reduceAdd, Nat.reduceMul, Nat.reduceSub, Int.reduceToNat, reduceCtorEq, Int.reduceAdd, Int.reduceEq, Int.reduceLE, Int.reduceLT, Nat.reduceLT, Nat.reduceLeDiff, ↓arr30, ↓arr31, ↓arr32, Int.reduceSub, Int.reduceMul, Int.reduceNeg, Int.reduceBEq, Int.reduceBNe, Int.reduceTDiv, decide_true, decide_false, decide_not, Int.max_def, Int.min_def, ↓reduceIte, ne_eq, Bool.not_true, Bool.not_false])))); done)
      | (refine ⟨(q, p), ⟨hq, hp⟩, Mt.wk (rl := [0, 1, 2, 3, 4, 5, 6, 9, 10]) ⟨by kernel_rfl, ?_, ?_⟩⟩ <;> ((simp only [push_cast, ↓branch_true, ↓branch_false, Nat.reduceBEq, Nat.reduceAdd, Nat.reduceMul, Nat.reduceSub, Int.reduceToNat, reduceCtorEq, Int.reduceAdd, Int.reduceEq, Int.reduceLE, Int.reduceLT, Nat.reduceLT, Nat.reduceLeDiff, ↓arr30, ↓arr31, ↓arr32, Int.reduceSub, Int.reduceMul, Int.reduceNeg, Int.reduceBEq, Int.reduceBNe, Int.reduceTDiv, decide_true, decide_false, decide_not, Int.max_def, Int.min_def, ↓reduceIte, ne_eq, Bool.not_true, Bool.not_false])); (refine ⟨?_, ?_⟩ <;> (intro _ _ k hk; have e : k = 0 := Nat.lt_one_iff.mp hk; subst e; ((simp only [push_cast, ↓branch_true, ↓branch_false, Nat.reduceBEq, Nat.reduceAdd, Nat.reduceMul, Nat.reduceSub, Int.reduceToNat, reduceCtorEq, Int.reduceAdd, Int.reduceEq, Int.reduceLE, Int.reduceLT, Nat.reduceLT, Nat.reduceLeDiff, ↓arr30, ↓arr31, ↓arr32, Int.reduceSub, Int.reduceMul, Int.reduceNeg, Int.reduceBEq, Int.reduceBNe, Int.reduceTDiv, decide_true, decide_false, decide_not, Int.max_def, Int.min_def, ↓reduceIte, ne_eq, Bool.not_true, Bool.not_false])))); done)
      | (refine ⟨(p, q), ⟨hp, hq⟩, Mt.wk (rl := [0, 1, 2, 3, 4, 5, 6, 10, 9]) ⟨by kernel_rfl, ?_, ?_⟩⟩ <;> ((simp only [push_cast, ↓branch_true, ↓branch_false, Nat.reduceBEq, Nat.reduceAdd, Nat.reduceMul, Nat.reduceSub, Int.reduceToNat, reduceCtorEq, Int.reduceAdd, Int.reduceEq, Int.reduceLE, Int.reduceLT, Nat.reduceLT, Nat.reduceLeDiff, ↓arr30, ↓arr31, ↓arr32, Int.reduceSub, Int.reduceMul, Int.reduceNeg, Int.reduceBEq, Int.reduceBNe, Int.reduceTDiv, decide_true, decide_false, decide_not, Int.max_def, Int.min_def, ↓reduceIte, ne_eq, Bool.not_true, Bool.not_false])); (refine ⟨?_, ?_⟩ <;> (intro _ _ k hk; have e : k = 0 := Nat.lt_one_iff.mp hk; subst e; ((simp only [push_cast, ↓branch_true, ↓branch_false, Nat.reduceBEq, Nat.reduceAdd, Nat.reduceMul, Nat.reduceSub, Int.reduceToNat, reduceCtorEq, Int.reduceAdd, Int.reduceEq, Int.reduceLE, Int.reduceLT, Nat.reduceLT, Nat.reduceLeDiff, ↓arr30, ↓arr31, ↓arr32, Int.reduceSub, Int.reduceMul, Int.reduceNeg, Int.reduceBEq, Int.reduceBNe, Int.reduceTDiv, decide_true, decide_false, decide_not, Int.max_def, Int.min_def, ↓reduceIte, ne_eq, Bool.not_true, Bool.not_false])))); done)
      | (refine ⟨(q, p), ⟨hq, hp⟩, Mt.wk (rl := [0, 1, 2, 3, 4, 5, 6, 10, 9]) ⟨by kernel_rfl, ?_, ?_⟩⟩ <;> ((simp only [push_cast, ↓branch_true, ↓branch_false, Nat.reduceBEq, Nat.reduceAdd, Nat.reduceMul, Nat.reduceSub, Int.reduceToNat, reduceCtorEq, Int.reduceAdd, Int.reduceEq, Int.reduceLE, Int.reduceLT, Nat.reduceLT, Nat.reduceLeDiff, ↓arr30, ↓arr31, ↓arr32, Int.reduceSub, Int.reduceMul, Int.reduceNeg, Int.reduceBEq, Int.reduceBNe, Int.reduceTDiv, decide_true, decide_false, decide_not, Int.max_def, Int.min_def, ↓reduceIte, ne_eq, Bool.not_true, Bool.not_false])); (refine ⟨?_, ?_⟩ <;> (intro _ _ k hk; have e : k = 0 := Nat.lt_one_iff.mp hk; subst e; ((simp only [push_cast, ↓branch_true, ↓branch_false, Nat.reduceBEq, Nat.reduceAdd, Nat.reduceMul, Nat.reduceSub, Int.reduceToNat, reduceCtorEq, Int.reduceAdd, Int.reduceEq, Int.reduceLE, Int.reduceLT, Nat.reduceLT, Nat.reduceLeDiff, ↓arr30, ↓arr31, ↓arr32, Int.reduceSub, Int.reduceMul, Int.reduceNeg, Int.reduceBEq, Int.reduceBNe, Int.reduceTDiv, decide_true, decide_false, decide_not, Int.max_def, Int.min_def, ↓reduceIte, ne_eq, Bool.not_true, Bool.not_false])))); done)
      | (refine ⟨(p, q), ⟨hp, hq⟩, Mt.wk (rl := [0, 1, 2, 3, 4, 5, 6, 10, 8]) ⟨by kernel_rfl, ?_, ?_⟩⟩ <;> ((simp only [push_cast, ↓branch_true, ↓branch_false, Nat.reduceBEq, Nat.reduceAdd, Nat.reduceMul, Nat.reduceSub, Int.reduceToNat, reduceCtorEq, Int.reduceAdd, Int.reduceEq, Int.reduceLE, Int.reduceLT, Nat.reduceLT, Nat.reduceLeDiff, ↓arr30, ↓arr31, ↓arr32, Int.reduceSub, Int.reduceMul, Int.reduceNeg, Int.reduceBEq, Int.reduceBNe, Int.reduceTDiv, decide_true, decide_false, decide_not, Int.max_def, Int.min_def, ↓reduceIte, ne_eq, Bool.not_true, Bool.not_false])); (refine ⟨?_, ?_⟩ <;> (intro _ _ k hk; have e : k = 0 := Nat.lt_one_iff.mp hk; subst e; ((simp only [push_cast, ↓branch_true, ↓branch_false, Nat.reduceBEq, Nat.reduceAdd, Nat.reduceMul, Nat.reduceSub, Int.reduceToNat, reduceCtorEq, Int.reduceAdd, Int.reduceEq, Int.reduceLE, Int.reduceLT, Nat.reduceLT, Nat.reduceLeDiff, ↓arr30, ↓arr31, ↓arr32, Int.reduceSub, Int.reduceMul, Int.reduceNeg, Int.reduceBEq, Int.reduceBNe, Int.reduceTDiv, decide_true, decide_false, decide_not, Int.max_def, Int.min_def, ↓reduceIte, ne_eq, Bool.not_true, Bool.not_false])))); done)
      | (refine ⟨(q, p), ⟨hq, hp⟩, Mt.wk (rl := [0, 1, 2, 3, 4, 5, 6, 10, 8]) ⟨by kernel_rfl, ?_, ?_⟩⟩ <;> ((simp only [push_cast, ↓branch_true, ↓branch_false, Nat.reduceBEq, Nat.reduceAdd, Nat.reduceMul, Nat.reduceSub, Int.reduceToNat, reduceCtorEq, Int.reduceAdd, Int.reduceEq, Int.reduceLE, Int.reduceLT, Nat.reduceLT, Nat.reduceLeDiff, ↓arr30, ↓arr31, ↓arr32, Int.reduceSub, Int.reduceMul, Int.reduceNeg, Int.reduceBEq, Int.reduceBNe, Int.reduceTDiv, decide_true, decide_false, decide_not, Int.max_def, Int.min_def, ↓reduceIte, ne_eq, Bool.not_true, Bool.not_false])); (refine ⟨?_, ?_⟩ <;> (intro _ _ k hk; have e : k = 0 := Nat.lt_one_iff.mp hk; subst e; ((simp only [push_cast, ↓branch_true, ↓branch_false, Nat.reduceBEq, Nat.reduceAdd, Nat.reduceMul, Nat.reduceSub, Int.reduceToNat, reduceCtorEq, Int.reduceAdd, Int.reduceEq, Int.reduceLE, Int.reduceLT, Nat.reduceLT, Nat.reduceLeDiff, ↓arr30, ↓arr31, ↓arr32, Int.reduceSub, Int.reduceMul, Int.reduceNeg, Int.reduceBEq, Int.reduceBNe, Int.reduceTDiv, decide_true, decide_false, decide_not, Int.max_def, Int.min_def, ↓reduceIte, ne_eq, Bool.not_true, Bool.not_false])))); done)
  rintro ⟨k1, k2⟩ ⟨hk1, hk2⟩
  simp only at hk1 hk2
  refine sxg ?_
  try with_reducible exact trivial
  refine tl_un mixed (by kernel_rfl) ?_
  refine sxg ?_
  try with_reducible exact trivial
  refine sp_at (llegs_sp c c2 1 (.inr rfl)) [0, 1, 2] (by kernel_rfl) ?_ ?_ ?_
  · refine sxg ?_
    try with_reducible exact trivial
  · refine sxg ?_
    try with_reducible exact trivial
  rintro _ _ ⟨cap1, hcap1, rfl, rfl⟩
  refine sxg ?_
  try with_reducible exact trivial
  refine sp_c (lmark_pu c c2 1 (.inr rfl)) rfl [0, 1, 2] ?_
  refine sxg ?_
  try with_reducible exact trivial
  refine ⟨Nat × Nat, fun x => [(41, .v (.int .i64 1)), (40, .v (.int .i64 2)), (11, .p 5 0 0), (8, .m 3), (0, .s 0 0 0 1 c 5), (1, .s 2 0 0 1 c2 10), (64, .p 5 0 0), (65, .p 5 0 0), (72, .s 10 0 0 2 x.1 1), (81, .s 11 0 0 2 x.2 1)],
    fun x => [rBa 1 l0 c0, rDs l0, rRn, oMp, deadOb, hollow, oBxs [bxI 0] cap0, deadOb, deadOb, oBxs [bxI 1] cap1, oLs2 6 9 cap0 cap1 x.1, rOwn 3 2 x.2 (fun _ => 10)], fun x => 2 ≤ x.1 ∧ 2 ≤ x.2, ?_, ?_⟩
  · refine sxg ?_
    try with_reducible exact trivial
    repeat' (first | (with_reducible apply And.intro) | rfl | (refine Or.inr ?_) | intro _)
    all_goals rename_i p hp q hq
    all_goals first
      | (refine ⟨(p, q), ⟨hp, hq⟩, Mt.wk (rl := [0, 1, 2, 3, 4, 5, 6, 7, 8, 9, 11, 13]) ⟨by kernel_rfl, ?_, ?_⟩⟩ <;> ((simp only [push_cast, ↓branch_true, ↓branch_false, Nat.reduceBEq, Nat.reduceAdd, Nat.reduceMul, Nat.reduceSub, Int.reduceToNat, reduceCtorEq, Int.reduceAdd, Int.reduceEq, Int.reduceLE, Int.reduceLT, Nat.reduceLT, Nat.reduceLeDiff, ↓arr30, ↓arr31, ↓arr32, Int.reduceSub, Int.reduceMul, Int.reduceNeg, Int.reduceBEq, Int.reduceBNe, Int.reduceTDiv, decide_true, decide_false, decide_not, Int.max_def, Int.min_def, ↓reduceIte, ne_eq, Bool.not_true, Bool.not_false])); (refine ⟨?_, ?_⟩ <;> (intro _ _ k hk; (obtain e | e : k = 0 ∨ k = 1 := by omega) <;> subst e <;> ((simp only [push_cast, ↓branch_true, ↓branch_false, Nat.reduceBEq, Nat.reduceAdd, Nat.reduceMul, Nat.reduceSub, Int.reduceToNat, reduceCtorEq, Int.reduceAdd, Int.reduceEq, Int.reduceLE, Int.reduceLT, Nat.reduceLT, Nat.reduceLeDiff, ↓arr30, ↓arr31, ↓arr32, Int.reduceSub, Int.reduceMul, Int.reduceNeg, Int.reduceBEq, Int.reduceBNe, Int.reduceTDiv, decide_true, decide_false, decide_not, Int.max_def, Int.min_def, ↓reduceIte, ne_eq, Bool.not_true, Bool.not_false])))); done)
      | (refine ⟨(q, p), ⟨hq, hp⟩, Mt.wk (rl := [0, 1, 2, 3, 4, 5, 6, 7, 8, 9, 11, 13]) ⟨by kernel_rfl, ?_, ?_⟩⟩ <;> ((simp only [push_cast, ↓branch_true, ↓branch_false, Nat.reduceBEq, Nat.reduceAdd, Nat.reduceMul, Nat.reduceSub, Int.reduceToNat, reduceCtorEq, Int.reduceAdd, Int.reduceEq, Int.reduceLE, Int.reduceLT, Nat.reduceLT, Nat.reduceLeDiff, ↓arr30, ↓arr31, ↓arr32, Int.reduceSub, Int.reduceMul, Int.reduceNeg, Int.reduceBEq, Int.reduceBNe, Int.reduceTDiv, decide_true, decide_false, decide_not, Int.max_def, Int.min_def, ↓reduceIte, ne_eq, Bool.not_true, Bool.not_false])); (refine ⟨?_, ?_⟩ <;> (intro _ _ k hk; (obtain e | e : k = 0 ∨ k = 1 := by omega) <;> subst e <;> ((simp only [push_cast, ↓branch_true, ↓branch_false, Nat.reduceBEq, Nat.reduceAdd, Nat.reduceMul, Nat.reduceSub, Int.reduceToNat, reduceCtorEq, Int.reduceAdd, Int.reduceEq, Int.reduceLE, Int.reduceLT, Nat.reduceLT, Nat.reduceLeDiff, ↓arr30, ↓arr31, ↓arr32, Int.reduceSub, Int.reduceMul, Int.reduceNeg, Int.reduceBEq, Int.reduceBNe, Int.reduceTDiv, decide_true, decide_false, decide_not, Int.max_def, Int.min_def, ↓reduceIte, ne_eq, Bool.not_true, Bool.not_false])))); done)
      | (refine ⟨(p, q), ⟨hp, hq⟩, Mt.wk (rl := [0, 1, 2, 3, 4, 5, 6, 7, 8, 9, 12, 13]) ⟨by kernel_rfl, ?_, ?_⟩⟩ <;> ((simp only [push_cast, ↓branch_true, ↓branch_false, Nat.reduceBEq, Nat.reduceAdd, Nat.reduceMul, Nat.reduceSub, Int.reduceToNat, reduceCtorEq, Int.reduceAdd, Int.reduceEq, Int.reduceLE, Int.reduceLT, Nat.reduceLT, Nat.reduceLeDiff, ↓arr30, ↓arr31, ↓arr32, Int.reduceSub, Int.reduceMul, Int.reduceNeg, Int.reduceBEq, Int.reduceBNe, Int.reduceTDiv, decide_true, decide_false, decide_not, Int.max_def, Int.min_def, ↓reduceIte, ne_eq, Bool.not_true, Bool.not_false])); (refine ⟨?_, ?_⟩ <;> (intro _ _ k hk; (obtain e | e : k = 0 ∨ k = 1 := by omega) <;> subst e <;> ((simp only [push_cast, ↓branch_true, ↓branch_false, Nat.reduceBEq, Nat.reduceAdd, Nat.reduceMul, Nat.reduceSub, Int.reduceToNat, reduceCtorEq, Int.reduceAdd, Int.reduceEq, Int.reduceLE, Int.reduceLT, Nat.reduceLT, Nat.reduceLeDiff, ↓arr30, ↓arr31, ↓arr32, Int.reduceSub, Int.reduceMul, Int.reduceNeg, Int.reduceBEq, Int.reduceBNe, Int.reduceTDiv, decide_true, decide_false, decide_not, Int.max_def, Int.min_def, ↓reduceIte, ne_eq, Bool.not_true, Bool.not_false])))); done)
      | (refine ⟨(q, p), ⟨hq, hp⟩, Mt.wk (rl := [0, 1, 2, 3, 4, 5, 6, 7, 8, 9, 12, 13]) ⟨by kernel_rfl, ?_, ?_⟩⟩ <;> ((simp only [push_cast, ↓branch_true, ↓branch_false, Nat.reduceBEq, Nat.reduceAdd, Nat.reduceMul, Nat.reduceSub, Int.reduceToNat, reduceCtorEq, Int.reduceAdd, Int.reduceEq, Int.reduceLE, Int.reduceLT, Nat.reduceLT, Nat.reduceLeDiff, ↓arr30, ↓arr31, ↓arr32, Int.reduceSub, Int.reduceMul, Int.reduceNeg, Int.reduceBEq, Int.reduceBNe, Int.reduceTDiv, decide_true, decide_false, decide_not, Int.max_def, Int.min_def, ↓reduceIte, ne_eq, Bool.not_true, Bool.not_false])); (refine ⟨?_, ?_⟩ <;> (intro _ _ k hk; (obtain e | e : k = 0 ∨ k = 1 := by omega) <;> subst e <;> ((simp only [push_cast, ↓branch_true, ↓branch_false, Nat.reduceBEq, Nat.reduceAdd, Nat.reduceMul, Nat.reduceSub, Int.reduceToNat, reduceCtorEq, Int.reduceAdd, Int.reduceEq, Int.reduceLE, Int.reduceLT, Nat.reduceLT, Nat.reduceLeDiff, ↓arr30, ↓arr31, ↓arr32, Int.reduceSub, Int.reduceMul, Int.reduceNeg, Int.reduceBEq, Int.reduceBNe, Int.reduceTDiv, decide_true, decide_false, decide_not, Int.max_def, Int.min_def, ↓reduceIte, ne_eq, Bool.not_true, Bool.not_false])))); done)
      | (refine ⟨(p, q), ⟨hp, hq⟩, Mt.wk (rl := [0, 1, 2, 3, 4, 5, 6, 7, 8, 9, 13, 12]) ⟨by kernel_rfl, ?_, ?_⟩⟩ <;> ((simp only [push_cast, ↓branch_true, ↓branch_false, Nat.reduceBEq, Nat.reduceAdd, Nat.reduceMul, Nat.reduceSub, Int.reduceToNat, reduceCtorEq, Int.reduceAdd, Int.reduceEq, Int.reduceLE, Int.reduceLT, Nat.reduceLT, Nat.reduceLeDiff, ↓arr30, ↓arr31, ↓arr32, Int.reduceSub, Int.reduceMul, Int.reduceNeg, Int.reduceBEq, Int.reduceBNe, Int.reduceTDiv, decide_true, decide_false, decide_not, Int.max_def, Int.min_def, ↓reduceIte, ne_eq, Bool.not_true, Bool.not_false])); (refine ⟨?_, ?_⟩ <;> (intro _ _ k hk; (obtain e | e : k = 0 ∨ k = 1 := by omega) <;> subst e <;> ((simp only [push_cast, ↓branch_true, ↓branch_false, Nat.reduceBEq, Nat.reduceAdd, Nat.reduceMul, Nat.reduceSub, Int.reduceToNat, reduceCtorEq, Int.reduceAdd, Int.reduceEq, Int.reduceLE, Int.reduceLT, Nat.reduceLT, Nat.reduceLeDiff, ↓arr30, ↓arr31, ↓arr32, Int.reduceSub, Int.reduceMul, Int.reduceNeg, Int.reduceBEq, Int.reduceBNe, Int.reduceTDiv, decide_true, decide_false, decide_not, Int.max_def, Int.min_def, ↓reduceIte, ne_eq, Bool.not_true, Bool.not_false])))); done)
      | (refine ⟨(q, p), ⟨hq, hp⟩, Mt.wk (rl := [0, 1, 2, 3, 4, 5, 6, 7, 8, 9, 13, 12]) ⟨by kernel_rfl, ?_, ?_⟩⟩ <;> ((simp only [push_cast, ↓branch_true, ↓branch_false, Nat.reduceBEq, Nat.reduceAdd, Nat.reduceMul, Nat.reduceSub, Int.reduceToNat, reduceCtorEq, Int.reduceAdd, Int.reduceEq, Int.reduceLE, Int.reduceLT, Nat.reduceLT, Nat.reduceLeDiff, ↓arr30, ↓arr31, ↓arr32, Int.reduceSub, Int.reduceMul, Int.reduceNeg, Int.reduceBEq, Int.reduceBNe, Int.reduceTDiv, decide_true, decide_false, decide_not, Int.max_def, Int.min_def, ↓reduceIte, ne_eq, Bool.not_true, Bool.not_false])); (refine ⟨?_, ?_⟩ <;> (intro _ _ k hk; (obtain e | e : k = 0 ∨ k = 1 := by omega) <;> subst e <;> ((simp only [push_cast, ↓branch_true, ↓branch_false, Nat.reduceBEq, Nat.reduceAdd, Nat.reduceMul, Nat.reduceSub, Int.reduceToNat, reduceCtorEq, Int.reduceAdd, Int.reduceEq, Int.reduceLE, Int.reduceLT, Nat.reduceLT, Nat.reduceLeDiff, ↓arr30, ↓arr31, ↓arr32, Int.reduceSub, Int.reduceMul, Int.reduceNeg, Int.reduceBEq, Int.reduceBNe, Int.reduceTDiv, decide_true, decide_false, decide_not, Int.max_def, Int.min_def, ↓reduceIte, ne_eq, Bool.not_true, Bool.not_false])))); done)
      | (refine ⟨(p, q), ⟨hp, hq⟩, Mt.wk (rl := [0, 1, 2, 3, 4, 5, 6, 7, 8, 9, 13, 11]) ⟨by kernel_rfl, ?_, ?_⟩⟩ <;> ((simp only [push_cast, ↓branch_true, ↓branch_false, Nat.reduceBEq, Nat.reduceAdd, Nat.reduceMul, Nat.reduceSub, Int.reduceToNat, reduceCtorEq, Int.reduceAdd, Int.reduceEq, Int.reduceLE, Int.reduceLT, Nat.reduceLT, Nat.reduceLeDiff, ↓arr30, ↓arr31, ↓arr32, Int.reduceSub, Int.reduceMul, Int.reduceNeg, Int.reduceBEq, Int.reduceBNe, Int.reduceTDiv, decide_true, decide_false, decide_not, Int.max_def, Int.min_def, ↓reduceIte, ne_eq, Bool.not_true, Bool.not_false])); (refine ⟨?_, ?_⟩ <;> (intro _ _ k hk; (obtain e | e : k = 0 ∨ k = 1 := by omega) <;> subst e <;> ((simp only [push_cast, ↓branch_true, ↓branch_false, Nat.reduceBEq, Nat.reduceAdd, Nat.reduceMul, Nat.reduceSub, Int.reduceToNat, reduceCtorEq, Int.reduceAdd, Int.reduceEq, Int.reduceLE, Int.reduceLT, Nat.reduceLT, Nat.reduceLeDiff, ↓arr30, ↓arr31, ↓arr32, Int.reduceSub, Int.reduceMul, Int.reduceNeg, Int.reduceBEq, Int.reduceBNe, Int.reduceTDiv, decide_true, decide_false, decide_not, Int.max_def, Int.min_def, ↓reduceIte, ne_eq, Bool.not_true, Bool.not_false])))); done)
      | (refine ⟨(q, p), ⟨hq, hp⟩, Mt.wk (rl := [0, 1, 2, 3, 4, 5, 6, 7, 8, 9, 13, 11]) ⟨by kernel_rfl, ?_, ?_⟩⟩ <;> ((simp only [push_cast, ↓branch_true, ↓branch_false, Nat.reduceBEq, Nat.reduceAdd, Nat.reduceMul, Nat.reduceSub, Int.reduceToNat, reduceCtorEq, Int.reduceAdd, Int.reduceEq, Int.reduceLE, Int.reduceLT, Nat.reduceLT, Nat.reduceLeDiff, ↓arr30, ↓arr31, ↓arr32, Int.reduceSub, Int.reduceMul, Int.reduceNeg, Int.reduceBEq, Int.reduceBNe, Int.reduceTDiv, decide_true, decide_false, decide_not, Int.max_def, Int.min_def, ↓reduceIte, ne_eq, Bool.not_true, Bool.not_false])); (refine ⟨?_, ?_⟩ <;> (intro _ _ k hk; (obtain e | e : k = 0 ∨ k = 1 := by omega) <;> subst e <;> ((simp only [push_cast, ↓branch_true, ↓branch_false, Nat.reduceBEq, Nat.reduceAdd, Nat.reduceMul, Nat.reduceSub, Int.reduceToNat, reduceCtorEq, Int.reduceAdd, Int.reduceEq, Int.reduceLE, Int.reduceLT, Nat.reduceLT, Nat.reduceLeDiff, ↓arr30, ↓arr31, ↓arr32, Int.reduceSub, Int.reduceMul, Int.reduceNeg, Int.reduceBEq, Int.reduceBNe, Int.reduceTDiv, decide_true, decide_false, decide_not, Int.max_def, Int.min_def, ↓reduceIte, ne_eq, Bool.not_true, Bool.not_false])))); done)
  rintro ⟨k3, k4⟩ ⟨hk3, hk4⟩
  simp only at hk3 hk4
  refine sxg ?_
  try with_reducible exact trivial
  refine tl_un mixed (by kernel_rfl) ?_
  refine sxg ?_
  try with_reducible exact trivial
  refine ⟨_, _, [0, 1, 2, 5, 6, 9, 10, 11], ?_, by kernel_rfl, ?_, cap0, cap1, k3, k4, rfl, rfl⟩
  · refine sxg ?_
    try with_reducible exact trivial
  · refine sxg ?_
    try with_reducible exact trivial
    intro _ _ k hk
    (obtain e | e : k = 0 ∨ k = 1 := by omega) <;> subst e <;> ((simp only [push_cast, ↓branch_true, ↓branch_false, Nat.reduceBEq, Nat.reduceAdd, Nat.reduceMul, Nat.reduceSub, Int.reduceToNat, reduceCtorEq, Int.reduceAdd, Int.reduceEq, Int.reduceLE, Int.reduceLT, Nat.reduceLT, Nat.reduceLeDiff, ↓arr30, ↓arr31, ↓arr32, Int.reduceSub, Int.reduceMul, Int.reduceNeg, Int.reduceBEq, Int.reduceBNe, Int.reduceTDiv, decide_true, decide_false, decide_not, Int.max_def, Int.min_def, ↓reduceIte, ne_eq, Bool.not_true, Bool.not_false]))
end Go.Proofs.YtolioflblegneaaGreat
namespace Go.Proofs.YtolioflblegneaaGreat
open Go.RowKit
def rSpc (n a b : Nat) : Ob := ⟨141, true, .st [.s 1 0 0 n a 1, .s 2 0 0 n b 1]⟩
def rLs2 (a b : Nat) : Ob := ⟨71, true, .row 1 1 (fun _ => 2) (fun _ => 0) (fun _ q => bif q == 0 then [.s 3 0 0 1 a 6] else [.s 4 0 0 1 b 6])⟩
def rTen : Ob := ⟨3, true, .row 1 1 (fun _ => 2) (fun _ => 0) (fun _ _ => [.v (.int .i64 10)])⟩
def SPC (a b x y : Nat) : List Ob := [rSpc 2 x y, rLs2 a b, rTen, rBxs [bxI 0], rBxs [bxI 1]]
attribute [push_cast] rSpc rLs2 rTen SPC bxI
set_option maxHeartbeats 8000000 in
theorem sqd_pu (a b x y : Nat) : Pu Tryz.prog 114 [.p 0 0 0, .v (.int .i64 0), .v (.int .i64 1)] (SPC a b x y) (.t [.v (.int .i64 900), .a (cP ⟨50, 50, 100⟩), .a (cP ⟨50, 80, 100⟩)]) := by
  have hq := square_pu bx0 bx1 (by decide +kernel) (by decide +kernel)
  rw [show sqB bx0 bx1 = 900 by decide +kernel] at hq
  refine pu_of_ex true [(14, .one 0 (.one 3 (.alt [(1, .alt [(2, .one 4 (.one 5 .fin)), (4, .one 2 (.one 5 .fin))]), (2, .one 1 (.one 4 (.one 5 .fin)))])))] mixed Tryz.call114 Tryz.func114 rfl Tryz.ntmps114 Tryz.results114 (by decide +kernel) rfl rfl rfl ?_
  refine sxg ?_
  try with_reducible exact trivial
  refine tr_un mixed (by kernel_rfl) ?_
  refine sxg ?_
  try with_reducible exact trivial
  refine tr_un mixed (by kernel_rfl) ?_
  refine sxg ?_
  try with_reducible exact trivial
  refine sp_c (hq) rfl [] ?_
  refine sxg ?_
  try with_reducible exact trivial
  refine sp_c (nearest_pu) rfl [] ?_
  refine sxg ?_
  try with_reducible exact trivial
  refine tl_un mixed (by kernel_rfl) ?_
  refine sxg ?_
  try with_reducible exact trivial
  refine tl_un mixed (by kernel_rfl) ?_
  refine sxg ?_
  try with_reducible exact trivial
theorem need0_pu : Pu Tryz.prog 115 [.v (.int .i64 10), .v (.int .i64 10), .v (.int .i64 20)] [] (.v (.int .i64 3600)) := by
  refine pu_of_ex true [] mixed Tryz.call115 Tryz.func115 rfl Tryz.ntmps115 Tryz.results115 (by decide +kernel) rfl rfl rfl ?_
  refine sxg ?_
  try with_reducible exact trivial
theorem need1_pu : Pu Tryz.prog 115 [.v (.int .i64 10), .v (.int .i64 10), .v (.int .i64 21)] [] (.v (.int .i64 3844)) := by
  refine pu_of_ex true [] mixed Tryz.call115 Tryz.func115 rfl Tryz.ntmps115 Tryz.results115 (by decide +kernel) rfl rfl rfl ?_
  refine sxg ?_
  try with_reducible exact trivial
def cNr : List SV := [.v (.int .i64 0), .v (.int .i64 1), .v (.int .i64 50), .v (.int .i64 50), .v (.int .i64 100), .v (.int .i64 50), .v (.int .i64 80), .v (.int .i64 100)]
attribute [push_cast] cNr
theorem nr0_pu (a b x y : Nat) : Pu Tryz.prog 75 [.p 0 0 0, .v (.int .i64 0), .v (.int .i64 1), .v (.int .i64 20)] (SPC a b x y) (.t [.a cNr, .v (.bool false)]) := by
  refine pu_of_ex true [(2, .pre [6, 7] [0, 1, 2, 3, 4, 5, 6, 7, 8, 9, 10, 11, 12, 13, 14, 15, 16, 17, 18, 19, 20, 21] (.one 22 (.one 23 (.one 24 (.one 25 .fin)))))] mixed Tryz.call75 Tryz.func75 rfl Tryz.ntmps75 Tryz.results75 (by decide +kernel) rfl rfl rfl ?_
  refine sxg ?_
  try with_reducible exact trivial
  refine sp_call (sqd_pu a b x y) rfl [0, 1, 2, 3, 4] rfl ?_ ?_ ?_
  · refine sxg ?_
    try with_reducible exact trivial
  · refine sxg ?_
    try with_reducible exact trivial
    intro _ _ k hk
    (obtain e | e : k = 0 ∨ k = 1 := by omega) <;> subst e <;> ((simp only [push_cast, ↓branch_true, ↓branch_false, Nat.reduceBEq, Nat.reduceAdd, Nat.reduceMul, Nat.reduceSub, Int.reduceToNat, reduceCtorEq, Int.reduceAdd, Int.reduceEq, Int.reduceLE, Int.reduceLT, Nat.reduceLT, Nat.reduceLeDiff, ↓arr30, ↓arr31, ↓arr32, Int.reduceSub, Int.reduceMul, Int.reduceNeg, Int.reduceBEq, Int.reduceBNe, Int.reduceTDiv, decide_true, decide_false, decide_not, Int.max_def, Int.min_def, ↓reduceIte, ne_eq, Bool.not_true, Bool.not_false]))
  refine sxg ?_
  try with_reducible exact trivial
  refine sp_c (need0_pu) rfl [] ?_
  refine sxg ?_
  try with_reducible exact trivial
theorem nr1_pu (a b x y : Nat) : Pu Tryz.prog 75 [.p 0 0 0, .v (.int .i64 0), .v (.int .i64 1), .v (.int .i64 21)] (SPC a b x y) (.t [.a cNr, .v (.bool true)]) := by
  refine pu_of_ex true [(2, .pre [6, 7] [0, 1, 2, 3, 4, 5, 6, 7, 8, 9, 10, 11, 12, 13, 14, 15, 16, 17, 18, 19, 20, 21] (.one 22 (.one 23 (.one 24 (.one 25 .fin)))))] mixed Tryz.call75 Tryz.func75 rfl Tryz.ntmps75 Tryz.results75 (by decide +kernel) rfl rfl rfl ?_
  refine sxg ?_
  try with_reducible exact trivial
  refine sp_call (sqd_pu a b x y) rfl [0, 1, 2, 3, 4] rfl ?_ ?_ ?_
  · refine sxg ?_
    try with_reducible exact trivial
  · refine sxg ?_
    try with_reducible exact trivial
    intro _ _ k hk
    (obtain e | e : k = 0 ∨ k = 1 := by omega) <;> subst e <;> ((simp only [push_cast, ↓branch_true, ↓branch_false, Nat.reduceBEq, Nat.reduceAdd, Nat.reduceMul, Nat.reduceSub, Int.reduceToNat, reduceCtorEq, Int.reduceAdd, Int.reduceEq, Int.reduceLE, Int.reduceLT, Nat.reduceLT, Nat.reduceLeDiff, ↓arr30, ↓arr31, ↓arr32, Int.reduceSub, Int.reduceMul, Int.reduceNeg, Int.reduceBEq, Int.reduceBNe, Int.reduceTDiv, decide_true, decide_false, decide_not, Int.max_def, Int.min_def, ↓reduceIte, ne_eq, Bool.not_true, Bool.not_false]))
  refine sxg ?_
  try with_reducible exact trivial
  refine sp_c (need1_pu) rfl [] ?_
  refine sxg ?_
  try with_reducible exact trivial
theorem given_sp (c c2 : Nat) (z : Int) (hz : 0 ≤ z ∧ z ≤ 1000) : Sp Tryz.prog 74 [.s 0 0 0 1 c 5, .s 2 0 0 1 c2 10, .v (.int .i64 z)] G0 (fun r H => ∃ a b x y, r = .t [.p 3 0 0, .v (.int .i64 0)] ∧ H = G0 ++ [oSpc 6 7 2 x y, oBxs [bxI 0] a, oBxs [bxI 1] b, oLs2 4 5 a b x, rOwn 3 2 y (fun _ => 10)]) := by
  refine sp_weak ?_
  refine sp_of_ex true [] mixed Tryz.call74 Tryz.func74 rfl Tryz.ntmps74 Tryz.results74 (by decide +kernel) rfl ?_
  refine sxg ?_
  try with_reducible exact trivial
  refine sp_at (of_sp c c2) [0, 1, 2] (by kernel_rfl) ?_ ?_ ?_
  · refine sxg ?_
    try with_reducible exact trivial
  · refine sxg ?_
    try with_reducible exact trivial
  rintro _ _ ⟨a, b, x, y, rfl, rfl⟩
  refine sxg ?_
  try with_reducible exact trivial
  refine ⟨fun h => by omega, fun _ => ⟨fun h => by omega, fun _ => ?_⟩⟩
  refine ⟨_, _, [0, 1, 2, 3, 4, 5, 6, 7], ?_, by kernel_rfl, ?_, a, b, x, y, rfl, rfl⟩
  · refine sxg ?_
    try with_reducible exact trivial
  · refine sxg ?_
    try with_reducible exact trivial
    intro _ _ k hk
    (obtain e | e : k = 0 ∨ k = 1 := by omega) <;> subst e <;> ((simp only [push_cast, ↓branch_true, ↓branch_false, Nat.reduceBEq, Nat.reduceAdd, Nat.reduceMul, Nat.reduceSub, Int.reduceToNat, reduceCtorEq, Int.reduceAdd, Int.reduceEq, Int.reduceLE, Int.reduceLT, Nat.reduceLT, Nat.reduceLeDiff, ↓arr30, ↓arr31, ↓arr32, Int.reduceSub, Int.reduceMul, Int.reduceNeg, Int.reduceBEq, Int.reduceBNe, Int.reduceTDiv, decide_true, decide_false, decide_not, Int.max_def, Int.min_def, ↓reduceIte, ne_eq, Bool.not_true, Bool.not_false]))
set_option maxHeartbeats 4000000 in
theorem free0_pu (c c2 : Nat) : Pu Tryz.prog 33 [.s 0 0 0 1 c 5, .s 2 0 0 1 c2 10, .v (.int .i64 20)] G0 (.t [.v (.bool true), .v (.int .i64 0)]) := by
  refine pu_of_ex true [] mixed Tryz.call33 Tryz.func33 rfl Tryz.ntmps33 Tryz.results33 (by decide +kernel) rfl rfl rfl ?_
  refine sxg ?_
  try with_reducible exact trivial
  refine sp_at (given_sp c c2 20 (by omega)) [0, 1, 2] (by kernel_rfl) ?_ ?_ ?_
  · refine sxg ?_
    try with_reducible exact trivial
  · refine sxg ?_
    try with_reducible exact trivial
  rintro _ _ ⟨a, b, x, y, rfl, rfl⟩
  refine sxg ?_
  try with_reducible exact trivial
  refine tr_un mixed (by kernel_rfl) ?_
  refine sxg ?_
  try with_reducible exact trivial
  refine tr_un mixed (by kernel_rfl) ?_
  refine sxg ?_
  try with_reducible exact trivial
  refine tl_un mixed (by kernel_rfl) ?_
  refine sxg ?_
  try with_reducible exact trivial
  refine tr_un mixed (by kernel_rfl) ?_
  refine sxg ?_
  try with_reducible exact trivial
  refine sp_call (nr0_pu a b x y) rfl [3, 6, 7, 4, 5] rfl ?_ ?_ ?_
  · refine sxg ?_
    try with_reducible exact trivial
  · refine sxg ?_
    try with_reducible exact trivial
    intro _ _ k hk
    (obtain e | e : k = 0 ∨ k = 1 := by omega) <;> subst e <;> ((simp only [push_cast, ↓branch_true, ↓branch_false, Nat.reduceBEq, Nat.reduceAdd, Nat.reduceMul, Nat.reduceSub, Int.reduceToNat, reduceCtorEq, Int.reduceAdd, Int.reduceEq, Int.reduceLE, Int.reduceLT, Nat.reduceLT, Nat.reduceLeDiff, ↓arr30, ↓arr31, ↓arr32, Int.reduceSub, Int.reduceMul, Int.reduceNeg, Int.reduceBEq, Int.reduceBNe, Int.reduceTDiv, decide_true, decide_false, decide_not, Int.max_def, Int.min_def, ↓reduceIte, ne_eq, Bool.not_true, Bool.not_false]))
  refine sxg ?_
  try with_reducible exact trivial
  refine tl_un mixed (by kernel_rfl) ?_
  refine sxg ?_
  try with_reducible exact trivial
  refine tl_un mixed (by kernel_rfl) ?_
  refine sxg ?_
  try with_reducible exact trivial
set_option maxHeartbeats 4000000 in
theorem free1_pu (c c2 : Nat) : Pu Tryz.prog 33 [.s 0 0 0 1 c 5, .s 2 0 0 1 c2 10, .v (.int .i64 21)] G0 (.t [.v (.bool false), .v (.int .i64 0)]) := by
  refine pu_of_ex true [] mixed Tryz.call33 Tryz.func33 rfl Tryz.ntmps33 Tryz.results33 (by decide +kernel) rfl rfl rfl ?_
  refine sxg ?_
  try with_reducible exact trivial
  refine sp_at (given_sp c c2 21 (by omega)) [0, 1, 2] (by kernel_rfl) ?_ ?_ ?_
  · refine sxg ?_
    try with_reducible exact trivial
  · refine sxg ?_
    try with_reducible exact trivial
  rintro _ _ ⟨a, b, x, y, rfl, rfl⟩
  refine sxg ?_
  try with_reducible exact trivial
  refine tr_un mixed (by kernel_rfl) ?_
  refine sxg ?_
  try with_reducible exact trivial
  refine tr_un mixed (by kernel_rfl) ?_
  refine sxg ?_
  try with_reducible exact trivial
  refine tl_un mixed (by kernel_rfl) ?_
  refine sxg ?_
  try with_reducible exact trivial
  refine tr_un mixed (by kernel_rfl) ?_
  refine sxg ?_
  try with_reducible exact trivial
  refine sp_call (nr1_pu a b x y) rfl [3, 6, 7, 4, 5] rfl ?_ ?_ ?_
  · refine sxg ?_
    try with_reducible exact trivial
  · refine sxg ?_
    try with_reducible exact trivial
    intro _ _ k hk
    (obtain e | e : k = 0 ∨ k = 1 := by omega) <;> subst e <;> ((simp only [push_cast, ↓branch_true, ↓branch_false, Nat.reduceBEq, Nat.reduceAdd, Nat.reduceMul, Nat.reduceSub, Int.reduceToNat, reduceCtorEq, Int.reduceAdd, Int.reduceEq, Int.reduceLE, Int.reduceLT, Nat.reduceLT, Nat.reduceLeDiff, ↓arr30, ↓arr31, ↓arr32, Int.reduceSub, Int.reduceMul, Int.reduceNeg, Int.reduceBEq, Int.reduceBNe, Int.reduceTDiv, decide_true, decide_false, decide_not, Int.max_def, Int.min_def, ↓reduceIte, ne_eq, Bool.not_true, Bool.not_false]))
  refine sxg ?_
  try with_reducible exact trivial
end Go.Proofs.YtolioflblegneaaGreat
