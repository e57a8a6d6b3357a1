/- The example is what it should be: sureBars, sureAwake. The self-check answers true. -/
import Derived.Test.YtolioflblegneaaGreatXG
import Derived.Test.YtolioflblegneaaGreatVA
set_option maxRecDepth 100000
set_option linter.unusedSimpArgs false
set_option linter.unusedVariables false
namespace Go.Proofs.YtolioflblegneaaGreat
open Go.RowKit
theorem pt_pu (x y z : Int) : Pu Tryz.prog 73 [.v (.int .i64 x), .v (.int .i64 y), .v (.int .i64 z)] [] (.a [.v (.int .i64 x), .v (.int .i64 y), .v (.int .i64 z)]) := by
  refine pu_of_ex true [] mixed Tryz.call73 Tryz.func73 rfl Tryz.ntmps73 Tryz.results73 (by decide +kernel) rfl rfl rfl ?_
  refine sxg ?_
  try with_reducible exact trivial
theorem pt_any (x y z : Int) (H : List Ob) : Pu Tryz.prog 73 [.v (.int .i64 x), .v (.int .i64 y), .v (.int .i64 z)] H (.a [.v (.int .i64 x), .v (.int .i64 y), .v (.int .i64 z)]) := pu_a (pt_pu x y z) rfl H
def oEx : List Ob := [⟨58, false, .row 5 1 (fun _ => 1) (fun _ => 1) (fun _ _ => [.v (.string sA), .v (.int .i64 10), .v (.int .i64 2), .v (.int .i64 0), .s 1 0 0 1 1 1])⟩,
  ⟨3, false, .row 1 1 (fun _ => 1) (fun _ => 1) (fun _ _ => [.v (.int .i64 300)])⟩,
  ⟨135, false, .row 10 1 (fun _ => 1) (fun _ => 1) (fun _ _ => [.v (.string sA), .v (.int .i64 1), .v (.int .i64 2), .v (.int .i64 50), .v (.int .i64 50), .v (.int .i64 100), .v (.int .i64 0), .v (.int .i64 30), .v (.int .i64 0), .v (.int .i64 2)])⟩,
  oBxs [bM] 1]
attribute [push_cast] oEx sA sM bM
set_option maxHeartbeats 8000000 in
theorem sure_sp : Sp Tryz.prog 32 [] [] (fun r H => r = .t [.a (cMem3 1), .s 0 0 0 1 1 5, .s 2 0 0 1 1 10] ∧ H = oEx) := by
  refine sp_weak ?_
  refine sp_of_ex true [(3, .pre [2] [0, 4, 5, 7] (.alt [(1, .one 2 (.alt [(3, .one 6 (.one 8 (.one 9 (.alt [(10, .one 11 (.one 12 (.one 13 .fin))), (11, .one 12 (.one 10 (.one 13 .fin)))])))), (6, .alt [(3, .one 8 (.one 9 (.alt [(10, .one 11 (.one 12 (.one 13 .fin))), (11, .one 12 (.one 10 (.one 13 .fin)))]))), (8, .one 9 (.alt [(3, .alt [(10, .one 11 (.one 12 (.one 13 .fin))), (11, .one 12 (.one 10 (.one 13 .fin)))]), (10, .alt [(3, .one 11 (.one 12 (.one 13 .fin))), (11, .one 3 (.one 12 (.one 13 .fin)))]), (11, .alt [(3, .one 12 (.one 10 (.one 13 .fin))), (10, .one 3 (.one 12 (.one 13 .fin)))])]))])])), (6, .alt [(1, .one 2 (.alt [(3, .one 8 (.one 9 (.alt [(10, .one 11 (.one 12 (.one 13 .fin))), (11, .one 12 (.one 10 (.one 13 .fin)))]))), (8, .one 9 (.alt [(3, .alt [(10, .one 11 (.one 12 (.one 13 .fin))), (11, .one 12 (.one 10 (.one 13 .fin)))]), (10, .alt [(3, .one 11 (.one 12 (.one 13 .fin))), (11, .one 3 (.one 12 (.one 13 .fin)))]), (11, .alt [(3, .one 12 (.one 10 (.one 13 .fin))), (10, .one 3 (.one 12 (.one 13 .fin)))])]))])), (8, .one 9 (.alt [(1, .one 2 (.alt [(3, .alt [(10, .one 11 (.one 12 (.one 13 .fin))), (11, .one 12 (.one 10 (.one 13 .fin)))]), (10, .alt [(3, .one 11 (.one 12 (.one 13 .fin))), (11, .one 3 (.one 12 (.one 13 .fin)))]), (11, .alt [(3, .one 12 (.one 10 (.one 13 .fin))), (10, .one 3 (.one 12 (.one 13 .fin)))])])), (10, .alt [(1, .one 2 (.alt [(3, .one 11 (.one 12 (.one 13 .fin))), (11, .one 3 (.one 12 (.one 13 .fin)))])), (11, .one 1 (.one 2 (.one 3 (.one 12 (.one 13 .fin)))))]), (11, .alt [(1, .one 2 (.alt [(3, .one 12 (.one 10 (.one 13 .fin))), (10, .one 3 (.one 12 (.one 13 .fin)))])), (10, .one 1 (.one 2 (.one 3 (.one 12 (.one 13 .fin)))))])]))])]))] mixed Tryz.call32 Tryz.func32 rfl Tryz.ntmps32 Tryz.results32 (by decide +kernel) rfl ?_
  refine sxg ?_
  try with_reducible exact trivial
  refine sp_c (pt_pu 400 200 200) rfl [] ?_
  refine sxg ?_
  try with_reducible exact trivial
  repeat' first
    | (with_reducible apply And.intro)
    | (refine sp_pu (pt_any _ _ _ _) ?_; ((simp only [push_cast, ↓branch_true, ↓branch_false, Nat.reduceBEq, Nat.reduceAdd, Nat.reduceMul, Nat.reduceSub, Int.reduceToNat, reduceCtorEq, Int.reduceAdd, Int.reduceEq, Int.reduceLE, Int.reduceLT, Nat.reduceLT, Nat.reduceLeDiff, ↓arr30, ↓arr31, ↓arr32, Int.reduceSub, Int.reduceMul, Int.reduceNeg, Int.reduceBEq, Int.reduceBNe, Int.reduceTDiv, decide_true, decide_false, decide_not, Int.max_def, Int.min_def, ↓reduceIte, ne_eq, Bool.not_true, Bool.not_false])))
  all_goals first
    | (refine ⟨_, _, [4, 3, 5, 1], ?_, by kernel_rfl, ?_, rfl, rfl⟩ <;> ((simp only [push_cast, ↓branch_true, ↓branch_false, Nat.reduceBEq, Nat.reduceAdd, Nat.reduceMul, Nat.reduceSub, Int.reduceToNat, reduceCtorEq, Int.reduceAdd, Int.reduceEq, Int.reduceLE, Int.reduceLT, Nat.reduceLT, Nat.reduceLeDiff, ↓arr30, ↓arr31, ↓arr32, Int.reduceSub, Int.reduceMul, Int.reduceNeg, Int.reduceBEq, Int.reduceBNe, Int.reduceTDiv, decide_true, decide_false, decide_not, Int.max_def, Int.min_def, ↓reduceIte, ne_eq, Bool.not_true, Bool.not_false]); try (simp only [sA, sM, bM])) <;> (refine ⟨?_, ?_, ?_, ?_⟩ <;> (intro _ _ k hk; have e : k = 0 := Nat.lt_one_iff.mp hk; subst e; ((simp only [push_cast, ↓branch_true, ↓branch_false, Nat.reduceBEq, Nat.reduceAdd, Nat.reduceMul, Nat.reduceSub, Int.reduceToNat, reduceCtorEq, Int.reduceAdd, Int.reduceEq, Int.reduceLE, Int.reduceLT, Nat.reduceLT, Nat.reduceLeDiff, ↓arr30, ↓arr31, ↓arr32, Int.reduceSub, Int.reduceMul, Int.reduceNeg, Int.reduceBEq, Int.reduceBNe, Int.reduceTDiv, decide_true, decide_false, decide_not, Int.max_def, Int.min_def, ↓reduceIte, ne_eq, Bool.not_true, Bool.not_false]); try (simp only [sA, sM, bM])))); done)
    | (refine ⟨_, _, [5, 3, 4, 1], ?_, by kernel_rfl, ?_, rfl, rfl⟩ <;> ((simp only [push_cast, ↓branch_true, ↓branch_false, Nat.reduceBEq, Nat.reduceAdd, Nat.reduceMul, Nat.reduceSub, Int.reduceToNat, reduceCtorEq, Int.reduceAdd, Int.reduceEq, Int.reduceLE, Int.reduceLT, Nat.reduceLT, Nat.reduceLeDiff, ↓arr30, ↓arr31, ↓arr32, Int.reduceSub, Int.reduceMul, Int.reduceNeg, Int.reduceBEq, Int.reduceBNe, Int.reduceTDiv, decide_true, decide_false, decide_not, Int.max_def, Int.min_def, ↓reduceIte, ne_eq, Bool.not_true, Bool.not_false]); try (simp only [sA, sM, bM])) <;> (refine ⟨?_, ?_, ?_, ?_⟩ <;> (intro _ _ k hk; have e : k = 0 := Nat.lt_one_iff.mp hk; subst e; ((simp only [push_cast, ↓branch_true, ↓branch_false, Nat.reduceBEq, Nat.reduceAdd, Nat.reduceMul, Nat.reduceSub, Int.reduceToNat, reduceCtorEq, Int.reduceAdd, Int.reduceEq, Int.reduceLE, Int.reduceLT, Nat.reduceLT, Nat.reduceLeDiff, ↓arr30, ↓arr31, ↓arr32, Int.reduceSub, Int.reduceMul, Int.reduceNeg, Int.reduceBEq, Int.reduceBNe, Int.reduceTDiv, decide_true, decide_false, decide_not, Int.max_def, Int.min_def, ↓reduceIte, ne_eq, Bool.not_true, Bool.not_false]); try (simp only [sA, sM, bM])))); done)
    | (refine ⟨_, _, [5, 4, 3, 1], ?_, by kernel_rfl, ?_, rfl, rfl⟩ <;> ((simp only [push_cast, ↓branch_true, ↓branch_false, Nat.reduceBEq, Nat.reduceAdd, Nat.reduceMul, Nat.reduceSub, Int.reduceToNat, reduceCtorEq, Int.reduceAdd, Int.reduceEq, Int.reduceLE, Int.reduceLT, Nat.reduceLT, Nat.reduceLeDiff, ↓arr30, ↓arr31, ↓arr32, Int.reduceSub, Int.reduceMul, Int.reduceNeg, Int.reduceBEq, Int.reduceBNe, Int.reduceTDiv, decide_true, decide_false, decide_not, Int.max_def, Int.min_def, ↓reduceIte, ne_eq, Bool.not_true, Bool.not_false]); try (simp only [sA, sM, bM])) <;> (refine ⟨?_, ?_, ?_, ?_⟩ <;> (intro _ _ k hk; have e : k = 0 := Nat.lt_one_iff.mp hk; subst e; ((simp only [push_cast, ↓branch_true, ↓branch_false, Nat.reduceBEq, Nat.reduceAdd, Nat.reduceMul, Nat.reduceSub, Int.reduceToNat, reduceCtorEq, Int.reduceAdd, Int.reduceEq, Int.reduceLE, Int.reduceLT, Nat.reduceLT, Nat.reduceLeDiff, ↓arr30, ↓arr31, ↓arr32, Int.reduceSub, Int.reduceMul, Int.reduceNeg, Int.reduceBEq, Int.reduceBNe, Int.reduceTDiv, decide_true, decide_false, decide_not, Int.max_def, Int.min_def, ↓reduceIte, ne_eq, Bool.not_true, Bool.not_false]); try (simp only [sA, sM, bM])))); done)
end Go.Proofs.YtolioflblegneaaGreat
namespace Go.Proofs.YtolioflblegneaaGreat
open Go.RowKit
def exP2 : List Pc := [⟨60, 2⟩, ⟨40, 2⟩]
theorem ex2_ord : lnO exP2 = [0, 1] := by
  refine sort_one ((sortK_perm _ _).trans (by decide +kernel)) (fun x hx y hy e => ?_) (sortK_up _ _) (by decide +kernel)
  exact kH_inj (l := exP2) (by decide) (lnO_mem hx) (lnO_mem hy) e
theorem ex2_long : longL exP2 = [0, 0, 1, 1] := by rw [longL, ex2_ord]; decide +kernel
theorem ex2_cnt : cntL exP2 = 4 := by decide +kernel
theorem ex2_giv : givE 100 exP2 = 0 := by decide +kernel
theorem ex2E : lstE 100 exP2 = 0 := by
  rw [lstE, if_neg (by rw [ex2_giv]; simp), if_neg (by rw [ex2_cnt]; decide)]
theorem ex2B : (lstB 100 exP2).length = 2 := by
  rw [(lst_good ex2E (by rw [ex2_cnt]; decide)).2.2, ex2_long]
  decide +kernel
theorem least2_sp : Sp Tryz.prog 18 [.v (.int .i64 100), .s 0 0 0 2 2 2] [rPc exP2] (fun r H => ∃ (n oc : Nat) (o1 o2 : Ob), r = .t [.v (.int .i64 2), .s 1 0 0 n oc 3, .v (.int .i64 0)] ∧ H = [rPc exP2, o1, o2]) := by
  have h := least_sp exP2 100 2 (by decide)
  rw [ex2B, ex2E] at h
  refine Sp.mono h ?_
  rintro r H ⟨oc, cp, _, _, rfl, rfl⟩
  exact ⟨_, oc, _, _, rfl, rfl⟩
set_option maxHeartbeats 8000000 in
theorem awake_pu : Pu Tryz.prog 6 [] [] (.v (.bool true)) := by
  refine pu_of_ex true [] mixed Tryz.call6 Tryz.func6 rfl Tryz.ntmps6 Tryz.results6 (by decide +kernel) rfl rfl rfl ?_
  refine sxg ?_
  try with_reducible exact trivial
  refine sp_at sure_sp [] (by kernel_rfl) ?_ ?_ ?_
  · refine sxg ?_
    try with_reducible exact trivial
  · refine sxg ?_
    try with_reducible exact trivial
  rintro _ _ ⟨rfl, rfl⟩
  refine sxg ?_
  try with_reducible exact trivial
  refine sp_call (free0_pu 1 1) rfl [0, 1, 2] rfl ?_ ?_ ?_
  · refine sxg ?_
    try with_reducible exact trivial
  · refine sxg ?_
    try with_reducible exact trivial
    refine ⟨fun _ _ k hk => ?_, fun i hi => ?_⟩
    · have e : k = 0 := Nat.lt_one_iff.mp hk
      subst e
      exact ⟨rfl, rfl, rfl, rfl, rfl, rfl⟩
    · have e : i = 0 := Nat.lt_one_iff.mp hi
      subst e
      refine ⟨Nat.le_refl _, fun k hk => ?_⟩
      have e : k = 0 := Nat.lt_one_iff.mp hk
      subst e
      rfl
  refine sxg ?_
  try with_reducible exact trivial
  refine sp_call (free1_pu 1 1) rfl [0, 1, 2] rfl ?_ ?_ ?_
  · refine sxg ?_
    try with_reducible exact trivial
  · refine sxg ?_
    try with_reducible exact trivial
    refine ⟨fun _ _ k hk => ?_, fun i hi => ?_⟩
    · have e : k = 0 := Nat.lt_one_iff.mp hk
      subst e
      exact ⟨rfl, rfl, rfl, rfl, rfl, rfl⟩
    · have e : i = 0 := Nat.lt_one_iff.mp hi
      subst e
      refine ⟨Nat.le_refl _, fun k hk => ?_⟩
      have e : k = 0 := Nat.lt_one_iff.mp hk
      subst e
      rfl
  refine sxg ?_
  try with_reducible exact trivial
  refine sp_call (ccheck_pu 1 1 1) rfl [0, 1, 2, 3] rfl ?_ ?_ ?_
  · refine sxg ?_
    try with_reducible exact trivial
  · refine sxg ?_
    try with_reducible exact trivial
    refine ⟨fun _ _ k hk => ?_, fun i hi => ?_⟩
    · have e : k = 0 := Nat.lt_one_iff.mp hk
      subst e
      exact ⟨rfl, rfl, rfl, rfl, rfl, rfl⟩
    · have e : i = 0 := Nat.lt_one_iff.mp hi
      subst e
      refine ⟨Nat.le_refl _, fun k hk => ?_⟩
      have e : k = 0 := Nat.lt_one_iff.mp hk
      subst e
      rfl
  refine sxg ?_
  try with_reducible exact trivial
  refine sp_at least2_sp [5] (by kernel_rfl) ?_ ?_ ?_
  · refine sxg ?_
    try with_reducible exact trivial
  · refine sxg ?_
    try with_reducible exact trivial
    refine fun _ _ => ⟨Nat.le_refl _, fun k hk => ?_⟩
    match k, hk with
    | 0, _ => exact ⟨rfl, rfl, trivial⟩
    | 1, _ => exact ⟨rfl, rfl, trivial⟩
  rintro _ _ ⟨n, oc, o1, o2, rfl, rfl⟩
  refine sxg ?_
  try with_reducible exact trivial
end Go.Proofs.YtolioflblegneaaGreat
