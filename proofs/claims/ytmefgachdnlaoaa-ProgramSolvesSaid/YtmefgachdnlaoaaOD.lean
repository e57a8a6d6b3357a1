/- Contract of package ratio: Cmp, for valid fractions. -/
import Derived.Test.YtmefgachdnlaoaaOC
set_option maxRecDepth 100000
set_option linter.unusedSimpArgs false
set_option linter.unusedVariables false
namespace Go.Proofs.Ytmefgachdnlaoaa
open Go.RowKit Lp
def cmpS (x y : Int) : Int := if x < y then -1 else if x = y then 0 else 1
set_option maxHeartbeats 8000000 in
theorem fcmp_core {an bn ad bd r : Int} {A B X Y : Nat}
    (va : ∀ H, Pu Try.prog 45 [.a [.v (.int .i64 an), .v (.int .i64 ad)]] H (.v (.bool true)))
    (vb : ∀ H, Pu Try.prog 45 [.a [.v (.int .i64 bn), .v (.int .i64 bd)]] H (.v (.bool true)))
    (hd : (0 ≤ ad ∧ ad ≤ 1152921504606846976) ∧ 0 ≤ bd ∧ bd ≤ 1152921504606846976)
    (sa : ∀ H, Pu Try.prog 69 [.v (.int .i64 an)] H (.v (.int .u64 A)))
    (sb : ∀ H, Pu Try.prog 69 [.v (.int .i64 bn)] H (.v (.int .u64 B)))
    (p1 : ∀ H, Pu Try.prog 68 [.v (.int .u64 A), .v (.int .u64 bd)] H (wV X))
    (p2 : ∀ H, Pu Try.prog 68 [.v (.int .u64 B), .v (.int .u64 ad)] H (wV Y))
    (l1 : ∀ H, Pu Try.prog 70 [wV X, wV Y] H (.v (.bool (decide (X < Y)))))
    (l2 : ∀ H, Pu Try.prog 70 [wV Y, wV X] H (.v (.bool (decide (Y < X)))))
    (h1 : an < 0 → ¬ bn < 0 → r = -1) (h2 : ¬ an < 0 → bn < 0 → r = 1)
    (h3 : an < 0 → bn < 0 → r = if Y < X then -1 else if X < Y then 1 else 0)
    (h4 : ¬ an < 0 → ¬ bn < 0 → r = if X < Y then -1 else if Y < X then 1 else 0) :
    Pu Try.prog 26 [frV an ad, frV bn bd] [] (.t [.v (.int .i64 r), .v (.int .i64 0)]) := by
  simp only [push_cast] at *
  refine pu_of_ex true [(3, .jn (.pre [0, 1] [0, 1, 3, 4, 5, 7, 8, 10, 11, 12] (.alt [(2, .alt [(6, .alt [(9, .alt [(13, .alt [(14, .one 15 (.one 16 (.one 17 .fin))), (15, .one 14 (.one 16 (.one 17 .fin)))]), (14, .alt [(13, .one 15 (.one 16 (.one 17 .fin))), (15, .one 13 (.one 16 (.one 17 .fin)))]), (15, .alt [(13, .one 14 (.one 16 (.one 17 .fin))), (14, .one 13 (.one 16 (.one 17 .fin)))])]), (14, .alt [(9, .alt [(13, .one 15 (.one 16 (.one 17 .fin))), (15, .one 13 (.one 16 (.one 17 .fin)))]), (15, .one 9 (.one 13 (.one 16 (.one 17 .fin))))]), (15, .alt [(9, .alt [(13, .one 14 (.one 16 (.one 17 .fin))), (14, .one 13 (.one 16 (.one 17 .fin)))]), (14, .one 9 (.one 13 (.one 16 (.one 17 .fin))))])]), (14, .alt [(6, .alt [(9, .alt [(13, .one 15 (.one 16 (.one 17 .fin))), (15, .one 13 (.one 16 (.one 17 .fin)))]), (15, .one 9 (.one 13 (.one 16 (.one 17 .fin))))]), (15, .one 6 (.one 9 (.one 13 (.one 16 (.one 17 .fin)))))]), (15, .alt [(6, .alt [(9, .alt [(13, .one 14 (.one 16 (.one 17 .fin))), (14, .one 13 (.one 16 (.one 17 .fin)))]), (14, .one 9 (.one 13 (.one 16 (.one 17 .fin))))]), (14, .one 6 (.one 9 (.one 13 (.one 16 (.one 17 .fin)))))])]), (14, .alt [(2, .alt [(6, .alt [(9, .alt [(13, .one 15 (.one 16 (.one 17 .fin))), (15, .one 13 (.one 16 (.one 17 .fin)))]), (15, .one 9 (.one 13 (.one 16 (.one 17 .fin))))]), (15, .one 6 (.one 9 (.one 13 (.one 16 (.one 17 .fin)))))]), (15, .one 2 (.one 6 (.one 9 (.one 13 (.one 16 (.one 17 .fin))))))]), (15, .alt [(2, .alt [(6, .alt [(9, .alt [(13, .one 14 (.one 16 (.one 17 .fin))), (14, .one 13 (.one 16 (.one 17 .fin)))]), (14, .one 9 (.one 13 (.one 16 (.one 17 .fin))))]), (14, .one 6 (.one 9 (.one 13 (.one 16 (.one 17 .fin)))))]), (14, .one 2 (.one 6 (.one 9 (.one 13 (.one 16 (.one 17 .fin))))))])])))] mixed Try.call26 Try.func26 rfl Try.ntmps26 Try.results26 (by decide +kernel) rfl rfl rfl ?_
  simp only [push_cast, ↓branch_true, ↓branch_false, Nat.reduceBEq, Nat.reduceAdd, Nat.reduceMul, Nat.reduceSub, Int.reduceToNat, reduceCtorEq, Int.reduceAdd, Int.reduceEq, Int.reduceLE, Int.reduceLT, Nat.reduceLT, Nat.reduceLeDiff]
  refine sp_pu (va _) ?_
  simp only [push_cast, ↓branch_true, ↓branch_false, Nat.reduceBEq, Nat.reduceAdd, Nat.reduceMul, Nat.reduceSub, Int.reduceToNat, reduceCtorEq, Int.reduceAdd, Int.reduceEq, Int.reduceLE, Int.reduceLT, Nat.reduceLT, Nat.reduceLeDiff]
  refine sp_pu (vb _) ?_
  simp only [push_cast, ↓branch_true, ↓branch_false, Nat.reduceBEq, Nat.reduceAdd, Nat.reduceMul, Nat.reduceSub, Int.reduceToNat, reduceCtorEq, Int.reduceAdd, Int.reduceEq, Int.reduceLE, Int.reduceLT, Nat.reduceLT, Nat.reduceLeDiff]
  repeat (with_reducible refine And.intro (by omega) ?_)
  refine ⟨[(2, .p 0 0 0), (3, .p 1 0 0), (6, .p 2 0 0), (7, .p 3 0 0)], [oF true an ad, oF true bn bd, oW X, oW Y], ?_, ?_⟩
  · simp only [push_cast, ↓branch_true, ↓branch_false, Nat.reduceBEq, Nat.reduceAdd, Nat.reduceMul, Nat.reduceSub, Int.reduceToNat, reduceCtorEq, Int.reduceAdd, Int.reduceEq, Int.reduceLE, Int.reduceLT, Nat.reduceLT, Nat.reduceLeDiff]
    repeat' (first
      | (with_reducible apply And.intro)
      | (with_reducible intro _)
      | omega
      | (refine sp_pu (sa _) ?_
         simp only [push_cast, ↓branch_true, ↓branch_false, Nat.reduceBEq, Nat.reduceAdd, Nat.reduceMul, Nat.reduceSub, Int.reduceToNat, reduceCtorEq, Int.reduceAdd, Int.reduceEq, Int.reduceLE, Int.reduceLT, Nat.reduceLT, Nat.reduceLeDiff]
         )
      | (refine sp_pu (sb _) ?_
         simp only [push_cast, ↓branch_true, ↓branch_false, Nat.reduceBEq, Nat.reduceAdd, Nat.reduceMul, Nat.reduceSub, Int.reduceToNat, reduceCtorEq, Int.reduceAdd, Int.reduceEq, Int.reduceLE, Int.reduceLT, Nat.reduceLT, Nat.reduceLeDiff]
         )
      | (refine sp_pu (p1 _) ?_
         simp only [push_cast, ↓branch_true, ↓branch_false, Nat.reduceBEq, Nat.reduceAdd, Nat.reduceMul, Nat.reduceSub, Int.reduceToNat, reduceCtorEq, Int.reduceAdd, Int.reduceEq, Int.reduceLE, Int.reduceLT, Nat.reduceLT, Nat.reduceLeDiff]
         )
      | (refine sp_pu (p2 _) ?_
         simp only [push_cast, ↓branch_true, ↓branch_false, Nat.reduceBEq, Nat.reduceAdd, Nat.reduceMul, Nat.reduceSub, Int.reduceToNat, reduceCtorEq, Int.reduceAdd, Int.reduceEq, Int.reduceLE, Int.reduceLT, Nat.reduceLT, Nat.reduceLeDiff]
         ))
    all_goals first
      | (refine Mt.wk (rl := [0, 1, 2, 3]) ⟨by kernel_rfl, ?_, ?_⟩
         · simp only [push_cast, ↓branch_true, ↓branch_false, Nat.reduceBEq, Nat.reduceAdd, Nat.reduceMul, Nat.reduceSub, Int.reduceToNat, reduceCtorEq, Int.reduceAdd, Int.reduceEq, Int.reduceLE, Int.reduceLT, Nat.reduceLT, Nat.reduceLeDiff]
           try trivial
         · simp only [push_cast, ↓branch_true, ↓branch_false, Nat.reduceBEq, Nat.reduceAdd, Nat.reduceMul, Nat.reduceSub, Int.reduceToNat, reduceCtorEq, Int.reduceAdd, Int.reduceEq, Int.reduceLE, Int.reduceLT, Nat.reduceLT, Nat.reduceLeDiff]
         )
      | (refine Mt.wk (rl := [0, 1, 3, 2]) ⟨by kernel_rfl, ?_, ?_⟩
         · simp only [push_cast, ↓branch_true, ↓branch_false, Nat.reduceBEq, Nat.reduceAdd, Nat.reduceMul, Nat.reduceSub, Int.reduceToNat, reduceCtorEq, Int.reduceAdd, Int.reduceEq, Int.reduceLE, Int.reduceLT, Nat.reduceLT, Nat.reduceLeDiff]
           try trivial
         · simp only [push_cast, ↓branch_true, ↓branch_false, Nat.reduceBEq, Nat.reduceAdd, Nat.reduceMul, Nat.reduceSub, Int.reduceToNat, reduceCtorEq, Int.reduceAdd, Int.reduceEq, Int.reduceLE, Int.reduceLT, Nat.reduceLT, Nat.reduceLeDiff]
         )
  · simp only [push_cast, ↓branch_true, ↓branch_false, Nat.reduceBEq, Nat.reduceAdd, Nat.reduceMul, Nat.reduceSub, Int.reduceToNat, reduceCtorEq, Int.reduceAdd, Int.reduceEq, Int.reduceLE, Int.reduceLT, Nat.reduceLT, Nat.reduceLeDiff, jnK]
    by_cases a0 : an < 0 <;> by_cases b0 : bn < 0 <;> simp only [a0, b0, decide_true, decide_false, show (true != true) = false from rfl, show (true != false) = true from rfl, show (false != true) = true from rfl, show (false != false) = false from rfl]
    · have hr := h3 a0 b0
      simp only [push_cast, ↓branch_true, ↓branch_false, Nat.reduceBEq, Nat.reduceAdd, Nat.reduceMul, Nat.reduceSub, Int.reduceToNat, reduceCtorEq, Int.reduceAdd, Int.reduceEq, Int.reduceLE, Int.reduceLT, Nat.reduceLT, Nat.reduceLeDiff, a0]
      refine sp_pu (l2 _) ?_
      simp only [push_cast, ↓branch_true, ↓branch_false, Nat.reduceBEq, Nat.reduceAdd, Nat.reduceMul, Nat.reduceSub, Int.reduceToNat, reduceCtorEq, Int.reduceAdd, Int.reduceEq, Int.reduceLE, Int.reduceLT, Nat.reduceLT, Nat.reduceLeDiff]
      refine ⟨fun c1 => ?_, fun c1 => ?_⟩
      · rw [if_pos (by omega)] at hr
        rw [hr]
      · rw [if_neg (by omega)] at hr
        refine sp_pu (l1 _) ?_
        simp only [push_cast, ↓branch_true, ↓branch_false, Nat.reduceBEq, Nat.reduceAdd, Nat.reduceMul, Nat.reduceSub, Int.reduceToNat, reduceCtorEq, Int.reduceAdd, Int.reduceEq, Int.reduceLE, Int.reduceLT, Nat.reduceLT, Nat.reduceLeDiff]
        refine ⟨fun c2 => ?_, fun c2 => ?_⟩
        · rw [if_pos (by omega)] at hr
          rw [hr]
        · rw [if_neg (by omega)] at hr
          rw [hr]
    · have hr := h1 a0 b0
      simp only [push_cast, ↓branch_true, ↓branch_false, Nat.reduceBEq, Nat.reduceAdd, Nat.reduceMul, Nat.reduceSub, Int.reduceToNat, reduceCtorEq, Int.reduceAdd, Int.reduceEq, Int.reduceLE, Int.reduceLT, Nat.reduceLT, Nat.reduceLeDiff, a0]
      rw [hr]
    · have hr := h2 a0 b0
      simp only [push_cast, ↓branch_true, ↓branch_false, Nat.reduceBEq, Nat.reduceAdd, Nat.reduceMul, Nat.reduceSub, Int.reduceToNat, reduceCtorEq, Int.reduceAdd, Int.reduceEq, Int.reduceLE, Int.reduceLT, Nat.reduceLT, Nat.reduceLeDiff, a0]
      rw [hr]
    · have hr := h4 a0 b0
      simp only [push_cast, ↓branch_true, ↓branch_false, Nat.reduceBEq, Nat.reduceAdd, Nat.reduceMul, Nat.reduceSub, Int.reduceToNat, reduceCtorEq, Int.reduceAdd, Int.reduceEq, Int.reduceLE, Int.reduceLT, Nat.reduceLT, Nat.reduceLeDiff, a0]
      refine sp_pu (l1 _) ?_
      simp only [push_cast, ↓branch_true, ↓branch_false, Nat.reduceBEq, Nat.reduceAdd, Nat.reduceMul, Nat.reduceSub, Int.reduceToNat, reduceCtorEq, Int.reduceAdd, Int.reduceEq, Int.reduceLE, Int.reduceLT, Nat.reduceLT, Nat.reduceLeDiff]
      refine ⟨fun c1 => ?_, fun c1 => ?_⟩
      · rw [if_pos (by omega)] at hr
        rw [hr]
      · rw [if_neg (by omega)] at hr
        refine sp_pu (l2 _) ?_
        simp only [push_cast, ↓branch_true, ↓branch_false, Nat.reduceBEq, Nat.reduceAdd, Nat.reduceMul, Nat.reduceSub, Int.reduceToNat, reduceCtorEq, Int.reduceAdd, Int.reduceEq, Int.reduceLE, Int.reduceLT, Nat.reduceLT, Nat.reduceLeDiff]
        refine ⟨fun c2 => ?_, fun c2 => ?_⟩
        · rw [if_pos (by omega)] at hr
          rw [hr]
        · rw [if_neg (by omega)] at hr
          rw [hr]
theorem neg_at {a : Int} {q : Nat} (h : a < 0) : a * (q : Int) = -((a.natAbs * q : Nat) : Int) := by
  rw [Int.natCast_mul, show ((a.natAbs : Nat) : Int) = -a by omega, Int.neg_mul, Int.neg_neg]
theorem pos_at {a : Int} {q : Nat} (h : ¬ a < 0) : a * (q : Int) = ((a.natAbs * q : Nat) : Int) := by
  rw [Int.natCast_mul, show ((a.natAbs : Nat) : Int) = a by omega]
theorem fcmp_pu {an bn : Int} {ad bd : Nat} (ha : Frc an ad) (hb : Frc bn bd) : Pu Try.prog 26 [frV an ad, frV bn bd] [] (.t [.v (.int .i64 (cmpS (an * (bd : Nat)) (bn * (ad : Nat)))), .v (.int .i64 0)]) := by
  have a0 := ha.d0
  have a1 := ha.d1
  have a2 := ha.n1
  have b0 := hb.d0
  have b1 := hb.d1
  have b2 := hb.n1
  have va := fvalid_pu an ad (by omega) (by omega)
  have vb := fvalid_pu bn bd (by omega) (by omega)
  rw [ha.vF] at va
  rw [hb.vF] at vb
  have sa := size_pu an (by omega)
  have sb := size_pu bn (by omega)
  have p1 := product_pu an.natAbs bd (by omega) (by omega)
  have p2 := product_pu bn.natAbs ad (by omega) (by omega)
  have l1 := less_pu (an.natAbs * bd) (bn.natAbs * ad)
  have l2 := less_pu (bn.natAbs * ad) (an.natAbs * bd)
  have z1 : an < 0 → 0 < an.natAbs * bd := fun h => Nat.mul_pos (by omega) b0
  have z2 : bn < 0 → 0 < bn.natAbs * ad := fun h => Nat.mul_pos (by omega) a0
  have n1 := fun h => neg_at (a := an) (q := bd) h
  have n2 := fun h => pos_at (a := an) (q := bd) h
  have n3 := fun h => neg_at (a := bn) (q := ad) h
  have n4 := fun h => pos_at (a := bn) (q := ad) h
  generalize an.natAbs * bd = X at *
  generalize bn.natAbs * ad = Y at *
  unfold cmpS
  refine fcmp_core ((fun H => pu_a va rfl H)) ((fun H => pu_a vb rfl H)) (by omega) ((fun H => pu_a sa rfl H)) ((fun H => pu_a sb rfl H)) ((fun H => pu_a p1 rfl H)) ((fun H => pu_a p2 rfl H)) ((fun H => pu_a l1 rfl H)) ((fun H => pu_a l2 rfl H)) (fun h h2 => ?_) (fun h h2 => ?_) (fun h h2 => ?_) (fun h h2 => ?_)
  · rw [n1 h, n4 h2, if_pos (by have := z1 h; omega)]
  · rw [n2 h, n3 h2, if_neg (by omega), if_neg (by have := z2 h2; omega)]
  · rw [n1 h, n3 h2]
    (repeat' split) <;> omega
  · rw [n2 h, n4 h2]
    (repeat' split) <;> omega
end Go.Proofs.Ytmefgachdnlaoaa
