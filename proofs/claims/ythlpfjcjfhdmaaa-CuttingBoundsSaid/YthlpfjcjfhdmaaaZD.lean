/- Contracts: the bounds' reference: Dual, Best. -/
import Derived.Test.YthlpfjcjfhdmaaaZC
set_option maxRecDepth 100000
set_option linter.unusedSimpArgs false
set_option linter.unusedVariables false
namespace Go.Proofs.Ythlpfjcjfhdmaaa
open Go.RowKit
theorem mulB {a b A B : Int} (h0 : 0 ≤ a) (h1 : a ≤ A) (h2 : 0 ≤ b) (h3 : b ≤ B) : 0 ≤ a * b ∧ a * b ≤ A * B :=
  ⟨Int.mul_nonneg h0 h2, Int.mul_le_mul h1 h3 h2 (by omega)⟩
/-- What a line of pieces adds to the bound of a number. -/
def dualI (lim k : Int) (p : Pc) : Int := if ((k + 1) * p.len).tmod lim = 0 then p.cnt * ((k + 1) * p.len).tdiv lim * k else p.cnt * ((k + 1) * p.len).tdiv lim * (k + 1)
def dualT (lim k : Int) (l : List Pc) : Nat → Int
  | 0 => 0
  | j + 1 => dualT lim k l j + dualI lim k (ix l j)
structure DualB (lim k : Int) (p : Pc) : Prop where
  n0 : 0 ≤ (k + 1) * p.len
  n1 : (k + 1) * p.len ≤ 11534336
  q0 : 0 ≤ ((k + 1) * p.len).tdiv lim
  q1 : ((k + 1) * p.len).tdiv lim ≤ 11534336
  c0 : 0 ≤ p.cnt * ((k + 1) * p.len).tdiv lim
  c1 : p.cnt * ((k + 1) * p.len).tdiv lim ≤ 11534336000000
  s0 : 0 ≤ p.cnt * ((k + 1) * p.len).tdiv lim * k
  s1 : p.cnt * ((k + 1) * p.len).tdiv lim * k ≤ 126877696000000
  t0 : 0 ≤ p.cnt * ((k + 1) * p.len).tdiv lim * (k + 1)
  t1 : p.cnt * ((k + 1) * p.len).tdiv lim * (k + 1) ≤ 126877696000000
theorem dual_bounds {lim k : Int} {p : Pc} (h1 : 1 ≤ lim) (hk : 1 ≤ k ∧ k ≤ 10) (hp : 1 ≤ p.len ∧ p.len ≤ 1048576 ∧ 1 ≤ p.cnt ∧ p.cnt ≤ 1000000) : DualB lim k p := by
  obtain ⟨a0, a1⟩ := mulB (show 0 ≤ k + 1 by omega) (show k + 1 ≤ 11 by omega) (show 0 ≤ p.len by omega) hp.2.1
  have b0 : 0 ≤ ((k + 1) * p.len).tdiv lim := Int.tdiv_nonneg a0 (by omega)
  have b1 : ((k + 1) * p.len).tdiv lim ≤ (k + 1) * p.len := Int.tdiv_le_self _ a0
  obtain ⟨c0, c1⟩ := mulB (show 0 ≤ p.cnt by omega) hp.2.2.2 b0 (show ((k + 1) * p.len).tdiv lim ≤ 11534336 by omega)
  obtain ⟨d0, d1⟩ := mulB c0 c1 (show 0 ≤ k by omega) (show k ≤ 11 by omega)
  obtain ⟨e0, e1⟩ := mulB c0 c1 (show 0 ≤ k + 1 by omega) (show k + 1 ≤ 11 by omega)
  exact ⟨a0, by omega, b0, by omega, c0, by omega, d0, by omega, e0, by omega⟩
theorem dualI_range {lim k : Int} {p : Pc} (h : DualB lim k p) : 0 ≤ dualI lim k p ∧ dualI lim k p ≤ 126877696000000 := by
  obtain ⟨_, _, _, _, _, _, s0, s1, t0, t1⟩ := h
  unfold dualI
  split
  · exact ⟨s0, s1⟩
  · exact ⟨t0, t1⟩
theorem dualT_range {lim k : Int} {l : List Pc} (h1 : 1 ≤ lim) (hk : 1 ≤ k ∧ k ≤ 10) (ho : orderB l = true) : ∀ j, j ≤ l.length → 0 ≤ dualT lim k l j ∧ dualT lim k l j ≤ 126877696000000 * j
  | 0, _ => by simp [dualT]
  | j + 1, h => by
    have ih := dualT_range (lim := lim) (k := k) h1 hk ho j (by omega)
    have := dualI_range (dual_bounds h1 hk (order_at ho (k := j) (by omega)))
    have e : dualT lim k l (j + 1) = dualT lim k l j + dualI lim k (ix l j) := rfl
    omega
def dualR (lim k : Int) (l : List Pc) : Int := upR (dualT lim k l l.length) (k * (k + 1))
theorem kk_range {k : Int} (hk : 1 ≤ k ∧ k ≤ 10) : 1 ≤ k * (k + 1) ∧ k * (k + 1) ≤ 110 := by
  obtain ⟨_, b⟩ := mulB (show 0 ≤ k by omega) hk.2 (show 0 ≤ k + 1 by omega) (show k + 1 ≤ 11 by omega)
  have := Int.mul_le_mul hk.1 (show (1 : Int) ≤ k + 1 by omega) (by decide) (by omega)
  omega
set_option maxHeartbeats 1000000 in
theorem rdual_pu (lim k : Int) (l : List Pc) (c : Nat) (ho : orderB l = true) (h1 : 1 ≤ lim) (hk : 1 ≤ k ∧ k ≤ 10) : Pu Try.prog 67 [.v (.int .i64 lim), .s 0 0 0 l.length c 2, .v (.int .i64 k)] [rPc l] (.v (.int .i64 (dualR lim k l))) := by
  have hll := order_len ho
  have hkk := kk_range hk
  refine pu_of_ex true [(7, .one 0 (.one 1 (.one 2 (.one 3 (.one 4 (.one 6 (.one 7 (.one 8 (.one 10 (.one 5 (.one 9 (.one 11 (.one 12 (.one 13 .fin)))))))))))))), (8, .one 0 (.one 1 (.one 2 (.one 3 (.one 4 (.one 6 (.one 7 (.one 8 (.one 10 (.one 11 (.one 5 (.one 9 (.one 12 (.one 13 (.one 14 .fin)))))))))))))))] mixed Try.call67 Try.func67 rfl Try.ntmps67 Try.results67 (by decide +kernel) rfl rfl rfl ?_
  simp only [push_cast, ↓branch_true, ↓branch_false, Nat.reduceBEq, Nat.reduceAdd, Nat.reduceMul, Nat.reduceSub, Int.reduceToNat, reduceCtorEq, branch_decide, branch_not, branch_beq, branch_bne]
  refine tr_loop0 mixed (by kernel_rfl) (fun (j : Nat) => [(8, .v (.int .i64 j)), (7, .v (.int .i64 (dualT lim k l j))), (0, .v (.int .i64 lim)), (1, .s 0 0 0 l.length c 2), (2, .v (.int .i64 k))]) (fun j => j ≤ l.length) (fun j => l.length - j) 0 (Nat.zero_le _) ?_ ?_
  · simp only [push_cast, ↓branch_true, ↓branch_false, Nat.reduceBEq, Nat.reduceAdd, Nat.reduceMul, Nat.reduceSub, Int.reduceToNat, reduceCtorEq, branch_decide, branch_not, branch_beq, branch_bne]
    try rfl
  intro j hj
  have hr := dualT_range h1 hk ho j hj
  simp only [push_cast, ↓branch_true, ↓branch_false, Nat.reduceBEq, Nat.reduceAdd, Nat.reduceMul, Nat.reduceSub, Int.reduceToNat, reduceCtorEq, branch_decide, branch_not, branch_beq, branch_bne]
  refine ⟨fun h => ?_, fun h => ?_⟩
  · have hB := dual_bounds h1 hk (order_at ho (k := j) (by omega))
    have e1 : dualT lim k l (j + 1) = dualT lim k l j + dualI lim k (ix l j) := rfl
    obtain ⟨n0, n1, q0, q1, c0, c1, s0, s1, t0, t1⟩ := hB
    unfold dualI at e1
    generalize (k + 1) * (ix l j).len = n at *
    generalize hq : n.tdiv lim = q at *
    generalize (ix l j).cnt * q = a at *
    generalize a * k = s at *
    generalize a * (k + 1) = t at *
    repeat (with_reducible refine And.intro (by omega) ?_)
    refine ⟨fun h5 => ?_, fun h5 => ?_⟩
    · rw [if_pos h5] at e1
      repeat (with_reducible refine And.intro (by omega) ?_)
      refine lp0_normal (j + 1) (by omega) (by omega) ?_
      simp only [push_cast, ↓branch_true, ↓branch_false, Nat.reduceBEq, Nat.reduceAdd, Nat.reduceMul, Nat.reduceSub, Int.reduceToNat, reduceCtorEq, branch_decide, branch_not, branch_beq, branch_bne, e1]
    · rw [if_neg h5] at e1
      repeat (with_reducible refine And.intro (by omega) ?_)
      refine lp0_normal (j + 1) (by omega) (by omega) ?_
      simp only [push_cast, ↓branch_true, ↓branch_false, Nat.reduceBEq, Nat.reduceAdd, Nat.reduceMul, Nat.reduceSub, Int.reduceToNat, reduceCtorEq, branch_decide, branch_not, branch_beq, branch_bne, e1]
  · obtain rfl : j = l.length := by omega
    repeat (with_reducible refine And.intro (by omega) ?_)
    refine sp_call (rup_pu (dualT lim k l l.length) (k * (k + 1)) (by omega) (by omega) (by omega) (by omega)) rfl [] rfl (by simp only [push_cast, ↓branch_true, ↓branch_false, Nat.reduceBEq, Nat.reduceAdd, Nat.reduceMul, Nat.reduceSub, Int.reduceToNat, reduceCtorEq, branch_decide, branch_not, branch_beq, branch_bne]) (by simp only [push_cast, ↓branch_true, ↓branch_false, Nat.reduceBEq, Nat.reduceAdd, Nat.reduceMul, Nat.reduceSub, Int.reduceToNat, reduceCtorEq, branch_decide, branch_not, branch_beq, branch_bne]) ?_
    simp only [push_cast, ↓branch_true, ↓branch_false, Nat.reduceBEq, Nat.reduceAdd, Nat.reduceMul, Nat.reduceSub, Int.reduceToNat, reduceCtorEq, branch_decide, branch_not, branch_beq, branch_bne]
    rfl
/-- The best bound by the first numbers. -/
def bestT (lim : Int) (l : List Pc) : Nat → Int
  | 0 => max (matR lim l) (largT lim l l.length)
  | k + 1 => max (bestT lim l k) (dualR lim (k + 1 : Nat) l)
def bestR (lim : Int) (l : List Pc) : Int := bestT lim l 10
theorem rbnd_pu (lim : Int) (l : List Pc) (c : Nat) (ho : orderB l = true) (h1 : 1 ≤ lim) (h2 : lim ≤ 1048576) : Pu Try.prog 40 [.v (.int .i64 lim), .s 0 0 0 l.length c 2] [rPc l] (.v (.int .i64 (bestR lim l))) := by
  refine pu_of_ex true [] mixed Try.call40 Try.func40 rfl Try.ntmps40 Try.results40 (by decide +kernel) rfl rfl rfl ?_
  simp only [push_cast, ↓branch_true, ↓branch_false, Nat.reduceBEq, Nat.reduceAdd, Nat.reduceMul, Nat.reduceSub, Int.reduceToNat, reduceCtorEq, branch_decide, branch_not, branch_beq, branch_bne]
  refine sp_call (rmat_pu lim l c ho h1 h2) rfl [0] rfl (by simp only [push_cast, ↓branch_true, ↓branch_false, Nat.reduceBEq, Nat.reduceAdd, Nat.reduceMul, Nat.reduceSub, Int.reduceToNat, reduceCtorEq, branch_decide, branch_not, branch_beq, branch_bne]) (by simp only [push_cast, ↓branch_true, ↓branch_false, Nat.reduceBEq, Nat.reduceAdd, Nat.reduceMul, Nat.reduceSub, Int.reduceToNat, reduceCtorEq, branch_decide, branch_not, branch_beq, branch_bne]) ?_
  simp only [push_cast, ↓branch_true, ↓branch_false, Nat.reduceBEq, Nat.reduceAdd, Nat.reduceMul, Nat.reduceSub, Int.reduceToNat, reduceCtorEq, branch_decide, branch_not, branch_beq, branch_bne]
  refine sp_call (rlarge_pu lim l c ho) rfl [0] rfl (by simp only [push_cast, ↓branch_true, ↓branch_false, Nat.reduceBEq, Nat.reduceAdd, Nat.reduceMul, Nat.reduceSub, Int.reduceToNat, reduceCtorEq, branch_decide, branch_not, branch_beq, branch_bne]) (by simp only [push_cast, ↓branch_true, ↓branch_false, Nat.reduceBEq, Nat.reduceAdd, Nat.reduceMul, Nat.reduceSub, Int.reduceToNat, reduceCtorEq, branch_decide, branch_not, branch_beq, branch_bne]) ?_
  simp only [push_cast, ↓branch_true, ↓branch_false, Nat.reduceBEq, Nat.reduceAdd, Nat.reduceMul, Nat.reduceSub, Int.reduceToNat, reduceCtorEq, branch_decide, branch_not, branch_beq, branch_bne]
  refine tr_loop0 mixed (by kernel_rfl) (fun (k : Nat) => [(6, .v (.int .i64 (k + 1 : Nat))), (5, .v (.int .i64 (bestT lim l k))), (0, .v (.int .i64 lim)), (1, .s 0 0 0 l.length c 2)]) (fun k => k ≤ 10) (fun k => 10 - k) 0 (Nat.zero_le _) ?_ ?_
  · simp only [push_cast, ↓branch_true, ↓branch_false, Nat.reduceBEq, Nat.reduceAdd, Nat.reduceMul, Nat.reduceSub, Int.reduceToNat, reduceCtorEq, branch_decide, branch_not, branch_beq, branch_bne]
    exact ⟨rfl, rfl⟩
  intro k hk
  have e1 : bestT lim l (k + 1) = max (bestT lim l k) (dualR lim (k + 1 : Nat) l) := rfl
  simp only [push_cast, ↓branch_true, ↓branch_false, Nat.reduceBEq, Nat.reduceAdd, Nat.reduceMul, Nat.reduceSub, Int.reduceToNat, reduceCtorEq, branch_decide, branch_not, branch_beq, branch_bne]
  refine ⟨fun h => ?_, fun h => ?_⟩
  · refine sp_call (rdual_pu lim (k + 1 : Nat) l c ho h1 (by omega)) rfl [0] rfl (by simp only [push_cast, ↓branch_true, ↓branch_false, Nat.reduceBEq, Nat.reduceAdd, Nat.reduceMul, Nat.reduceSub, Int.reduceToNat, reduceCtorEq, branch_decide, branch_not, branch_beq, branch_bne]) (by simp only [push_cast, ↓branch_true, ↓branch_false, Nat.reduceBEq, Nat.reduceAdd, Nat.reduceMul, Nat.reduceSub, Int.reduceToNat, reduceCtorEq, branch_decide, branch_not, branch_beq, branch_bne]) ?_
    simp only [push_cast, ↓branch_true, ↓branch_false, Nat.reduceBEq, Nat.reduceAdd, Nat.reduceMul, Nat.reduceSub, Int.reduceToNat, reduceCtorEq, branch_decide, branch_not, branch_beq, branch_bne]
    repeat (with_reducible refine And.intro (by omega) ?_)
    refine lp0_normal (k + 1) (by omega) (by omega) ?_
    simp only [push_cast, ↓branch_true, ↓branch_false, Nat.reduceBEq, Nat.reduceAdd, Nat.reduceMul, Nat.reduceSub, Int.reduceToNat, reduceCtorEq, branch_decide, branch_not, branch_beq, branch_bne, e1]
    try omega
  · obtain rfl : k = 10 := by omega
    rfl
end Go.Proofs.Ythlpfjcjfhdmaaa
