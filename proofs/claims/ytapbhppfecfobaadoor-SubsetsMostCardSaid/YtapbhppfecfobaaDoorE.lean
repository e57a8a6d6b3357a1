/- Contracts: the sums of all subsets; the first subset with a sum. -/
import Derived.Test.YtapbhppfecfobaaDoorD
set_option maxRecDepth 100000
set_option linter.unusedSimpArgs false
set_option linter.unusedVariables false
namespace Go.Proofs.YtapbhppfecfobaaDoor
open Go.RowKit
/-- The sum of a subset. -/
def sumS (l : List Int) (s : Nat) : Int := ((bitsL s).map fun i => ix l i).sum
theorem sumS_zero (l : List Int) : sumS l 0 = 0 := by simp [sumS, bits_zero]
theorem sumS_step {l : List Int} {s : Nat} (h0 : 0 < s) (h : s < 65536) : sumS l s = sumS l (s &&& (s - 1)) + ix l (tzN s) := by
  unfold sumS
  rw [bits_cons h0 (show s < 2 ^ 32 by omega)]
  simp only [List.map_cons, List.sum_cons]
  omega
theorem sum_bound {B : Int} (hB : 0 ≤ B) : ∀ (x : List Int), (∀ y ∈ x, -B ≤ y ∧ y ≤ B) → -(B * x.length) ≤ x.sum ∧ x.sum ≤ B * x.length
  | [], _ => by simp
  | y :: x, h => by
    have ih := sum_bound hB x fun z hz => h z (List.mem_cons_of_mem _ hz)
    have := h y List.mem_cons_self
    simp only [List.sum_cons, List.length_cons]
    push_cast
    rw [Int.mul_add]
    omega
theorem ix_range {l : List Int} (hl : ∀ x ∈ l, -1125899906842624 ≤ x ∧ x ≤ 1125899906842624) (i : Nat) : -1125899906842624 ≤ ix l i ∧ ix l i ≤ 1125899906842624 := by
  rcases Nat.lt_or_ge i l.length with h | h
  · exact hl _ (ix_mem h)
  · unfold ix
    rw [List.getD_eq_getElem?_getD, List.getElem?_eq_none h]
    decide
theorem sumS_range {l : List Int} (hl : ∀ x ∈ l, -1125899906842624 ≤ x ∧ x ≤ 1125899906842624) (s : Nat) : -36028797018963968 ≤ sumS l s ∧ sumS l s ≤ 36028797018963968 := by
  have := sum_bound (B := 1125899906842624) (by decide) ((bitsL s).map fun i => ix l i) fun y hy => by
    obtain ⟨i, _, rfl⟩ := List.mem_map.1 hy
    exact ix_range hl i
  have hb := bits_len s
  rw [List.length_map] at this
  unfold sumS
  omega
/-- The sums of the first subsets. -/
def allS (l : List Int) (n : Nat) : List Int := (List.range n).map (sumS l)
theorem allS_len (l : List Int) (n : Nat) : (allS l n).length = n := by simp [allS]
theorem allS_ix (l : List Int) {n k : Nat} (h : k < n) : ix (allS l n) k = sumS l k := by
  rw [ix_eq (by rw [allS_len]; exact h)]; simp [allS]
theorem u64w {n : Nat} (h : n < 18446744073709551616) : IntKind.u64.wrap (n : Int) = n := by rw [IntKind.wrap_u64]; omega
theorem u64_and {a b : Nat} (ha : a < 18446744073709551616) (hb : b < 18446744073709551616) : IntKind.u64.wrap (((BitVec.ofInt IntKind.u64.bits (a : Int) &&& BitVec.ofInt IntKind.u64.bits (b : Int)).toNat : Nat) : Int) = ((a &&& b : Nat) : Int) := by
  rw [k_and (k := .u64) ha hb, u64w (Nat.lt_of_le_of_lt Nat.and_le_left ha)]
theorem u64_neg {x : Nat} (h0 : 0 < x) (h : x < 18446744073709551616) : IntKind.u64.wrap (0 - (x : Int)) = ((18446744073709551616 - x : Nat) : Int) := by rw [IntKind.wrap_u64]; omega
theorem i64_and {a b : Nat} (ha : a < 9223372036854775808) (hb : b < 9223372036854775808) : IntKind.i64.wrap (((BitVec.ofInt IntKind.i64.bits (a : Int) &&& BitVec.ofInt IntKind.i64.bits (b : Int)).toNat : Nat) : Int) = ((a &&& b : Nat) : Int) := by
  rw [k_and (k := .i64) (show a < 2 ^ 64 by omega) (show b < 2 ^ 64 by omega)]
  have : a &&& b < 9223372036854775808 := Nat.lt_of_le_of_lt Nat.and_le_left ha
  rw [IntKind.wrap_i64]; omega
theorem and_neg64 {x : Nat} (h0 : 0 < x) (h : x < 65536) : x &&& (18446744073709551616 - x) = 2 ^ tzN x := by
  obtain ⟨k, m, rfl⟩ := low_bit x h0
  rw [tz_low (by omega)]
  refine Nat.eq_of_testBit_eq fun j => ?_
  rw [Nat.testBit_and, bit_x, show 18446744073709551616 = 2 ^ 64 from rfl, bit_neg (n := 64) (by omega), Nat.testBit_two_pow]
  split
  · simp [eq_comm]
  · rename_i hj
    have : ¬ k = j := by omega
    simp [this]
    intro h1 _
    exact h1
theorem tab64 (k : Nat) (h : k < 16) : (2 ^ k * 285870213051353865) % 18446744073709551616 / 288230376151711744 < 64 ∧ globV 1 ((2 ^ k * 285870213051353865) % 18446744073709551616 / 288230376151711744) = some (.int .u8 k) := by
  have key : (List.range 16).all (fun k => decide ((2 ^ k * 285870213051353865) % 18446744073709551616 / 288230376151711744 < 64) && (gU8 (globV 1 ((2 ^ k * 285870213051353865) % 18446744073709551616 / 288230376151711744)) == some (k : Int))) = true := by decide +kernel
  have := List.all_eq_true.1 key k (List.mem_range.2 h)
  simp only [Bool.and_eq_true, decide_eq_true_eq, beq_iff_eq] at this
  exact ⟨this.1, gU8_some this.2⟩
theorem tz64_pu (x : Nat) (h1 : 0 < x) (h : x < 65536) : Pu Tryd.prog 65 [.v (.int .u64 x)] [] (.v (.int .i64 (tzN x : Nat))) := by
  refine pu_of_ex false [] mixed Tryd.call65 Tryd.func65 rfl Tryd.ntmps65 Tryd.results65 (by decide +kernel) rfl rfl rfl ?_
  simp only [push_cast, ↓branch_true, ↓branch_false, Nat.reduceBEq, Nat.reduceAdd, Nat.reduceMul, Nat.reduceSub, Int.reduceToNat, reduceCtorEq, branch_decide, branch_not, branch_beq, branch_bne]
  refine ⟨fun h0 => by omega, fun h0 => ?_⟩
  have hk := tz_lt h1 (n := 16) h (by omega)
  obtain ⟨g1, g2⟩ := tab64 _ hk
  have e1 : IntKind.u64.wrap (((2 ^ tzN x : Nat) : Int) * 285870213051353865) = ((2 ^ tzN x * 285870213051353865 % 18446744073709551616 : Nat) : Int) := by rw [IntKind.wrap_u64]; omega
  have e2 : (((2 ^ tzN x * 285870213051353865 % 18446744073709551616 : Nat) : Int)).fdiv (2 ^ min 58 IntKind.u64.bits) = ((2 ^ tzN x * 285870213051353865 % 18446744073709551616 / 288230376151711744 : Nat) : Int) := by
    rw [Int.fdiv_eq_ediv_of_nonneg _ (by decide)]
    rfl
  rw [u64_neg h1 (by omega), u64_and (by omega) (by omega), and_neg64 h1 h, e1, e2]
  rw [Int.toNat_natCast, Nat.mul_one, g2]
  refine ⟨by omega, by omega, by omega, rfl, fun v hv => ?_⟩
  obtain rfl : Value.int .u8 (tzN x) = v := by simpa using hv
  clear e1 e2 g1 g2
  generalize 2 ^ tzN x * 285870213051353865 % 18446744073709551616 / 288230376151711744 = a1
  generalize 2 ^ tzN x * 285870213051353865 % 18446744073709551616 = a2
  generalize 2 ^ tzN x = a3
  generalize 18446744073709551616 - x = a4
  generalize tzN x = k at *
  simp only [push_cast, ↓branch_true, ↓branch_false, Nat.reduceBEq, Nat.reduceAdd, Nat.reduceMul, Nat.reduceSub, Int.reduceToNat, reduceCtorEq, branch_decide, branch_not, branch_beq, branch_bne]
  congr 2
  rw [IntKind.wrap_i64]
  omega
/-- The first sums; the rest is 0. -/
def prtS (l : List Int) (n k : Nat) : List Int := (List.range n).map fun q => if q < k then sumS l q else 0
theorem prtS_len (l : List Int) (n k : Nat) : (prtS l n k).length = n := by simp [prtS]
theorem prtS_ix {l : List Int} {n k q : Nat} (h : q < n) : ix (prtS l n k) q = if q < k then sumS l q else 0 := by
  rw [ix_eq (by rw [prtS_len]; exact h)]; simp [prtS]
theorem prtS_all (l : List Int) (n : Nat) : prtS l n n = allS l n := by
  unfold prtS allS
  refine List.map_congr_left fun q hq => ?_
  rw [if_pos (List.mem_range.1 hq)]
theorem tz_pu (x : Nat) (h1 : 0 < x) (h : x < 65536) : Pu Tryd.prog 57 [.v (.int .u64 x)] [] (.v (.int .i64 (tzN x : Nat))) := by
  refine pu_of_ex true [] mixed Tryd.call57 Tryd.func57 rfl Tryd.ntmps57 Tryd.results57 (by decide +kernel) rfl rfl rfl ?_
  simp only [push_cast, ↓branch_true, ↓branch_false, Nat.reduceBEq, Nat.reduceAdd, Nat.reduceMul, Nat.reduceSub, Int.reduceToNat, reduceCtorEq, branch_decide, branch_not, branch_beq, branch_bne]
  refine sp_call (tz64_pu x h1 h) rfl [] rfl (by simp only [push_cast, ↓branch_true, ↓branch_false, Nat.reduceBEq, Nat.reduceAdd, Nat.reduceMul, Nat.reduceSub, Int.reduceToNat, reduceCtorEq, branch_decide, branch_not, branch_beq, branch_bne]) (by simp only [push_cast, ↓branch_true, ↓branch_false, Nat.reduceBEq, Nat.reduceAdd, Nat.reduceMul, Nat.reduceSub, Int.reduceToNat, reduceCtorEq, branch_decide, branch_not, branch_beq, branch_bne]) ?_
  simp only [push_cast, ↓branch_true, ↓branch_false, Nat.reduceBEq, Nat.reduceAdd, Nat.reduceMul, Nat.reduceSub, Int.reduceToNat, reduceCtorEq, branch_decide, branch_not, branch_beq, branch_bne]
set_option maxHeartbeats 1000000 in
theorem sums_sp (l : List Int) (c : Nat) (hl : l.length ≤ 16) (hx : ∀ x ∈ l, -1125899906842624 ≤ x ∧ x ≤ 1125899906842624) : Sp Tryd.prog 43 [.s 0 0 0 l.length c 1] [rR l] (fun r H => r = .s 1 0 0 (2 ^ l.length) (2 ^ l.length) 1 ∧ H = [rR l, rIO (allS l (2 ^ l.length)) (2 ^ l.length)]) := by
  have hN : 2 ^ l.length ≤ 65536 := Nat.pow_le_pow_right (n := 2) (by decide) (i := l.length) (j := 16) hl
  have hN0 : 0 < 2 ^ l.length := Nat.two_pow_pos _
  refine sp_weak ?_
  refine sp_of_ex true [(7, .one 0 (.one 1 (.one 2 (.one 3 (.one 4 (.one 5 (.one 6 (.one 7 (.one 9 (.one 10 (.one 11 (.alt [(8, .one 12 (.one 13 (.one 14 (.one 15 .fin)))), (12, .one 8 (.one 13 (.one 14 (.one 15 .fin))))]))))))))))))] mixed Tryd.call43 Tryd.func43 rfl Tryd.ntmps43 Tryd.results43 (by decide +kernel) rfl ?_
  simp only [push_cast, ↓branch_true, ↓branch_false, Nat.reduceBEq, Nat.reduceAdd, Nat.reduceMul, Nat.reduceSub, Int.reduceToNat, reduceCtorEq, branch_decide, branch_not, branch_beq, branch_bne]
  have e : (1 : Int) * 2 ^ min l.length IntKind.i64.bits = ((2 ^ l.length : Nat) : Int) := by
    rw [show IntKind.i64.bits = 64 from rfl, Nat.min_eq_left (by omega)]
    push_cast
    omega
  rw [e, Int.toNat_natCast]
  have hlt : ∀ s, s < 2 ^ l.length → 0 < s → tzN s < l.length := fun s hs h0 => tz_lt h0 hs (by omega)
  generalize 2 ^ l.length = N at *
  repeat (with_reducible refine And.intro (by omega) ?_)
  refine tr_loop mixed (by kernel_rfl) (fun (k : Nat) => [(12, .v (.int .i64 k)), (11, .v (.int .i64 N)), (3, .s 1 0 0 N N 1), (10, .s 1 0 0 N N 1), (0, .s 0 0 0 l.length c 1)])
    (fun k => [rR l, rIO (prtS l N k) N]) (fun k => k ≤ N) (fun k => N - k) 0 (Nat.zero_le _) (Mt.wk (rl := [0, 1]) ⟨by kernel_rfl, ?_, ?_⟩) ?_
  · simp only [push_cast, ↓branch_true, ↓branch_false, Nat.reduceBEq, Nat.reduceAdd, Nat.reduceMul, Nat.reduceSub, Int.reduceToNat, reduceCtorEq, branch_decide, branch_not, branch_beq, branch_bne]
  · simp only [push_cast, ↓branch_true, ↓branch_false, Nat.reduceBEq, Nat.reduceAdd, Nat.reduceMul, Nat.reduceSub, Int.reduceToNat, reduceCtorEq, branch_decide, branch_not, branch_beq, branch_bne, prtS_len]
    intro i hi q hq
    rw [prtS_ix hq, if_neg (by omega)]
  intro k hk
  simp only [push_cast, ↓branch_true, ↓branch_false, Nat.reduceBEq, Nat.reduceAdd, Nat.reduceMul, Nat.reduceSub, Int.reduceToNat, reduceCtorEq, branch_decide, branch_not, branch_beq, branch_bne, prtS_len]
  have nxt : ∀ q, q < N → ix (prtS l N (k + 1)) q = if q = k then sumS l k else ix (prtS l N k) q := fun q hq => by
    rw [prtS_ix hq, prtS_ix hq]
    by_cases e : q = k
    · subst e; rw [if_pos (by omega), if_pos rfl]
    · rw [if_neg e]
      by_cases e2 : q < k
      · rw [if_pos e2, if_pos (by omega)]
      · rw [if_neg e2, if_neg (by omega)]
  refine ⟨fun h => ⟨fun h0 => ⟨by omega, ?_⟩, fun h0 => ⟨by omega, ?_⟩⟩, fun h => ?_⟩
  · have hk0 : 0 < k := by omega
    have hkN : k < N := by omega
    have ht := hlt k hkN hk0
    refine sp_call (tz_pu k hk0 (by omega)) rfl [] rfl ?_ ?_ ?_
    · simp only [push_cast, ↓branch_true, ↓branch_false, Nat.reduceBEq, Nat.reduceAdd, Nat.reduceMul, Nat.reduceSub, Int.reduceToNat, reduceCtorEq, branch_decide, branch_not, branch_beq, branch_bne]
    · simp only [push_cast, ↓branch_true, ↓branch_false, Nat.reduceBEq, Nat.reduceAdd, Nat.reduceMul, Nat.reduceSub, Int.reduceToNat, reduceCtorEq, branch_decide, branch_not, branch_beq, branch_bne]
    simp only [push_cast, ↓branch_true, ↓branch_false, Nat.reduceBEq, Nat.reduceAdd, Nat.reduceMul, Nat.reduceSub, Int.reduceToNat, reduceCtorEq, branch_decide, branch_not, branch_beq, branch_bne]
    have ha : k &&& (k - 1) < k := and_lt hk0
    have e1 : IntKind.i64.wrap (((BitVec.ofInt IntKind.i64.bits (k : Int) &&& BitVec.ofInt IntKind.i64.bits ((k : Int) - 1)).toNat : Nat) : Int) = ((k &&& (k - 1) : Nat) : Int) := by
      rw [show ((k : Int) - 1) = ((k - 1 : Nat) : Int) by omega, i64_and (by omega) (by omega)]
    have e2 : ix (prtS l N k) (k &&& (k - 1)) = sumS l (k &&& (k - 1)) := by rw [prtS_ix (by omega), if_pos ha]
    have e3 := sumS_step (l := l) hk0 (by omega)
    have r1 := sumS_range hx (k &&& (k - 1))
    have r2 := ix_range hx (tzN k)
    rw [e1]
    generalize hm : k &&& (k - 1) = m at *
    simp only [Int.toNat_natCast]
    rw [e2]
    repeat' (with_reducible (first | apply And.intro | intro _))
    all_goals try omega
    all_goals
      refine lpK_normal (k + 1) [0, 1] (by omega) (by omega) (by kernel_rfl) ?_ ?_
      · simp only [push_cast, ↓branch_true, ↓branch_false, Nat.reduceBEq, Nat.reduceAdd, Nat.reduceMul, Nat.reduceSub, Int.reduceToNat, reduceCtorEq, branch_decide, branch_not, branch_beq, branch_bne]
      · simp only [push_cast, ↓branch_true, ↓branch_false, Nat.reduceBEq, Nat.reduceAdd, Nat.reduceMul, Nat.reduceSub, Int.reduceToNat, reduceCtorEq, branch_decide, branch_not, branch_beq, branch_bne, prtS_len]
        intro i hi q hq
        obtain rfl : i = 0 := by omega
        rw [nxt q hq]
        by_cases e : q = k
        · subst e
          have hb : (q == q) = true := by simp
          rw [if_pos rfl, hb, e3]
          exact ⟨rfl, trivial⟩
        · have hb : (q == k) = false := by simpa using e
          rw [if_neg e, hb]
          exact ⟨rfl, trivial⟩
  · obtain rfl : k = 0 := by omega
    refine lpK_normal 1 [0, 1] (by omega) (by omega) (by kernel_rfl) ?_ ?_
    · simp only [push_cast, ↓branch_true, ↓branch_false, Nat.reduceBEq, Nat.reduceAdd, Nat.reduceMul, Nat.reduceSub, Int.reduceToNat, reduceCtorEq, branch_decide, branch_not, branch_beq, branch_bne]
    · simp only [push_cast, ↓branch_true, ↓branch_false, Nat.reduceBEq, Nat.reduceAdd, Nat.reduceMul, Nat.reduceSub, Int.reduceToNat, reduceCtorEq, branch_decide, branch_not, branch_beq, branch_bne, prtS_len]
      intro i hi q hq
      rw [nxt q hq]
      by_cases e : q = 0
      · subst e; rw [if_pos rfl, sumS_zero, prtS_ix hq, if_neg (by omega)]
      · rw [if_neg e]
  · obtain rfl : k = N := by omega
    rw [prtS_all]
    refine ⟨_, _, [0, 1], ?_, by kernel_rfl, ?_, rfl, rfl⟩
    · simp only [push_cast, ↓branch_true, ↓branch_false, Nat.reduceBEq, Nat.reduceAdd, Nat.reduceMul, Nat.reduceSub, Int.reduceToNat, reduceCtorEq, branch_decide, branch_not, branch_beq, branch_bne]
    · simp only [push_cast, ↓branch_true, ↓branch_false, Nat.reduceBEq, Nat.reduceAdd, Nat.reduceMul, Nat.reduceSub, Int.reduceToNat, reduceCtorEq, branch_decide, branch_not, branch_beq, branch_bne, allS_len]
end Go.Proofs.YtapbhppfecfobaaDoor
