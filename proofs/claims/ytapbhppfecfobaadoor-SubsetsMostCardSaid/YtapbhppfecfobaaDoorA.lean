/- Plain facts on bits: subsets of 0 .. 31 as numbers. -/
import Derived.Test.YtapbhppfecfobaaDoorSB
set_option maxRecDepth 100000
set_option linter.unusedSimpArgs false
set_option linter.unusedVariables false
namespace Go.Proofs.YtapbhppfecfobaaDoor
/-- The indices of a subset, ascending. -/
def bitsL (x : Nat) : List Nat := (List.range 32).filter fun i => x.testBit i
/-- A number that is not 0 has a least bit. -/
theorem low_bit : ∀ x : Nat, 0 < x → ∃ k m, x = 2 ^ (k + 1) * m + 2 ^ k := by
  intro x
  induction x using Nat.strongRecOn with
  | _ x ih =>
    intro h
    by_cases e : x % 2 = 1
    · exact ⟨0, x / 2, by omega⟩
    · obtain ⟨k, m, hk⟩ := ih (x / 2) (by omega) (by omega)
      refine ⟨k + 1, m, ?_⟩
      have : x = 2 * (x / 2) := by omega
      rw [this, hk, Nat.mul_add, ← Nat.mul_assoc, Nat.pow_succ 2 (k + 1), Nat.pow_succ 2 k]
      rw [Nat.mul_comm 2 (2 ^ k * 2), Nat.mul_comm 2 (2 ^ k)]
theorem two_lt (k : Nat) : 2 ^ k < 2 ^ (k + 1) := Nat.pow_lt_pow_right (by decide) (by omega)
theorem bit_x (k m j : Nat) : (2 ^ (k + 1) * m + 2 ^ k).testBit j = if j < k + 1 then decide (j = k) else m.testBit (j - (k + 1)) := by
  rw [Nat.testBit_two_pow_mul_add _ (two_lt k)]
  split
  · rw [Nat.testBit_two_pow]; simp [eq_comm]
  · rfl
theorem bit_x1 (k m j : Nat) : (2 ^ (k + 1) * m + 2 ^ k - 1).testBit j = if j < k + 1 then decide (j < k) else m.testBit (j - (k + 1)) := by
  have h0 : 0 < 2 ^ k := Nat.two_pow_pos k
  rw [show 2 ^ (k + 1) * m + 2 ^ k - 1 = 2 ^ (k + 1) * m + (2 ^ k - 1) by omega, Nat.testBit_two_pow_mul_add _ (by have := two_lt k; omega)]
  split
  · rw [Nat.testBit_two_pow_sub_one]
  · rfl
theorem bit_neg {k m n : Nat} (h : 2 ^ (k + 1) * m + 2 ^ k < 2 ^ n) (j : Nat) : (2 ^ n - (2 ^ (k + 1) * m + 2 ^ k)).testBit j = if j < k + 1 then decide (j = k) else (decide (j < n) && !m.testBit (j - (k + 1))) := by
  have hkn : k + 1 ≤ n := by
    have : 2 ^ k < 2 ^ n := by omega
    exact (Nat.pow_lt_pow_iff_right (by decide)).1 this
  have e : 2 ^ n = 2 ^ (k + 1) * 2 ^ (n - (k + 1)) := by rw [← Nat.pow_add]; congr 1; omega
  have hm : m < 2 ^ (n - (k + 1)) := by
    rw [e] at h
    exact Nat.lt_of_mul_lt_mul_left (a := 2 ^ (k + 1)) (Nat.lt_of_le_of_lt (Nat.le_add_right _ _) h)
  have e2 : 2 ^ n - (2 ^ (k + 1) * m + 2 ^ k) = 2 ^ (k + 1) * (2 ^ (n - (k + 1)) - (m + 1)) + 2 ^ k := by
    rw [e, Nat.mul_sub, Nat.mul_add, Nat.mul_one]
    have h2 : 2 ^ (k + 1) = 2 ^ k + 2 ^ k := by rw [Nat.pow_succ]; omega
    have h3 : 2 ^ (k + 1) * (m + 1) ≤ 2 ^ (k + 1) * 2 ^ (n - (k + 1)) := Nat.mul_le_mul_left _ hm
    rw [Nat.mul_add, Nat.mul_one] at h3
    omega
  rw [e2, bit_x]
  split
  · rfl
  · rename_i hj
    rw [Nat.testBit_two_pow_sub_succ hm]
    congr 1
    simp
    omega
/-- The least index. -/
def tzN (x : Nat) : Nat := (bitsL x).headD 0
theorem bits_mem {x i : Nat} : i ∈ bitsL x ↔ i < 32 ∧ x.testBit i = true := by simp [bitsL]
theorem bits_low {k m : Nat} (h : 2 ^ (k + 1) * m + 2 ^ k < 2 ^ 32) : bitsL (2 ^ (k + 1) * m + 2 ^ k) = k :: bitsL ((2 ^ (k + 1) * m + 2 ^ k) &&& (2 ^ (k + 1) * m + 2 ^ k - 1)) := by
  have hk : k < 32 := by
    have : 2 ^ k < 2 ^ 32 := by omega
    exact (Nat.pow_lt_pow_iff_right (by decide)).1 this
  have e : List.range 32 = List.range k ++ k :: (List.range' (k + 1) (31 - k)) := by
    rw [List.range_eq_range', List.range_eq_range', show 32 = k + (31 - k + 1) by omega, ← List.range'_append_1]
    simp [List.range'_succ]
  have c1 : (List.range k).filter (fun i => (2 ^ (k + 1) * m + 2 ^ k).testBit i) = [] := by
    rw [List.filter_eq_nil_iff]
    intro i hi
    have hi := List.mem_range.1 hi
    rw [bit_x, if_pos (by omega)]
    simp; omega
  have c2 : (List.range k).filter (fun i => ((2 ^ (k + 1) * m + 2 ^ k) &&& (2 ^ (k + 1) * m + 2 ^ k - 1)).testBit i) = [] := by
    rw [List.filter_eq_nil_iff]
    intro i hi
    have hi := List.mem_range.1 hi
    rw [Nat.testBit_and, bit_x, if_pos (by omega)]
    simp; omega
  have d1 : (2 ^ (k + 1) * m + 2 ^ k).testBit k = true := by rw [bit_x, if_pos (by omega)]; simp
  have d2 : ((2 ^ (k + 1) * m + 2 ^ k) &&& (2 ^ (k + 1) * m + 2 ^ k - 1)).testBit k = false := by
    rw [Nat.testBit_and, bit_x1, if_pos (by omega)]; simp
  unfold bitsL
  rw [e, List.filter_append, List.filter_append, c1, c2, List.filter_cons, List.filter_cons]
  simp only [d1, d2, if_true, Bool.false_eq_true, if_false, List.nil_append, List.cons.injEq, true_and]
  refine List.filter_congr fun i hi => ?_
  have hi := List.mem_range'_1.1 hi
  rw [Nat.testBit_and, bit_x, if_neg (by omega), bit_x1, if_neg (by omega), Bool.and_self]
theorem bits_cons {x : Nat} (h0 : 0 < x) (h : x < 2 ^ 32) : bitsL x = tzN x :: bitsL (x &&& (x - 1)) := by
  obtain ⟨k, m, rfl⟩ := low_bit x h0
  have := bits_low h
  rw [tzN, this]
  rfl
theorem tz_low {k m : Nat} (h : 2 ^ (k + 1) * m + 2 ^ k < 2 ^ 32) : tzN (2 ^ (k + 1) * m + 2 ^ k) = k := by
  rw [tzN, bits_low h]; rfl
theorem and_neg {x n : Nat} (h0 : 0 < x) (h : x < 2 ^ n) (hn : n ≤ 32) : x &&& (2 ^ n - x) = 2 ^ tzN x := by
  obtain ⟨k, m, rfl⟩ := low_bit x h0
  rw [tz_low (Nat.lt_of_lt_of_le h (Nat.pow_le_pow_right (by decide) hn))]
  refine Nat.eq_of_testBit_eq fun j => ?_
  rw [Nat.testBit_and, bit_x, bit_neg h, Nat.testBit_two_pow]
  split
  · simp [eq_comm]
  · rename_i hj
    have : ¬ k = j := by omega
    simp [this]
    intro h1 _
    exact h1
theorem bits_zero : bitsL 0 = [] := by decide
theorem and_lt {x : Nat} (h0 : 0 < x) : x &&& (x - 1) < x := Nat.lt_of_le_of_lt Nat.and_le_right (by omega)
theorem tz_lt {x n : Nat} (h0 : 0 < x) (h : x < 2 ^ n) (hn : n ≤ 32) : tzN x < n := by
  obtain ⟨k, m, rfl⟩ := low_bit x h0
  rw [tz_low (Nat.lt_of_lt_of_le h (Nat.pow_le_pow_right (by decide) hn))]
  have : 2 ^ k < 2 ^ n := by omega
  exact (Nat.pow_lt_pow_iff_right (by decide)).1 this
theorem bits_lt {x n i : Nat} (h : x < 2 ^ n) (hi : i ∈ bitsL x) : i < n := by
  obtain ⟨_, hb⟩ := bits_mem.1 hi
  refine Nat.lt_of_not_le fun hn => ?_
  rw [Nat.testBit_lt_two_pow (Nat.lt_of_lt_of_le h (Nat.pow_le_pow_right (by decide) hn))] at hb
  cases hb
theorem bits_len (x : Nat) : (bitsL x).length ≤ 32 := by
  have := List.length_filter_le (fun i => x.testBit i) (List.range 32)
  simpa [bitsL] using this
end Go.Proofs.YtapbhppfecfobaaDoor
