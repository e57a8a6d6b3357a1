/- Contracts of the reference: Has, Indices, Sum, Earlier. -/
import Derived.Test.YtapbhppfecfobaaDoorM
set_option maxRecDepth 100000
set_option linter.unusedSimpArgs false
set_option linter.unusedVariables false
namespace Go.Proofs.YtapbhppfecfobaaDoor
open Go.RowKit
theorem has_pu (s i : Nat) (h : s < 65536) (hi : i < 32) : Pu Tryd.prog 39 [.v (.int .i64 s), .v (.int .i64 i)] [] (.v (.bool (s.testBit i))) := by
  refine pu_of_ex true [] mixed Tryd.call39 Tryd.func39 rfl Tryd.ntmps39 Tryd.results39 (by decide +kernel) rfl rfl rfl ?_
  simp only [push_cast, ↓branch_true, ↓branch_false, Nat.reduceBEq, Nat.reduceAdd, Nat.reduceMul, Nat.reduceSub, Int.reduceToNat, reduceCtorEq, branch_decide, branch_not, branch_beq, branch_bne]
  refine ⟨by omega, by omega, ?_⟩
  have hq : s / 2 ^ i < 9223372036854775808 := Nat.lt_of_le_of_lt (Nat.div_le_self _ _) (by omega)
  have e := i64_and hq (show 1 < 9223372036854775808 by decide)
  rw [show ((1 : Nat) : Int) = 1 from rfl] at e
  rw [show IntKind.i64.bits = 64 from rfl, Nat.min_eq_left (by omega), u32_sh]
  rw [show IntKind.i64.bits = 64 from rfl] at e
  rw [e, Nat.and_one_is_mod, Nat.testBit_eq_decide_div_mod_eq]
  have h2 : s / 2 ^ i % 2 < 2 := Nat.mod_lt _ (by decide)
  generalize s / 2 ^ i % 2 = m at *
  by_cases hm : m = 1
  · subst hm; rfl
  · obtain rfl : m = 0 := by omega
    rfl
/-- The indices of a subset below k. -/
def idxN (s : Nat) (k : Nat) : List Int := ((List.range k).filter fun i => s.testBit i).map fun (i : Nat) => (i : Int)
theorem idxN_succ (s k : Nat) : idxN s (k + 1) = if s.testBit k = true then idxN s k ++ [(k : Int)] else idxN s k := by
  unfold idxN
  rw [List.range_succ, List.filter_append]
  cases e : s.testBit k <;> simp [e]
theorem idxN_all {s n : Nat} (h : s < 2 ^ n) (hn : n ≤ 32) : idxN s n = bL s := by
  unfold idxN bL
  rw [bits_n h hn]
theorem idxN_len (s k : Nat) : (idxN s k).length ≤ k := by
  unfold idxN
  rw [List.length_map]
  have := List.length_filter_le (fun i => s.testBit i) (List.range k)
  simpa using this
theorem indices_sp (l : List Int) (c s : Nat) (h : s < 2 ^ l.length) (hl : l.length ≤ 16) : Sp Tryd.prog 16 [.s 0 0 0 l.length c 1, .v (.int .i64 s)] [rR l] (fun r H => ∃ cap, (bL s).length ≤ cap ∧ r = .s 1 0 0 (bL s).length cap 1 ∧ H = [rR l, rIO (bL s) cap]) := by
  have hp : 2 ^ l.length ≤ 2 ^ 16 := Nat.pow_le_pow_right (by decide) hl
  have hall := idxN_all h (by omega)
  refine sp_weak ?_
  refine sp_of_ex true [] mixed Tryd.call16 Tryd.func16 rfl Tryd.ntmps16 Tryd.results16 (by decide +kernel) rfl ?_
  simp only [push_cast, ↓branch_true, ↓branch_false, Nat.reduceBEq, Nat.reduceAdd, Nat.reduceMul, Nat.reduceSub, Int.reduceToNat, reduceCtorEq, branch_decide, branch_not, branch_beq, branch_bne]
  refine tr_loop mixed (by kernel_rfl) (fun (x : Nat × Nat) => [(0, .s 0 0 0 l.length c 1), (1, .v (.int .i64 s)), (6, .v (.int .i64 x.1)), (5, .s 1 0 0 (idxN s x.1).length x.2 1)])
    (fun x => [rR l, rIO (idxN s x.1) x.2]) (fun x => x.1 ≤ l.length ∧ (idxN s x.1).length ≤ x.2) (fun x => l.length - x.1) (0, 0) ⟨Nat.zero_le _, Nat.le_refl _⟩ (Mt.wk (rl := [0, 1000]) ⟨by kernel_rfl, ?_, ?_⟩) ?_
  · simp only [push_cast, ↓branch_true, ↓branch_false, Nat.reduceBEq, Nat.reduceAdd, Nat.reduceMul, Nat.reduceSub, Int.reduceToNat, reduceCtorEq, branch_decide, branch_not, branch_beq, branch_bne]
    try exact rfl
  · simp only [push_cast, ↓branch_true, ↓branch_false, Nat.reduceBEq, Nat.reduceAdd, Nat.reduceMul, Nat.reduceSub, Int.reduceToNat, reduceCtorEq, branch_decide, branch_not, branch_beq, branch_bne]
    exact ⟨by omega, Or.inr fun _ => rfl⟩
  rintro ⟨k, oc⟩ ⟨h1, h2⟩
  simp only at h1 h2
  have hlk := idxN_len s k
  have hsu := idxN_succ s k
  simp only [push_cast, ↓branch_true, ↓branch_false, Nat.reduceBEq, Nat.reduceAdd, Nat.reduceMul, Nat.reduceSub, Int.reduceToNat, reduceCtorEq, branch_decide, branch_not, branch_beq, branch_bne]
  refine ⟨fun h3 => ?_, fun h3 => ?_⟩
  rotate_left
  · obtain rfl : k = l.length := by omega
    rw [hall] at h2 ⊢
    refine ⟨_, _, [0, 1], ?_, by kernel_rfl, ?_, oc, h2, rfl, rfl⟩
    · simp only [push_cast, ↓branch_true, ↓branch_false, Nat.reduceBEq, Nat.reduceAdd, Nat.reduceMul, Nat.reduceSub, Int.reduceToNat, reduceCtorEq, branch_decide, branch_not, branch_beq, branch_bne]
    · simp only [push_cast, ↓branch_true, ↓branch_false, Nat.reduceBEq, Nat.reduceAdd, Nat.reduceMul, Nat.reduceSub, Int.reduceToNat, reduceCtorEq, branch_decide, branch_not, branch_beq, branch_bne]
  refine sp_call (has_pu s k (by omega) (by omega)) rfl [] rfl ?_ ?_ ?_
  · simp only [push_cast, ↓branch_true, ↓branch_false, Nat.reduceBEq, Nat.reduceAdd, Nat.reduceMul, Nat.reduceSub, Int.reduceToNat, reduceCtorEq, branch_decide, branch_not, branch_beq, branch_bne]
  · simp only [push_cast, ↓branch_true, ↓branch_false, Nat.reduceBEq, Nat.reduceAdd, Nat.reduceMul, Nat.reduceSub, Int.reduceToNat, reduceCtorEq, branch_decide, branch_not, branch_beq, branch_bne]
  cases e : s.testBit k with
  | false =>
    rw [e, if_neg (by decide)] at hsu
    simp only [push_cast, ↓branch_true, ↓branch_false, Nat.reduceBEq, Nat.reduceAdd, Nat.reduceMul, Nat.reduceSub, Int.reduceToNat, reduceCtorEq, branch_decide, branch_not, branch_beq, branch_bne]
    repeat (with_reducible refine And.intro (by omega) ?_)
    refine lpK_normal (k + 1, oc) [0, 1] ⟨by simp only; omega, by simp only [hsu]; exact h2⟩ (by simp only; omega) (by kernel_rfl) ?_ ?_
    · simp only [push_cast, ↓branch_true, ↓branch_false, Nat.reduceBEq, Nat.reduceAdd, Nat.reduceMul, Nat.reduceSub, Int.reduceToNat, reduceCtorEq, branch_decide, branch_not, branch_beq, branch_bne, hsu]
    · simp only [push_cast, ↓branch_true, ↓branch_false, Nat.reduceBEq, Nat.reduceAdd, Nat.reduceMul, Nat.reduceSub, Int.reduceToNat, reduceCtorEq, branch_decide, branch_not, branch_beq, branch_bne, hsu]
  | true =>
    rw [e, if_pos rfl] at hsu
    simp only [push_cast, ↓branch_true, ↓branch_false, Nat.reduceBEq, Nat.reduceAdd, Nat.reduceMul, Nat.reduceSub, Int.reduceToNat, reduceCtorEq, branch_decide, branch_not, branch_beq, branch_bne]
    generalize hx : idxN s k = X at *
    refine ⟨by omega, by omega, Or.inr ?_⟩
    repeat (with_reducible refine And.intro (by omega) ?_)
    intro cap hcap
    repeat (with_reducible refine And.intro (by omega) ?_)
    refine lpK_normal (k + 1, cap) [0, 3] ⟨by simp only; omega, by simp only [hsu, List.length_append, List.length_cons, List.length_nil]; omega⟩ (by simp only; omega) (by kernel_rfl) ?_ ?_
    · simp only [push_cast, ↓branch_true, ↓branch_false, Nat.reduceBEq, Nat.reduceAdd, Nat.reduceMul, Nat.reduceSub, Int.reduceToNat, reduceCtorEq, branch_decide, branch_not, branch_beq, branch_bne, hsu, List.length_append]
      try omega
    · simp only [push_cast, ↓branch_true, ↓branch_false, Nat.reduceBEq, Nat.reduceAdd, Nat.reduceMul, Nat.reduceSub, Int.reduceToNat, reduceCtorEq, branch_decide, branch_not, branch_beq, branch_bne, hsu, List.length_append]
      intro i hi q hq
      by_cases e : q < X.length
      · have hb2 : decide (q < X.length) = true := by simpa using e
        rw [ix_app_ne (by omega), hb2]
        simp only [push_cast, ↓branch_true, ↓branch_false, Nat.reduceBEq, Nat.reduceAdd, Nat.reduceMul, Nat.reduceSub, Int.reduceToNat, reduceCtorEq, branch_decide, branch_not, branch_beq, branch_bne]
      · obtain rfl : q = X.length := by omega
        have hb2 : decide (X.length < X.length) = false := by simp
        rw [ix_app_last, hb2]
        simp only [push_cast, ↓branch_true, ↓branch_false, Nat.reduceBEq, Nat.reduceAdd, Nat.reduceMul, Nat.reduceSub, Int.reduceToNat, reduceCtorEq, branch_decide, branch_not, branch_beq, branch_bne]
/-- The sum of a subset, below k. -/
def sumN (l : List Int) (s : Nat) : Nat → Int
  | 0 => 0
  | k + 1 => if s.testBit k = true then sumN l s k + ix l k else sumN l s k
theorem sumN_all {l : List Int} {s n : Nat} (h : s < 2 ^ n) (hn : n ≤ 32) : sumN l s n = sumS l s := by
  have key : ∀ k, sumN l s k = (((List.range k).filter fun i => s.testBit i).map fun i => ix l i).sum := by
    intro k
    induction k with
    | zero => rfl
    | succ k ih =>
      rw [sumN, ih, List.range_succ, List.filter_append]
      cases e : s.testBit k <;> simp [e]
  rw [key, sumS, bits_n h hn]
theorem sumN_range {l : List Int} (hx : ∀ x ∈ l, -1125899906842624 ≤ x ∧ x ≤ 1125899906842624) (s : Nat) (k : Nat) : -(1125899906842624 * (k : Int)) ≤ sumN l s k ∧ sumN l s k ≤ 1125899906842624 * (k : Int) := by
  induction k with
  | zero => simp [sumN]
  | succ k ih =>
    have h2 := ix_range hx k
    unfold sumN
    split <;> omega
theorem rsum_pu (l : List Int) (c s : Nat) (h : s < 2 ^ l.length) (hl : l.length ≤ 16) (hx : ∀ x ∈ l, -1125899906842624 ≤ x ∧ x ≤ 1125899906842624) : Pu Tryd.prog 40 [.s 0 0 0 l.length c 1, .v (.int .i64 s)] [rR l] (.v (.int .i64 (sumS l s))) := by
  have hp : 2 ^ l.length ≤ 2 ^ 16 := Nat.pow_le_pow_right (by decide) hl
  have hall := sumN_all (l := l) h (by omega)
  refine pu_of_ex true [] mixed Tryd.call40 Tryd.func40 rfl Tryd.ntmps40 Tryd.results40 (by decide +kernel) rfl rfl rfl ?_
  simp only [push_cast, ↓branch_true, ↓branch_false, Nat.reduceBEq, Nat.reduceAdd, Nat.reduceMul, Nat.reduceSub, Int.reduceToNat, reduceCtorEq, branch_decide, branch_not, branch_beq, branch_bne]
  refine tr_loop0 mixed (by kernel_rfl) (fun (k : Nat) => [(0, .s 0 0 0 l.length c 1), (1, .v (.int .i64 s)), (6, .v (.int .i64 k)), (5, .v (.int .i64 (sumN l s k)))]) (fun k => k ≤ l.length) (fun k => l.length - k) 0 (Nat.zero_le _) ?_ ?_
  · simp only [push_cast, ↓branch_true, ↓branch_false, Nat.reduceBEq, Nat.reduceAdd, Nat.reduceMul, Nat.reduceSub, Int.reduceToNat, reduceCtorEq, branch_decide, branch_not, branch_beq, branch_bne]
    try rfl
  intro k hk
  have hr := sumN_range hx s k
  have hsu : sumN l s (k + 1) = if s.testBit k = true then sumN l s k + ix l k else sumN l s k := rfl
  have hir := ix_range hx k
  simp only [push_cast, ↓branch_true, ↓branch_false, Nat.reduceBEq, Nat.reduceAdd, Nat.reduceMul, Nat.reduceSub, Int.reduceToNat, reduceCtorEq, branch_decide, branch_not, branch_beq, branch_bne]
  refine ⟨fun h3 => ?_, fun h3 => ?_⟩
  rotate_left
  · obtain rfl : k = l.length := by omega
    rw [hall]
  refine sp_call (has_pu s k (by omega) (by omega)) rfl [] rfl ?_ ?_ ?_
  · simp only [push_cast, ↓branch_true, ↓branch_false, Nat.reduceBEq, Nat.reduceAdd, Nat.reduceMul, Nat.reduceSub, Int.reduceToNat, reduceCtorEq, branch_decide, branch_not, branch_beq, branch_bne]
  · simp only [push_cast, ↓branch_true, ↓branch_false, Nat.reduceBEq, Nat.reduceAdd, Nat.reduceMul, Nat.reduceSub, Int.reduceToNat, reduceCtorEq, branch_decide, branch_not, branch_beq, branch_bne]
  cases e : s.testBit k with
  | false =>
    rw [e, if_neg (by decide)] at hsu
    simp only [push_cast, ↓branch_true, ↓branch_false, Nat.reduceBEq, Nat.reduceAdd, Nat.reduceMul, Nat.reduceSub, Int.reduceToNat, reduceCtorEq, branch_decide, branch_not, branch_beq, branch_bne]
    repeat (with_reducible refine And.intro (by omega) ?_)
    refine lp0_normal (k + 1) (by omega) (by omega) ?_
    simp only [push_cast, ↓branch_true, ↓branch_false, Nat.reduceBEq, Nat.reduceAdd, Nat.reduceMul, Nat.reduceSub, Int.reduceToNat, reduceCtorEq, branch_decide, branch_not, branch_beq, branch_bne, hsu]
  | true =>
    rw [e, if_pos rfl] at hsu
    simp only [push_cast, ↓branch_true, ↓branch_false, Nat.reduceBEq, Nat.reduceAdd, Nat.reduceMul, Nat.reduceSub, Int.reduceToNat, reduceCtorEq, branch_decide, branch_not, branch_beq, branch_bne]
    repeat (with_reducible refine And.intro (by omega) ?_)
    refine lp0_normal (k + 1) (by omega) (by omega) ?_
    simp only [push_cast, ↓branch_true, ↓branch_false, Nat.reduceBEq, Nat.reduceAdd, Nat.reduceMul, Nat.reduceSub, Int.reduceToNat, reduceCtorEq, branch_decide, branch_not, branch_beq, branch_bne, hsu]
theorem earlier_pu (a b : List Int) (c c2 : Nat) (ha : a.length ≤ 100000) (hb : b.length ≤ 100000) : Pu Tryd.prog 41 [.s 0 0 0 a.length c 1, .s 1 0 0 b.length c2 1] [rR a, rR b] (.v (.bool (lexL a b))) := by
  refine pu_of_ex true [] mixed Tryd.call41 Tryd.func41 rfl Tryd.ntmps41 Tryd.results41 (by decide +kernel) rfl rfl rfl ?_
  simp only [push_cast, ↓branch_true, ↓branch_false, Nat.reduceBEq, Nat.reduceAdd, Nat.reduceMul, Nat.reduceSub, Int.reduceToNat, reduceCtorEq, branch_decide, branch_not, branch_beq, branch_bne]
  refine tr_loop0 mixed (by kernel_rfl) (fun (k : Nat) => [(0, .s 0 0 0 a.length c 1), (1, .s 1 0 0 b.length c2 1), (5, .v (.int .i64 k))]) (fun k => k ≤ a.length ∧ k ≤ b.length ∧ lexL a b = lexL (a.drop k) (b.drop k)) (fun k => a.length - k) 0 ⟨Nat.zero_le _, Nat.zero_le _, rfl⟩ ?_ ?_
  · simp only [push_cast, ↓branch_true, ↓branch_false, Nat.reduceBEq, Nat.reduceAdd, Nat.reduceMul, Nat.reduceSub, Int.reduceToNat, reduceCtorEq, branch_decide, branch_not, branch_beq, branch_bne]
  rintro k ⟨h1, h2, h3⟩
  simp only [push_cast, ↓branch_true, ↓branch_false, Nat.reduceBEq, Nat.reduceAdd, Nat.reduceMul, Nat.reduceSub, Int.reduceToNat, reduceCtorEq, branch_decide, branch_not, branch_beq, branch_bne]
  refine ⟨fun h => ?_, fun h => ?_⟩
  · have hk : k < a.length := by omega
    rw [drop_cons hk] at h3
    refine ⟨fun h5 => ?_, fun h5 => ?_⟩
    · have hk2 : k < b.length := by omega
      rw [drop_cons hk2] at h3
      simp only [lexL] at h3
      repeat (with_reducible refine And.intro (by omega) ?_)
      refine ⟨fun g => ?_, fun g => ?_⟩
      · rw [decide_eq_false (show ¬ ix a k < ix b k by omega), decide_eq_true g, Bool.false_or, Bool.true_and] at h3
        repeat (with_reducible refine And.intro (by omega) ?_)
        refine lp0_normal (k + 1) ⟨by omega, by omega, h3⟩ (by omega) ?_
        simp only [push_cast, ↓branch_true, ↓branch_false, Nat.reduceBEq, Nat.reduceAdd, Nat.reduceMul, Nat.reduceSub, Int.reduceToNat, reduceCtorEq, branch_decide, branch_not, branch_beq, branch_bne]
      · rw [decide_eq_false g, Bool.false_and, Bool.or_false] at h3
        rw [h3]
        repeat (with_reducible refine And.intro (by omega) ?_)
        rfl
    · rw [drop_all (l := b) (by omega)] at h3
      rw [h3]
      have hd : decide ((a.length : Int) < (b.length : Int)) = false := decide_eq_false (by omega)
      rw [hd]; rfl
  · obtain rfl : k = a.length := by omega
    rw [List.drop_length] at h3
    rw [h3]
    rcases Nat.lt_or_ge a.length b.length with g | g
    · rw [drop_cons g, decide_eq_true (by omega)]; rfl
    · rw [drop_all (l := b) (by omega), decide_eq_false (by omega)]; rfl
end Go.Proofs.YtapbhppfecfobaaDoor
