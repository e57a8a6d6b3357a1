/- Contracts: Compact; all; marked; clones of bools. -/
import Derived.Test.YtmmabnoemckdiaaC0
set_option maxRecDepth 100000
set_option linter.unusedSimpArgs false
set_option linter.unusedVariables false
namespace Go.Proofs.Ytmmabnoemckdiaa
open Go.RowKit
theorem take_len {α : Type} {l : List α} {k : Nat} (h : k ≤ l.length) : (l.take k).length = k := by simp; omega
/-- The end of an append loop. -/
theorem app_end {X : List Int} {k q : Nat} {x : Int} {rl : List Nat} (hX : X.length = k) (hq : q < k + 1) : Value.int IntKind.i64 (ix (X ++ [x]) q) = Value.int IntKind.i64 (bif decide (q < k) then ix X q else x) ∧ mtL rl [] (bif decide (q < k) then [] else []) := by
  by_cases e : q < k
  · rw [ix_app_ne (by omega), decide_eq_true e]
    exact ⟨rfl, trivial⟩
  · obtain rfl : q = X.length := by omega
    rw [ix_app_last, decide_eq_false (by omega)]
    exact ⟨rfl, trivial⟩
def allL (n : Nat) : List Int := (List.range n).map fun (i : Nat) => (i : Int)
theorem allL_len (n : Nat) : (allL n).length = n := by simp [allL]
theorem allL_ix {n k : Nat} (h : k < n) : ix (allL n) k = k := by
  rw [ix_eq (by rw [allL_len]; exact h)]
  simp [allL]
set_option maxHeartbeats 1000000 in
theorem all_sp (n : Nat) (hn : n ≤ 1000000) : Sp Try.prog 53 [.v (.int .i64 n)] [] (fun r H => ∃ cap, n ≤ cap ∧ r = .s 0 0 0 n cap 1 ∧ H = [rIO (allL n) cap]) := by
  have hl := allL_len n
  refine sp_weak ?_
  refine sp_of_ex true [] mixed Try.call53 Try.func53 rfl Try.ntmps53 Try.results53 (by decide +kernel) rfl ?_
  simp only [push_cast, ↓branch_true, ↓branch_false, Nat.reduceBEq, Nat.reduceAdd, Nat.reduceMul, Nat.reduceSub, Int.reduceToNat, reduceCtorEq, branch_decide, branch_not, branch_beq, branch_bne, Int.reduceAdd, Int.reduceEq, Int.reduceLE, Int.reduceLT, Nat.reduceLT, Nat.reduceLeDiff, false_imp_iff, true_imp_iff]
  refine tr_loop mixed (by kernel_rfl) (fun (x : Nat × Nat) => [(6, .v (.int .i64 x.1)), (5, .v (.int .i64 n)), (3, .s 0 0 0 x.1 x.2 1)])
    (fun x => [rIO ((allL n).take x.1) x.2]) (fun x => x.1 ≤ n ∧ x.1 ≤ x.2) (fun x => n - x.1) (0, 0) ⟨Nat.zero_le _, Nat.le_refl _⟩ (Mt.wk (rl := [1000]) ⟨by kernel_rfl, ?_, ?_⟩) ?_
  · simp only [push_cast, ↓branch_true, ↓branch_false, Nat.reduceBEq, Nat.reduceAdd, Nat.reduceMul, Nat.reduceSub, Int.reduceToNat, reduceCtorEq, branch_decide, branch_not, branch_beq, branch_bne, Int.reduceAdd, Int.reduceEq, Int.reduceLE, Int.reduceLT, Nat.reduceLT, Nat.reduceLeDiff, false_imp_iff, true_imp_iff]
    try exact rfl
  · simp only [push_cast, ↓branch_true, ↓branch_false, Nat.reduceBEq, Nat.reduceAdd, Nat.reduceMul, Nat.reduceSub, Int.reduceToNat, reduceCtorEq, branch_decide, branch_not, branch_beq, branch_bne, Int.reduceAdd, Int.reduceEq, Int.reduceLE, Int.reduceLT, Nat.reduceLT, Nat.reduceLeDiff, false_imp_iff, true_imp_iff]
    try omega
  rintro ⟨k, oc⟩ ⟨h1, h2⟩
  simp only at h1 h2
  have hlt : ((allL n).take k).length = k := take_len (by omega)
  simp only [push_cast, ↓branch_true, ↓branch_false, Nat.reduceBEq, Nat.reduceAdd, Nat.reduceMul, Nat.reduceSub, Int.reduceToNat, reduceCtorEq, branch_decide, branch_not, branch_beq, branch_bne, Int.reduceAdd, Int.reduceEq, Int.reduceLE, Int.reduceLT, Nat.reduceLT, Nat.reduceLeDiff, false_imp_iff, true_imp_iff]
  refine ⟨fun h0 => ?_, fun h0 => ?_⟩
  · have hk : k < n := by omega
    have hX := take_snoc (l := allL n) (k := k) (by omega)
    rw [allL_ix hk] at hX
    generalize hx : (allL n).take k = X at *
    refine Or.inr ⟨hlt, by omega, by omega, fun cap hcap => ?_⟩
    repeat (with_reducible refine And.intro (by omega) ?_)
    refine lpK_normal (k + 1, cap) [2] ⟨by simp only; omega, by simp only; omega⟩ (by simp only; omega) (by kernel_rfl) ?_ ?_
    · simp only [push_cast, ↓branch_true, ↓branch_false, Nat.reduceBEq, Nat.reduceAdd, Nat.reduceMul, Nat.reduceSub, Int.reduceToNat, reduceCtorEq, branch_decide, branch_not, branch_beq, branch_bne, Int.reduceAdd, Int.reduceEq, Int.reduceLE, Int.reduceLT, Nat.reduceLT, Nat.reduceLeDiff, false_imp_iff, true_imp_iff]
      try omega
    · simp only [push_cast, ↓branch_true, ↓branch_false, Nat.reduceBEq, Nat.reduceAdd, Nat.reduceMul, Nat.reduceSub, Int.reduceToNat, reduceCtorEq, branch_decide, branch_not, branch_beq, branch_bne, Int.reduceAdd, Int.reduceEq, Int.reduceLE, Int.reduceLT, Nat.reduceLT, Nat.reduceLeDiff, false_imp_iff, true_imp_iff, hX, List.length_append, hlt]
      exact fun _ _ q hq => app_end hlt hq
  · obtain rfl : k = n := by omega
    rw [show (allL k).take k = allL k by rw [List.take_of_length_le (by omega)]]
    refine ⟨_, _, [0], ?_, by kernel_rfl, ?_, oc, h2, rfl, rfl⟩
    · simp only [push_cast, ↓branch_true, ↓branch_false, Nat.reduceBEq, Nat.reduceAdd, Nat.reduceMul, Nat.reduceSub, Int.reduceToNat, reduceCtorEq, branch_decide, branch_not, branch_beq, branch_bne, Int.reduceAdd, Int.reduceEq, Int.reduceLE, Int.reduceLT, Nat.reduceLT, Nat.reduceLeDiff, false_imp_iff, true_imp_iff]
    · simp only [push_cast, ↓branch_true, ↓branch_false, Nat.reduceBEq, Nat.reduceAdd, Nat.reduceMul, Nat.reduceSub, Int.reduceToNat, reduceCtorEq, branch_decide, branch_not, branch_beq, branch_bne, Int.reduceAdd, Int.reduceEq, Int.reduceLE, Int.reduceLT, Nat.reduceLT, Nat.reduceLeDiff, false_imp_iff, true_imp_iff]
/-- Bools: by their function. -/
def rB (n : Nat) (f : Nat → Bool) : Ob := ⟨4, true, .row 1 1 (fun _ => n) (fun _ => 0) (fun _ k => [.v (.bool (f k))])⟩
def oB (n cap : Nat) (f : Nat → Bool) : Ob := ⟨4, false, .row 1 1 (fun _ => n) (fun _ => cap) (fun _ k => [.v (.bool (f k))])⟩
attribute [push_cast] rB oB
/-- The indices that are marked. -/
def markL (f : Nat → Bool) (n : Nat) : List Int := ((List.range n).filter f).map fun (i : Nat) => (i : Int)
theorem markL_succ (f : Nat → Bool) (n : Nat) : markL f (n + 1) = bif f n then markL f n ++ [(n : Int)] else markL f n := by
  unfold markL
  rw [List.range_succ, List.filter_append, List.map_append]
  cases h : f n <;> simp [h]
theorem markL_len (f : Nat → Bool) : ∀ n, (markL f n).length ≤ n
  | 0 => Nat.le_refl _
  | n + 1 => by
    have := markL_len f n
    rw [markL_succ]
    cases f n <;> simp <;> omega
set_option maxHeartbeats 1000000 in
theorem marked_sp (f : Nat → Bool) (n c : Nat) (hn : n ≤ 1000000) : Sp Try.prog 59 [.s 0 0 0 n c 1] [rB n f] (fun r H => ∃ cap, (markL f n).length ≤ cap ∧ r = .s 1 0 0 (markL f n).length cap 1 ∧ H = [rB n f, rIO (markL f n) cap]) := by
  refine sp_weak ?_
  refine sp_of_ex true [] mixed Try.call59 Try.func59 rfl Try.ntmps59 Try.results59 (by decide +kernel) rfl ?_
  simp only [push_cast, ↓branch_true, ↓branch_false, Nat.reduceBEq, Nat.reduceAdd, Nat.reduceMul, Nat.reduceSub, Int.reduceToNat, reduceCtorEq, branch_decide, branch_not, branch_beq, branch_bne, Int.reduceAdd, Int.reduceEq, Int.reduceLE, Int.reduceLT, Nat.reduceLT, Nat.reduceLeDiff, false_imp_iff, true_imp_iff]
  refine tr_loop mixed (by kernel_rfl) (fun (x : Nat × Nat) => [(8, .v (.int .i64 x.1)), (7, .v (.int .i64 n)), (6, .s 0 0 0 n c 1), (3, .s 1 0 0 (markL f x.1).length x.2 1)])
    (fun x => [rB n f, rIO (markL f x.1) x.2]) (fun x => x.1 ≤ n ∧ (markL f x.1).length ≤ x.2) (fun x => n - x.1) (0, 0) ⟨Nat.zero_le _, Nat.le_refl _⟩ (Mt.wk (rl := [0, 1000]) ⟨by kernel_rfl, ?_, ?_⟩) ?_
  · simp only [push_cast, ↓branch_true, ↓branch_false, Nat.reduceBEq, Nat.reduceAdd, Nat.reduceMul, Nat.reduceSub, Int.reduceToNat, reduceCtorEq, branch_decide, branch_not, branch_beq, branch_bne, Int.reduceAdd, Int.reduceEq, Int.reduceLE, Int.reduceLT, Nat.reduceLT, Nat.reduceLeDiff, false_imp_iff, true_imp_iff]
    try exact rfl
  · simp only [push_cast, ↓branch_true, ↓branch_false, Nat.reduceBEq, Nat.reduceAdd, Nat.reduceMul, Nat.reduceSub, Int.reduceToNat, reduceCtorEq, branch_decide, branch_not, branch_beq, branch_bne, Int.reduceAdd, Int.reduceEq, Int.reduceLE, Int.reduceLT, Nat.reduceLT, Nat.reduceLeDiff, false_imp_iff, true_imp_iff]
    try omega
    try simp [markL]
  rintro ⟨k, oc⟩ ⟨h1, h2⟩
  simp only at h1 h2
  have hml := markL_len f k
  have hms := markL_succ f k
  simp only [push_cast, ↓branch_true, ↓branch_false, Nat.reduceBEq, Nat.reduceAdd, Nat.reduceMul, Nat.reduceSub, Int.reduceToNat, reduceCtorEq, branch_decide, branch_not, branch_beq, branch_bne, Int.reduceAdd, Int.reduceEq, Int.reduceLE, Int.reduceLT, Nat.reduceLT, Nat.reduceLeDiff, false_imp_iff, true_imp_iff]
  refine ⟨fun h0 => ?_, fun h0 => ?_⟩
  · have hk : k < n := by omega
    repeat (with_reducible refine And.intro (by omega) ?_)
    cases hf : f k with
    | false =>
      rw [hf, cond_false] at hms
      simp only [push_cast, ↓branch_true, ↓branch_false, Nat.reduceBEq, Nat.reduceAdd, Nat.reduceMul, Nat.reduceSub, Int.reduceToNat, reduceCtorEq, branch_decide, branch_not, branch_beq, branch_bne, Int.reduceAdd, Int.reduceEq, Int.reduceLE, Int.reduceLT, Nat.reduceLT, Nat.reduceLeDiff, false_imp_iff, true_imp_iff]
      repeat (with_reducible refine And.intro (by omega) ?_)
      refine lpK_normal (k + 1, oc) [0, 1] ⟨by simp only; omega, by simp only; rw [hms]; omega⟩ (by simp only; omega) (by kernel_rfl) ?_ ?_
      · simp only [push_cast, ↓branch_true, ↓branch_false, Nat.reduceBEq, Nat.reduceAdd, Nat.reduceMul, Nat.reduceSub, Int.reduceToNat, reduceCtorEq, branch_decide, branch_not, branch_beq, branch_bne, Int.reduceAdd, Int.reduceEq, Int.reduceLE, Int.reduceLT, Nat.reduceLT, Nat.reduceLeDiff, false_imp_iff, true_imp_iff, hms]
      · simp only [push_cast, ↓branch_true, ↓branch_false, Nat.reduceBEq, Nat.reduceAdd, Nat.reduceMul, Nat.reduceSub, Int.reduceToNat, reduceCtorEq, branch_decide, branch_not, branch_beq, branch_bne, Int.reduceAdd, Int.reduceEq, Int.reduceLE, Int.reduceLT, Nat.reduceLT, Nat.reduceLeDiff, false_imp_iff, true_imp_iff, hms]
    | true =>
      rw [hf, cond_true] at hms
      generalize hX : markL f k = X at *
      simp only [push_cast, ↓branch_true, ↓branch_false, Nat.reduceBEq, Nat.reduceAdd, Nat.reduceMul, Nat.reduceSub, Int.reduceToNat, reduceCtorEq, branch_decide, branch_not, branch_beq, branch_bne, Int.reduceAdd, Int.reduceEq, Int.reduceLE, Int.reduceLT, Nat.reduceLT, Nat.reduceLeDiff, false_imp_iff, true_imp_iff]
      repeat (with_reducible refine And.intro (by omega) ?_)
      refine Or.inr ⟨by omega, by omega, fun cap hcap => ?_⟩
      repeat (with_reducible refine And.intro (by omega) ?_)
      refine lpK_normal (k + 1, cap) [0, 3] ⟨by simp only; omega, by simp only; rw [hms]; simp; omega⟩ (by simp only; omega) (by kernel_rfl) ?_ ?_
      · simp only [push_cast, ↓branch_true, ↓branch_false, Nat.reduceBEq, Nat.reduceAdd, Nat.reduceMul, Nat.reduceSub, Int.reduceToNat, reduceCtorEq, branch_decide, branch_not, branch_beq, branch_bne, Int.reduceAdd, Int.reduceEq, Int.reduceLE, Int.reduceLT, Nat.reduceLT, Nat.reduceLeDiff, false_imp_iff, true_imp_iff, hms, List.length_append]
        try omega
      · simp only [push_cast, ↓branch_true, ↓branch_false, Nat.reduceBEq, Nat.reduceAdd, Nat.reduceMul, Nat.reduceSub, Int.reduceToNat, reduceCtorEq, branch_decide, branch_not, branch_beq, branch_bne, Int.reduceAdd, Int.reduceEq, Int.reduceLE, Int.reduceLT, Nat.reduceLT, Nat.reduceLeDiff, false_imp_iff, true_imp_iff, hms, List.length_append]
        exact fun _ _ q hq => app_end rfl hq
  · obtain rfl : k = n := by omega
    refine ⟨_, _, [0, 1], ?_, by kernel_rfl, ?_, oc, h2, rfl, rfl⟩
    · simp only [push_cast, ↓branch_true, ↓branch_false, Nat.reduceBEq, Nat.reduceAdd, Nat.reduceMul, Nat.reduceSub, Int.reduceToNat, reduceCtorEq, branch_decide, branch_not, branch_beq, branch_bne, Int.reduceAdd, Int.reduceEq, Int.reduceLE, Int.reduceLT, Nat.reduceLT, Nat.reduceLeDiff, false_imp_iff, true_imp_iff]
    · simp only [push_cast, ↓branch_true, ↓branch_false, Nat.reduceBEq, Nat.reduceAdd, Nat.reduceMul, Nat.reduceSub, Int.reduceToNat, reduceCtorEq, branch_decide, branch_not, branch_beq, branch_bne, Int.reduceAdd, Int.reduceEq, Int.reduceLE, Int.reduceLT, Nat.reduceLT, Nat.reduceLeDiff, false_imp_iff, true_imp_iff]
end Go.Proofs.Ytmmabnoemckdiaa
