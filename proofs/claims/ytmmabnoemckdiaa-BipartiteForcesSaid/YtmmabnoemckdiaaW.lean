/- Contract: the reference's Degrees. -/
import Derived.Test.YtmmabnoemckdiaaV
import Derived.Test.YtmmabnoemckdiaaN
set_option maxRecDepth 100000
set_option linter.unusedSimpArgs false
set_option linter.unusedVariables false
namespace Go.Proofs.Ytmmabnoemckdiaa
open Go.RowKit Bip
/-- The counts when row i has been looked at up to place k. -/
def rowA (E : Nat → Nat → Bool) (M i k i' : Nat) : Int := bif i' == i then (dgA E k i : Nat) else bif decide (i' < i) then (dgA E M i' : Nat) else 0
def rowBd (E : Nat → Nat → Bool) (i k j : Nat) : Int := (dgB E (bif decide (j < k) then i + 1 else i) j : Nat)
theorem rowA_yes {E : Nat → Nat → Bool} {M i k : Nat} (h : E i k = true) (i' : Nat) : rowA E M i (k + 1) i' = bif i' == i then ((dgA E k i : Nat) : Int) + 1 else rowA E M i k i' := by
  unfold rowA
  rw [dgA_succ, h]
  cases i' == i <;> simp
theorem rowA_no {E : Nat → Nat → Bool} {M i k : Nat} (h : E i k = false) (i' : Nat) : rowA E M i (k + 1) i' = rowA E M i k i' := by
  unfold rowA
  rw [dgA_succ, h]
  cases i' == i <;> simp
theorem rowA_at (E : Nat → Nat → Bool) (M i k : Nat) : rowA E M i k i = (dgA E k i : Nat) := by simp [rowA]
theorem rowA_next (E : Nat → Nat → Bool) (M i i' : Nat) : rowA E M (i + 1) 0 i' = rowA E M i M i' := by
  unfold rowA
  by_cases e : i' = i
  · subst e
    have h1 : (i' == i' + 1) = false := by simp
    rw [h1]; simp
  · have h2 : (i' == i) = false := by simpa using e
    rw [h2, cond_false]
    by_cases e1 : i' = i + 1
    · subst e1
      rw [show decide (i + 1 < i) = false by simp]
      simp [dgA]
    · have h3 : (i' == i + 1) = false := by simpa using e1
      rw [h3, cond_false]
      congr 1
      rw [decide_eq_decide]; omega
theorem rowA_end {E : Nat → Nat → Bool} {M N i' : Nat} (h : i' < N) : rowA E M N 0 i' = (dgA E M i' : Nat) := by
  unfold rowA
  have h2 : (i' == N) = false := by simp; omega
  rw [h2, cond_false, decide_eq_true h, cond_true]
theorem rowB_at (E : Nat → Nat → Bool) (i k : Nat) : rowBd E i k k = (dgB E i k : Nat) := by simp [rowBd]
theorem rowB_yes {E : Nat → Nat → Bool} {i k : Nat} (h : E i k = true) (j : Nat) : rowBd E i (k + 1) j = bif j == k then ((dgB E i k : Nat) : Int) + 1 else rowBd E i k j := by
  unfold rowBd
  by_cases e : j = k
  · subst e
    simp [dgB_succ, h]
  · have h2 : (j == k) = false := by simpa using e
    rw [h2, cond_false, show decide (j < k + 1) = decide (j < k) by rw [decide_eq_decide]; omega]
theorem rowB_no {E : Nat → Nat → Bool} {i k : Nat} (h : E i k = false) (j : Nat) : rowBd E i (k + 1) j = rowBd E i k j := by
  unfold rowBd
  by_cases e : j = k
  · subst e
    simp [dgB_succ, h]
  · rw [show decide (j < k + 1) = decide (j < k) by rw [decide_eq_decide]; omega]
theorem rowB_next {E : Nat → Nat → Bool} {i M j : Nat} (h : j < M) : rowBd E (i + 1) 0 j = rowBd E i M j := by simp [rowBd, h]
theorem rowB_end (E : Nat → Nat → Bool) (N j : Nat) : rowBd E N 0 j = (dgB E N j : Nat) := by simp [rowBd]
set_option maxHeartbeats 4000000 in
theorem rdegrees_sp (l : List Ed) (N M c : Nat) (hN : N ≤ 60) (hM : M ≤ 60) (hl2 : l.length ≤ 1000) (hve : ∀ e ∈ l, inE N M e = true) : Sp Try.prog 24 [.v (.int .i64 N), .v (.int .i64 M), .s 0 0 0 l.length c 2] [rEd l]
    (fun r H => r = .t [.s 1 0 0 N N 1, .s 2 0 0 M M 1] ∧ H = [rEd l, oI N N (fun i => (dgA (tab l) M i : Nat)), oI M M (fun j => (dgB (tab l) N j : Nat))]) := by
  refine sp_weak ?_
  refine sp_of_ex true [(2, .jn (.one 0 (.one 2 (.alt [(1, .one 4 (.one 3 (.one 5 .fin))), (3, .one 1 (.one 4 (.one 5 .fin)))])))), (10, .jn (.one 0 (.one 1 (.one 2 (.one 3 (.one 4 (.one 5 (.one 6 (.one 9 (.one 10 (.one 11 (.alt [(7, .one 8 (.one 12 (.one 13 (.one 14 (.one 15 (.one 16 (.one 17 .fin))))))), (12, .one 13 (.one 7 (.one 8 (.one 14 (.one 15 (.one 16 (.one 17 .fin)))))))]))))))))))))] mixed Try.call24 Try.func24 rfl Try.ntmps24 Try.results24 (by decide +kernel) rfl ?_
  simp only [push_cast, ↓branch_true, ↓branch_false, Nat.reduceBEq, Nat.reduceAdd, Nat.reduceMul, Nat.reduceSub, Int.reduceToNat, reduceCtorEq, branch_decide, branch_not, branch_beq, branch_bne, Int.reduceAdd, Int.reduceEq, Int.reduceLE, Int.reduceLT, Nat.reduceLT, Nat.reduceLeDiff, false_imp_iff, true_imp_iff]
  refine sp_at (table_sp l N M c hN hM hl2 hve) [0] rfl ?_ ?_ ?_
  · simp only [push_cast, ↓branch_true, ↓branch_false, Nat.reduceBEq, Nat.reduceAdd, Nat.reduceMul, Nat.reduceSub, Int.reduceToNat, reduceCtorEq, branch_decide, branch_not, branch_beq, branch_bne, Int.reduceAdd, Int.reduceEq, Int.reduceLE, Int.reduceLT, Nat.reduceLT, Nat.reduceLeDiff, false_imp_iff, true_imp_iff]
    try trivial
  · simp only [push_cast, ↓branch_true, ↓branch_false, Nat.reduceBEq, Nat.reduceAdd, Nat.reduceMul, Nat.reduceSub, Int.reduceToNat, reduceCtorEq, branch_decide, branch_not, branch_beq, branch_bne, Int.reduceAdd, Int.reduceEq, Int.reduceLE, Int.reduceLT, Nat.reduceLT, Nat.reduceLeDiff, false_imp_iff, true_imp_iff]
    try trivial
  rintro _ _ ⟨oc, hoc, rfl, rfl⟩
  simp only [push_cast, ↓branch_true, ↓branch_false, Nat.reduceBEq, Nat.reduceAdd, Nat.reduceMul, Nat.reduceSub, Int.reduceToNat, reduceCtorEq, branch_decide, branch_not, branch_beq, branch_bne, Int.reduceAdd, Int.reduceEq, Int.reduceLE, Int.reduceLT, Nat.reduceLT, Nat.reduceLeDiff, false_imp_iff, true_imp_iff]
  refine ⟨[(8, .s 1 0 0 N oc 1), (9, .s 3 0 0 N N 1), (10, .s 4 0 0 M M 1), (0, .v (.int .i64 N)), (1, .v (.int .i64 M))], [rEd l, oTo 2 N M oc, oTg N M (tab l), oI N N (fun _ => 0), oI M M (fun _ => 0)], ?_, ?_⟩
  · repeat' (first | (with_reducible apply And.intro) | omega)
    · refine Mt.wk (rl := [0, 1, 2, 3, 4]) ⟨by kernel_rfl, ?_, ?_⟩
      · simp only [push_cast, ↓branch_true, ↓branch_false, Nat.reduceBEq, Nat.reduceAdd, Nat.reduceMul, Nat.reduceSub, Int.reduceToNat, reduceCtorEq, branch_decide, branch_not, branch_beq, branch_bne, Int.reduceAdd, Int.reduceEq, Int.reduceLE, Int.reduceLT, Nat.reduceLT, Nat.reduceLeDiff, false_imp_iff, true_imp_iff]
        try trivial
      · simp only [push_cast, ↓branch_true, ↓branch_false, Nat.reduceBEq, Nat.reduceAdd, Nat.reduceMul, Nat.reduceSub, Int.reduceToNat, reduceCtorEq, branch_decide, branch_not, branch_beq, branch_bne, Int.reduceAdd, Int.reduceEq, Int.reduceLE, Int.reduceLT, Nat.reduceLT, Nat.reduceLeDiff, false_imp_iff, true_imp_iff]
        try trivial
    · refine Mt.wk (rl := [0, 1, 2, 4, 3]) ⟨by kernel_rfl, ?_, ?_⟩
      · simp only [push_cast, ↓branch_true, ↓branch_false, Nat.reduceBEq, Nat.reduceAdd, Nat.reduceMul, Nat.reduceSub, Int.reduceToNat, reduceCtorEq, branch_decide, branch_not, branch_beq, branch_bne, Int.reduceAdd, Int.reduceEq, Int.reduceLE, Int.reduceLT, Nat.reduceLT, Nat.reduceLeDiff, false_imp_iff, true_imp_iff]
        try trivial
      · simp only [push_cast, ↓branch_true, ↓branch_false, Nat.reduceBEq, Nat.reduceAdd, Nat.reduceMul, Nat.reduceSub, Int.reduceToNat, reduceCtorEq, branch_decide, branch_not, branch_beq, branch_bne, Int.reduceAdd, Int.reduceEq, Int.reduceLE, Int.reduceLT, Nat.reduceLT, Nat.reduceLeDiff, false_imp_iff, true_imp_iff]
        try trivial
  simp only [push_cast, ↓branch_true, ↓branch_false, Nat.reduceBEq, Nat.reduceAdd, Nat.reduceMul, Nat.reduceSub, Int.reduceToNat, reduceCtorEq, branch_decide, branch_not, branch_beq, branch_bne, Int.reduceAdd, Int.reduceEq, Int.reduceLE, Int.reduceLT, Nat.reduceLT, Nat.reduceLeDiff, false_imp_iff, true_imp_iff, jnK]
  refine tr_loop mixed (by kernel_rfl) (fun (i : Nat) => [(11, .v (.int .i64 i)), (8, .s 1 0 0 N oc 1), (9, .s 3 0 0 N N 1), (10, .s 4 0 0 M M 1), (0, .v (.int .i64 N)), (1, .v (.int .i64 M))])
    (fun i => [rEd l, oTo 2 N M oc, oTg N M (tab l), oI N N (rowA (tab l) M i 0), oI M M (rowBd (tab l) i 0)]) (fun i => i ≤ N) (fun i => N - i) 0 (Nat.zero_le _) (Mt.wk (rl := [0, 1, 2, 3, 4]) ⟨by kernel_rfl, ?_, ?_⟩) ?_
  · simp only [push_cast, ↓branch_true, ↓branch_false, Nat.reduceBEq, Nat.reduceAdd, Nat.reduceMul, Nat.reduceSub, Int.reduceToNat, reduceCtorEq, branch_decide, branch_not, branch_beq, branch_bne, Int.reduceAdd, Int.reduceEq, Int.reduceLE, Int.reduceLT, Nat.reduceLT, Nat.reduceLeDiff, false_imp_iff, true_imp_iff]
    try trivial
  · simp only [push_cast, ↓branch_true, ↓branch_false, Nat.reduceBEq, Nat.reduceAdd, Nat.reduceMul, Nat.reduceSub, Int.reduceToNat, reduceCtorEq, branch_decide, branch_not, branch_beq, branch_bne, Int.reduceAdd, Int.reduceEq, Int.reduceLE, Int.reduceLT, Nat.reduceLT, Nat.reduceLeDiff, false_imp_iff, true_imp_iff]
    exact ⟨fun _ _ k _ => by simp [rowA, dgA], fun _ _ k _ => by simp [rowBd, dgB]⟩
  intro i hi
  simp only [push_cast, ↓branch_true, ↓branch_false, Nat.reduceBEq, Nat.reduceAdd, Nat.reduceMul, Nat.reduceSub, Int.reduceToNat, reduceCtorEq, branch_decide, branch_not, branch_beq, branch_bne, Int.reduceAdd, Int.reduceEq, Int.reduceLE, Int.reduceLT, Nat.reduceLT, Nat.reduceLeDiff, false_imp_iff, true_imp_iff]
  refine ⟨fun h0 => ?_, fun h0 => ?_⟩
  · have hiN : i < N := by omega
    repeat (with_reducible refine And.intro (by omega) ?_)
    refine tr_loop mixed (by kernel_rfl) (fun (k : Nat) => [(12, .v (.int .i64 k)), (11, .v (.int .i64 i)), (8, .s 1 0 0 N oc 1), (9, .s 3 0 0 N N 1), (10, .s 4 0 0 M M 1), (0, .v (.int .i64 N)), (1, .v (.int .i64 M))])
      (fun k => [rEd l, oTo 2 N M oc, oTg N M (tab l), oI N N (rowA (tab l) M i k), oI M M (rowBd (tab l) i k)]) (fun k => k ≤ M) (fun k => M - k) 0 (Nat.zero_le _) (Mt.wk (rl := [0, 1, 2, 3, 4]) ⟨by kernel_rfl, ?_, ?_⟩) ?_
    · simp only [push_cast, ↓branch_true, ↓branch_false, Nat.reduceBEq, Nat.reduceAdd, Nat.reduceMul, Nat.reduceSub, Int.reduceToNat, reduceCtorEq, branch_decide, branch_not, branch_beq, branch_bne, Int.reduceAdd, Int.reduceEq, Int.reduceLE, Int.reduceLT, Nat.reduceLT, Nat.reduceLeDiff, false_imp_iff, true_imp_iff]
      try trivial
    · simp only [push_cast, ↓branch_true, ↓branch_false, Nat.reduceBEq, Nat.reduceAdd, Nat.reduceMul, Nat.reduceSub, Int.reduceToNat, reduceCtorEq, branch_decide, branch_not, branch_beq, branch_bne, Int.reduceAdd, Int.reduceEq, Int.reduceLE, Int.reduceLT, Nat.reduceLT, Nat.reduceLeDiff, false_imp_iff, true_imp_iff]
      try trivial
    intro k hk
    simp only [push_cast, ↓branch_true, ↓branch_false, Nat.reduceBEq, Nat.reduceAdd, Nat.reduceMul, Nat.reduceSub, Int.reduceToNat, reduceCtorEq, branch_decide, branch_not, branch_beq, branch_bne, Int.reduceAdd, Int.reduceEq, Int.reduceLE, Int.reduceLT, Nat.reduceLT, Nat.reduceLeDiff, false_imp_iff, true_imp_iff]
    refine ⟨fun h1 => ?_, fun h1 => ?_⟩
    · have hkM : k < M := by omega
      repeat (with_reducible refine And.intro (by omega) ?_)
      cases hE : tab l i k with
      | true =>
        have hA := rowA_yes (M := M) hE
        have hB := rowB_yes hE
        have hal := dgA_le (tab l) k i
        have hbl := dgB_le (tab l) i k
        have hAt := rowA_at (tab l) M i k
        have hBt := rowB_at (tab l) i k
        simp only [push_cast, ↓branch_true, ↓branch_false, Nat.reduceBEq, Nat.reduceAdd, Nat.reduceMul, Nat.reduceSub, Int.reduceToNat, reduceCtorEq, branch_decide, branch_not, branch_beq, branch_bne, Int.reduceAdd, Int.reduceEq, Int.reduceLE, Int.reduceLT, Nat.reduceLT, Nat.reduceLeDiff, false_imp_iff, true_imp_iff]
        rw [hAt, hBt]
        refine ⟨[(12, .v (.int .i64 k)), (11, .v (.int .i64 i)), (8, .s 1 0 0 N oc 1), (9, .s 3 0 0 N N 1), (10, .s 4 0 0 M M 1), (0, .v (.int .i64 N)), (1, .v (.int .i64 M))], [rEd l, oTo 2 N M oc, oTg N M (tab l), oI N N (rowA (tab l) M i (k + 1)), oI M M (rowBd (tab l) i (k + 1))], ?_, ?_⟩
        · repeat' (first | (with_reducible apply And.intro) | omega | (with_reducible intro _))
          all_goals first
            | omega
            | (refine Mt.wk (rl := [0, 1, 2, 3, 4]) ⟨by kernel_rfl, ?_, ?_⟩
               · simp only [push_cast, ↓branch_true, ↓branch_false, Nat.reduceBEq, Nat.reduceAdd, Nat.reduceMul, Nat.reduceSub, Int.reduceToNat, reduceCtorEq, branch_decide, branch_not, branch_beq, branch_bne, Int.reduceAdd, Int.reduceEq, Int.reduceLE, Int.reduceLT, Nat.reduceLT, Nat.reduceLeDiff, false_imp_iff, true_imp_iff]
                 try trivial
               · simp only [push_cast, ↓branch_true, ↓branch_false, Nat.reduceBEq, Nat.reduceAdd, Nat.reduceMul, Nat.reduceSub, Int.reduceToNat, reduceCtorEq, branch_decide, branch_not, branch_beq, branch_bne, Int.reduceAdd, Int.reduceEq, Int.reduceLE, Int.reduceLT, Nat.reduceLT, Nat.reduceLeDiff, false_imp_iff, true_imp_iff, hA, hB]
                 exact ⟨fun _ hi1 _ _ => upI hi1, fun _ hi1 _ _ => upI hi1⟩
               )
        simp only [push_cast, ↓branch_true, ↓branch_false, Nat.reduceBEq, Nat.reduceAdd, Nat.reduceMul, Nat.reduceSub, Int.reduceToNat, reduceCtorEq, branch_decide, branch_not, branch_beq, branch_bne, Int.reduceAdd, Int.reduceEq, Int.reduceLE, Int.reduceLT, Nat.reduceLT, Nat.reduceLeDiff, false_imp_iff, true_imp_iff, jnK]
        repeat (with_reducible refine And.intro (by omega) ?_)
        refine lpK_normal (k + 1) [0, 1, 2, 3, 4] (by omega) (by omega) (by kernel_rfl) ?_ ?_
        · simp only [push_cast, ↓branch_true, ↓branch_false, Nat.reduceBEq, Nat.reduceAdd, Nat.reduceMul, Nat.reduceSub, Int.reduceToNat, reduceCtorEq, branch_decide, branch_not, branch_beq, branch_bne, Int.reduceAdd, Int.reduceEq, Int.reduceLE, Int.reduceLT, Nat.reduceLT, Nat.reduceLeDiff, false_imp_iff, true_imp_iff]
        · simp only [push_cast, ↓branch_true, ↓branch_false, Nat.reduceBEq, Nat.reduceAdd, Nat.reduceMul, Nat.reduceSub, Int.reduceToNat, reduceCtorEq, branch_decide, branch_not, branch_beq, branch_bne, Int.reduceAdd, Int.reduceEq, Int.reduceLE, Int.reduceLT, Nat.reduceLT, Nat.reduceLeDiff, false_imp_iff, true_imp_iff]
      | false =>
        have hA := rowA_no (M := M) hE
        have hB := rowB_no hE
        simp only [push_cast, ↓branch_true, ↓branch_false, Nat.reduceBEq, Nat.reduceAdd, Nat.reduceMul, Nat.reduceSub, Int.reduceToNat, reduceCtorEq, branch_decide, branch_not, branch_beq, branch_bne, Int.reduceAdd, Int.reduceEq, Int.reduceLE, Int.reduceLT, Nat.reduceLT, Nat.reduceLeDiff, false_imp_iff, true_imp_iff]
        repeat (with_reducible refine And.intro (by omega) ?_)
        refine lpK_normal (k + 1) [0, 1, 2, 3, 4] (by omega) (by omega) (by kernel_rfl) ?_ ?_
        · simp only [push_cast, ↓branch_true, ↓branch_false, Nat.reduceBEq, Nat.reduceAdd, Nat.reduceMul, Nat.reduceSub, Int.reduceToNat, reduceCtorEq, branch_decide, branch_not, branch_beq, branch_bne, Int.reduceAdd, Int.reduceEq, Int.reduceLE, Int.reduceLT, Nat.reduceLT, Nat.reduceLeDiff, false_imp_iff, true_imp_iff]
        · simp only [push_cast, ↓branch_true, ↓branch_false, Nat.reduceBEq, Nat.reduceAdd, Nat.reduceMul, Nat.reduceSub, Int.reduceToNat, reduceCtorEq, branch_decide, branch_not, branch_beq, branch_bne, Int.reduceAdd, Int.reduceEq, Int.reduceLE, Int.reduceLT, Nat.reduceLT, Nat.reduceLeDiff, false_imp_iff, true_imp_iff, hA, hB]
    · obtain rfl : k = M := by omega
      have hA := rowA_next (tab l) k i
      repeat (with_reducible refine And.intro (by omega) ?_)
      refine lpK_normal (i + 1) [0, 1, 2, 3, 4] (by omega) (by omega) (by kernel_rfl) ?_ ?_
      · simp only [push_cast, ↓branch_true, ↓branch_false, Nat.reduceBEq, Nat.reduceAdd, Nat.reduceMul, Nat.reduceSub, Int.reduceToNat, reduceCtorEq, branch_decide, branch_not, branch_beq, branch_bne, Int.reduceAdd, Int.reduceEq, Int.reduceLE, Int.reduceLT, Nat.reduceLT, Nat.reduceLeDiff, false_imp_iff, true_imp_iff]
      · simp only [push_cast, ↓branch_true, ↓branch_false, Nat.reduceBEq, Nat.reduceAdd, Nat.reduceMul, Nat.reduceSub, Int.reduceToNat, reduceCtorEq, branch_decide, branch_not, branch_beq, branch_bne, Int.reduceAdd, Int.reduceEq, Int.reduceLE, Int.reduceLT, Nat.reduceLT, Nat.reduceLeDiff, false_imp_iff, true_imp_iff, hA]
        exact fun _ _ j hj => by rw [rowB_next hj]
  · obtain rfl : i = N := by omega
    refine ⟨_, _, [0, 3, 4], ?_, by kernel_rfl, ?_, rfl, rfl⟩
    · simp only [push_cast, ↓branch_true, ↓branch_false, Nat.reduceBEq, Nat.reduceAdd, Nat.reduceMul, Nat.reduceSub, Int.reduceToNat, reduceCtorEq, branch_decide, branch_not, branch_beq, branch_bne, Int.reduceAdd, Int.reduceEq, Int.reduceLE, Int.reduceLT, Nat.reduceLT, Nat.reduceLeDiff, false_imp_iff, true_imp_iff]
    · simp only [push_cast, ↓branch_true, ↓branch_false, Nat.reduceBEq, Nat.reduceAdd, Nat.reduceMul, Nat.reduceSub, Int.reduceToNat, reduceCtorEq, branch_decide, branch_not, branch_beq, branch_bne, Int.reduceAdd, Int.reduceEq, Int.reduceLE, Int.reduceLT, Nat.reduceLT, Nat.reduceLeDiff, false_imp_iff, true_imp_iff, rowB_end]
      exact fun _ _ k hk => by rw [rowA_end hk]
end Go.Proofs.Ytmmabnoemckdiaa
