/- Contract: the reference's Without. -/
import Derived.Test.YtmmabnoemckdiaaL
set_option maxRecDepth 100000
set_option linter.unusedSimpArgs false
set_option linter.unusedVariables false
namespace Go.Proofs.Ytmmabnoemckdiaa
open Go.RowKit Bip
/-- A table of bools of its own. -/
def oTo (F n M oc : Nat) : Ob := ⟨71, false, .row 1 1 (fun _ => n) (fun _ => oc) (fun _ k => [.s F k 0 M M 1])⟩
def oTg (n M : Nat) (E : Nat → Nat → Bool) : Ob := ⟨4, false, .row 1 n (fun _ => M) (fun _ => M) (fun i k => [.v (.bool (E i k))])⟩
attribute [push_cast] oTo oTg
def woE (E : Nat → Nat → Bool) (lf rt : Int) (i j : Nat) : Bool := E i j && (!decide ((i : Int) = lf) && !decide ((j : Int) = rt))
theorem upto_step (w : Nat → Bool) (q j : Nat) : (decide (j < q + 1) && w j) = bif j == q then w q else (decide (j < q) && w j) := by
  by_cases e : j = q
  · subst e; simp
  · have h1 : (j == q) = false := by simpa using e
    rw [h1, cond_false]
    congr 1
    rw [decide_eq_decide]
    omega
theorem upto_all {w : Nat → Bool} {q j : Nat} (h : j < q) : (decide (j < q) && w j) = w j := by simp [h]
set_option maxHeartbeats 4000000 in
theorem without_sp {N M : Nat} (E : Nat → Nat → Bool) (c : Nat) (cp : Nat → Nat) (lf rt : Int) (hN : N ≤ 1000000) (hM : M ≤ 1000000) :
    Sp Try.prog 57 [.s 0 0 0 N c 1, .v (.int .i64 lf), .v (.int .i64 rt)] [oTb 1 N M cp, oTf N M E] (fun r H => ∃ oc, N ≤ oc ∧ r = .s 2 0 0 N oc 1 ∧ H = [oTb 1 N M cp, oTf N M E, oTo 3 N M oc, oTg N M (woE E lf rt)]) := by
  refine sp_weak ?_
  refine sp_of_ex true [] mixed Try.call57 Try.func57 rfl Try.ntmps57 Try.results57 (by decide +kernel) rfl ?_
  simp only [push_cast, ↓branch_true, ↓branch_false, Nat.reduceBEq, Nat.reduceAdd, Nat.reduceMul, Nat.reduceSub, Int.reduceToNat, reduceCtorEq, branch_decide, branch_not, branch_beq, branch_bne, Int.reduceAdd, Int.reduceEq, Int.reduceLE, Int.reduceLT, Nat.reduceLT, Nat.reduceLeDiff, false_imp_iff, true_imp_iff]
  refine tr_loop mixed (by kernel_rfl) (fun (x : Nat × Nat) => [(8, .v (.int .i64 x.1)), (7, .s 2 0 0 x.1 x.2 1), (0, .s 0 0 0 N c 1), (1, .v (.int .i64 lf)), (2, .v (.int .i64 rt))])
    (fun x => [oTb 1 N M cp, oTf N M E, oTo 3 x.1 M x.2, oTg x.1 M (woE E lf rt)]) (fun x => x.1 ≤ N ∧ x.1 ≤ x.2) (fun x => N - x.1) (0, 0) ⟨Nat.zero_le _, Nat.le_refl _⟩ (Mt.wk (rl := [0, 1, 1000, 1001]) ⟨by kernel_rfl, ?_, ?_⟩) ?_
  · simp only [push_cast, ↓branch_true, ↓branch_false, Nat.reduceBEq, Nat.reduceAdd, Nat.reduceMul, Nat.reduceSub, Int.reduceToNat, reduceCtorEq, branch_decide, branch_not, branch_beq, branch_bne, Int.reduceAdd, Int.reduceEq, Int.reduceLE, Int.reduceLT, Nat.reduceLT, Nat.reduceLeDiff, false_imp_iff, true_imp_iff]
    try exact rfl
  · simp only [push_cast, ↓branch_true, ↓branch_false, Nat.reduceBEq, Nat.reduceAdd, Nat.reduceMul, Nat.reduceSub, Int.reduceToNat, reduceCtorEq, branch_decide, branch_not, branch_beq, branch_bne, Int.reduceAdd, Int.reduceEq, Int.reduceLE, Int.reduceLT, Nat.reduceLT, Nat.reduceLeDiff, false_imp_iff, true_imp_iff]
    try omega
  rintro ⟨k, oc⟩ ⟨h1, h2⟩
  simp only at h1 h2
  simp only [push_cast, ↓branch_true, ↓branch_false, Nat.reduceBEq, Nat.reduceAdd, Nat.reduceMul, Nat.reduceSub, Int.reduceToNat, reduceCtorEq, branch_decide, branch_not, branch_beq, branch_bne, Int.reduceAdd, Int.reduceEq, Int.reduceLE, Int.reduceLT, Nat.reduceLT, Nat.reduceLeDiff, false_imp_iff, true_imp_iff]
  refine ⟨fun h0 => ?_, fun h0 => ?_⟩
  · have hk : k < N := by omega
    repeat (with_reducible refine And.intro (by omega) ?_)
    refine tr_loop mixed (by kernel_rfl) (fun (q : Nat) => [(10, .v (.int .i64 q)), (9, .s 4 0 0 M M 1), (8, .v (.int .i64 k)), (7, .s 2 0 0 k oc 1), (0, .s 0 0 0 N c 1), (1, .v (.int .i64 lf)), (2, .v (.int .i64 rt))])
      (fun q => [oTb 1 N M cp, oTf N M E, oTo 3 k M oc, oTg k M (woE E lf rt), oB M M (fun j => decide (j < q) && woE E lf rt k j)]) (fun q => q ≤ M) (fun q => M - q) 0 (Nat.zero_le _) (Mt.wk (rl := [0, 1, 2, 3, 4]) ⟨by kernel_rfl, ?_, ?_⟩) ?_
    · simp only [push_cast, ↓branch_true, ↓branch_false, Nat.reduceBEq, Nat.reduceAdd, Nat.reduceMul, Nat.reduceSub, Int.reduceToNat, reduceCtorEq, branch_decide, branch_not, branch_beq, branch_bne, Int.reduceAdd, Int.reduceEq, Int.reduceLE, Int.reduceLT, Nat.reduceLT, Nat.reduceLeDiff, false_imp_iff, true_imp_iff]
      try trivial
    · simp only [push_cast, ↓branch_true, ↓branch_false, Nat.reduceBEq, Nat.reduceAdd, Nat.reduceMul, Nat.reduceSub, Int.reduceToNat, reduceCtorEq, branch_decide, branch_not, branch_beq, branch_bne, Int.reduceAdd, Int.reduceEq, Int.reduceLE, Int.reduceLT, Nat.reduceLT, Nat.reduceLeDiff, false_imp_iff, true_imp_iff]
      try exact fun _ _ _ _ => by simp
    intro q hq
    simp only [push_cast, ↓branch_true, ↓branch_false, Nat.reduceBEq, Nat.reduceAdd, Nat.reduceMul, Nat.reduceSub, Int.reduceToNat, reduceCtorEq, branch_decide, branch_not, branch_beq, branch_bne, Int.reduceAdd, Int.reduceEq, Int.reduceLE, Int.reduceLT, Nat.reduceLT, Nat.reduceLeDiff, false_imp_iff, true_imp_iff]
    refine ⟨fun h3 => ?_, fun h3 => ?_⟩
    · have hq2 : q < M := by omega
      repeat (with_reducible refine And.intro (by omega) ?_)
      have hst := upto_step (woE E lf rt k) q
      cases hE : E k q with
      | false =>
        have hw : woE E lf rt k q = false := by simp [woE, hE]
        simp only [push_cast, ↓branch_true, ↓branch_false, Nat.reduceBEq, Nat.reduceAdd, Nat.reduceMul, Nat.reduceSub, Int.reduceToNat, reduceCtorEq, branch_decide, branch_not, branch_beq, branch_bne, Int.reduceAdd, Int.reduceEq, Int.reduceLE, Int.reduceLT, Nat.reduceLT, Nat.reduceLeDiff, false_imp_iff, true_imp_iff]
        repeat (with_reducible refine And.intro (by omega) ?_)
        refine lpK_normal (q + 1) [0, 1, 2, 3, 4] (by omega) (by omega) (by kernel_rfl) ?_ ?_
        · simp only [push_cast, ↓branch_true, ↓branch_false, Nat.reduceBEq, Nat.reduceAdd, Nat.reduceMul, Nat.reduceSub, Int.reduceToNat, reduceCtorEq, branch_decide, branch_not, branch_beq, branch_bne, Int.reduceAdd, Int.reduceEq, Int.reduceLE, Int.reduceLT, Nat.reduceLT, Nat.reduceLeDiff, false_imp_iff, true_imp_iff]
        · simp only [push_cast, ↓branch_true, ↓branch_false, Nat.reduceBEq, Nat.reduceAdd, Nat.reduceMul, Nat.reduceSub, Int.reduceToNat, reduceCtorEq, branch_decide, branch_not, branch_beq, branch_bne, Int.reduceAdd, Int.reduceEq, Int.reduceLE, Int.reduceLT, Nat.reduceLT, Nat.reduceLeDiff, false_imp_iff, true_imp_iff, hst, hw]
          exact fun _ hi _ _ => upB hi
      | true =>
        simp only [push_cast, ↓branch_true, ↓branch_false, Nat.reduceBEq, Nat.reduceAdd, Nat.reduceMul, Nat.reduceSub, Int.reduceToNat, reduceCtorEq, branch_decide, branch_not, branch_beq, branch_bne, Int.reduceAdd, Int.reduceEq, Int.reduceLE, Int.reduceLT, Nat.reduceLT, Nat.reduceLeDiff, false_imp_iff, true_imp_iff]
        refine ⟨fun h4 => ?_, fun h4 => ?_⟩
        · have hw : woE E lf rt k q = false := by simp [woE, hE, h4]
          repeat (with_reducible refine And.intro (by omega) ?_)
          refine lpK_normal (q + 1) [0, 1, 2, 3, 4] (by omega) (by omega) (by kernel_rfl) ?_ ?_
          · simp only [push_cast, ↓branch_true, ↓branch_false, Nat.reduceBEq, Nat.reduceAdd, Nat.reduceMul, Nat.reduceSub, Int.reduceToNat, reduceCtorEq, branch_decide, branch_not, branch_beq, branch_bne, Int.reduceAdd, Int.reduceEq, Int.reduceLE, Int.reduceLT, Nat.reduceLT, Nat.reduceLeDiff, false_imp_iff, true_imp_iff]
          · simp only [push_cast, ↓branch_true, ↓branch_false, Nat.reduceBEq, Nat.reduceAdd, Nat.reduceMul, Nat.reduceSub, Int.reduceToNat, reduceCtorEq, branch_decide, branch_not, branch_beq, branch_bne, Int.reduceAdd, Int.reduceEq, Int.reduceLE, Int.reduceLT, Nat.reduceLT, Nat.reduceLeDiff, false_imp_iff, true_imp_iff, hst, hw]
            exact fun _ hi _ _ => upB hi
        · have hw : woE E lf rt k q = !decide ((q : Int) = rt) := by simp [woE, hE, h4]
          repeat (with_reducible refine And.intro (by omega) ?_)
          refine lpK_normal (q + 1) [0, 1, 2, 3, 4] (by omega) (by omega) (by kernel_rfl) ?_ ?_
          · simp only [push_cast, ↓branch_true, ↓branch_false, Nat.reduceBEq, Nat.reduceAdd, Nat.reduceMul, Nat.reduceSub, Int.reduceToNat, reduceCtorEq, branch_decide, branch_not, branch_beq, branch_bne, Int.reduceAdd, Int.reduceEq, Int.reduceLE, Int.reduceLT, Nat.reduceLT, Nat.reduceLeDiff, false_imp_iff, true_imp_iff]
          · simp only [push_cast, ↓branch_true, ↓branch_false, Nat.reduceBEq, Nat.reduceAdd, Nat.reduceMul, Nat.reduceSub, Int.reduceToNat, reduceCtorEq, branch_decide, branch_not, branch_beq, branch_bne, Int.reduceAdd, Int.reduceEq, Int.reduceLE, Int.reduceLT, Nat.reduceLT, Nat.reduceLeDiff, false_imp_iff, true_imp_iff, hst, hw]
            exact fun _ hi _ _ => upB hi
    · obtain rfl : q = M := by omega
      repeat (with_reducible refine And.intro (by omega) ?_)
      refine Or.inr ⟨by omega, by omega, fun cap hcap => ?_⟩
      repeat (with_reducible refine And.intro (by omega) ?_)
      refine lpK_wk (k + 1, cap) ⟨by simp only; omega, hcap⟩ (by simp only; omega) ((swk_join 3 4 (by omega) (by omega) ?_).trans (Mt.wk (rl := [0, 1, 6, 3]) ⟨by kernel_rfl, ?_, ?_⟩))
      · simp only [push_cast, ↓branch_true, ↓branch_false, Nat.reduceBEq, Nat.reduceAdd, Nat.reduceMul, Nat.reduceSub, Int.reduceToNat, reduceCtorEq, branch_decide, branch_not, branch_beq, branch_bne, Int.reduceAdd, Int.reduceEq, Int.reduceLE, Int.reduceLT, Nat.reduceLT, Nat.reduceLeDiff, false_imp_iff, true_imp_iff]
        try trivial
      · simp only [push_cast, ↓branch_true, ↓branch_false, Nat.reduceBEq, Nat.reduceAdd, Nat.reduceMul, Nat.reduceSub, Int.reduceToNat, reduceCtorEq, branch_decide, branch_not, branch_beq, branch_bne, Int.reduceAdd, Int.reduceEq, Int.reduceLE, Int.reduceLT, Nat.reduceLT, Nat.reduceLeDiff, false_imp_iff, true_imp_iff]
        try trivial
      · simp only [push_cast, ↓branch_true, ↓branch_false, Nat.reduceBEq, Nat.reduceAdd, Nat.reduceMul, Nat.reduceSub, Int.reduceToNat, reduceCtorEq, branch_decide, branch_not, branch_beq, branch_bne, Int.reduceAdd, Int.reduceEq, Int.reduceLE, Int.reduceLT, Nat.reduceLT, Nat.reduceLeDiff, false_imp_iff, true_imp_iff]
        refine ⟨fun _ _ j hj => ?_, fun i hi => ⟨by cases (i == k) <;> simp, by cases (i == k) <;> simp, fun j hj => ?_⟩⟩
        · by_cases e : j < k
          · simp only [e, decide_true, cond_true]
            simp only [push_cast, ↓branch_true, ↓branch_false, Nat.reduceBEq, Nat.reduceAdd, Nat.reduceMul, Nat.reduceSub, Int.reduceToNat, reduceCtorEq, branch_decide, branch_not, branch_beq, branch_bne, Int.reduceAdd, Int.reduceEq, Int.reduceLE, Int.reduceLT, Nat.reduceLT, Nat.reduceLeDiff, false_imp_iff, true_imp_iff]
            try trivial
          · obtain rfl : j = k := by omega
            simp only [e, decide_false, cond_false]
            simp only [push_cast, ↓branch_true, ↓branch_false, Nat.reduceBEq, Nat.reduceAdd, Nat.reduceMul, Nat.reduceSub, Int.reduceToNat, reduceCtorEq, branch_decide, branch_not, branch_beq, branch_bne, Int.reduceAdd, Int.reduceEq, Int.reduceLE, Int.reduceLT, Nat.reduceLT, Nat.reduceLeDiff, false_imp_iff, true_imp_iff]
            try trivial
        · cases e : i == k with
          | true =>
            obtain rfl : i = k := by simpa using e
            simp only [cond_true, hj, decide_true, Bool.true_and]
            simp only [push_cast, ↓branch_true, ↓branch_false, Nat.reduceBEq, Nat.reduceAdd, Nat.reduceMul, Nat.reduceSub, Int.reduceToNat, reduceCtorEq, branch_decide, branch_not, branch_beq, branch_bne, Int.reduceAdd, Int.reduceEq, Int.reduceLE, Int.reduceLT, Nat.reduceLT, Nat.reduceLeDiff, false_imp_iff, true_imp_iff]
            try trivial
          | false =>
            simp only [cond_false]
            simp only [push_cast, ↓branch_true, ↓branch_false, Nat.reduceBEq, Nat.reduceAdd, Nat.reduceMul, Nat.reduceSub, Int.reduceToNat, reduceCtorEq, branch_decide, branch_not, branch_beq, branch_bne, Int.reduceAdd, Int.reduceEq, Int.reduceLE, Int.reduceLT, Nat.reduceLT, Nat.reduceLeDiff, false_imp_iff, true_imp_iff]
            try trivial
  · obtain rfl : k = N := by omega
    refine ⟨_, _, [0, 1, 2, 3], ?_, by kernel_rfl, ?_, oc, h2, rfl, rfl⟩
    · simp only [push_cast, ↓branch_true, ↓branch_false, Nat.reduceBEq, Nat.reduceAdd, Nat.reduceMul, Nat.reduceSub, Int.reduceToNat, reduceCtorEq, branch_decide, branch_not, branch_beq, branch_bne, Int.reduceAdd, Int.reduceEq, Int.reduceLE, Int.reduceLT, Nat.reduceLT, Nat.reduceLeDiff, false_imp_iff, true_imp_iff]
    · simp only [push_cast, ↓branch_true, ↓branch_false, Nat.reduceBEq, Nat.reduceAdd, Nat.reduceMul, Nat.reduceSub, Int.reduceToNat, reduceCtorEq, branch_decide, branch_not, branch_beq, branch_bne, Int.reduceAdd, Int.reduceEq, Int.reduceLE, Int.reduceLT, Nat.reduceLT, Nat.reduceLeDiff, false_imp_iff, true_imp_iff]
end Go.Proofs.Ytmmabnoemckdiaa
