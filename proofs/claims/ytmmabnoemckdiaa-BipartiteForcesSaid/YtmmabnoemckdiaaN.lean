/- Contract: the reference's Table. -/
import Derived.Test.YtmmabnoemckdiaaM
set_option maxRecDepth 100000
set_option linter.unusedSimpArgs false
set_option linter.unusedVariables false
namespace Go.Proofs.Ytmmabnoemckdiaa
open Go.RowKit Bip
def tabK (l : List Ed) (k i j : Nat) : Bool := tab (l.take k) i j
theorem tabK_succ {l : List Ed} {k : Nat} (hk : k < l.length) (i j : Nat) : tabK l (k + 1) i j = bif i == (ix l k).x.toNat && j == (ix l k).y.toNat then true else tabK l k i j := by
  unfold tabK tab
  rw [take_snoc hk, List.any_append]
  simp only [List.any_cons, List.any_nil, Bool.or_false]
  rw [show ((ix l k).x.toNat == i) = (i == (ix l k).x.toNat) from Bool.beq_comm, show ((ix l k).y.toNat == j) = (j == (ix l k).y.toNat) from Bool.beq_comm]
  cases (i == (ix l k).x.toNat && j == (ix l k).y.toNat) <;> simp
set_option maxHeartbeats 4000000 in
theorem table_sp (l : List Ed) (N M c : Nat) (hN : N ≤ 60) (hM : M ≤ 60) (hl2 : l.length ≤ 1000) (hve : ∀ e ∈ l, inE N M e = true) : Sp Try.prog 55 [.v (.int .i64 N), .v (.int .i64 M), .s 0 0 0 l.length c 2] [rEd l]
    (fun r H => ∃ oc, N ≤ oc ∧ r = .s 1 0 0 N oc 1 ∧ H = [rEd l, oTo 2 N M oc, oTg N M (tab l)]) := by
  refine sp_weak ?_
  refine sp_of_ex true [(9, .jn (.one 0 (.one 1 (.one 2 (.one 3 (.one 4 (.one 8 (.one 9 (.one 10 (.one 11 (.alt [(5, .one 6 (.alt [(7, .one 12 (.one 13 (.one 14 .fin))), (12, .one 7 (.one 13 (.one 14 .fin)))])), (12, .one 5 (.one 6 (.one 7 (.one 13 (.one 14 .fin)))))])))))))))))] mixed Try.call55 Try.func55 rfl Try.ntmps55 Try.results55 (by decide +kernel) rfl ?_
  simp only [push_cast, ↓branch_true, ↓branch_false, Nat.reduceBEq, Nat.reduceAdd, Nat.reduceMul, Nat.reduceSub, Int.reduceToNat, reduceCtorEq, branch_decide, branch_not, branch_beq, branch_bne, Int.reduceAdd, Int.reduceEq, Int.reduceLE, Int.reduceLT, Nat.reduceLT, Nat.reduceLeDiff, false_imp_iff, true_imp_iff]
  refine tr_loop mixed (by kernel_rfl) (fun (x : Nat × Nat) => [(8, .v (.int .i64 x.1)), (7, .s 1 0 0 x.1 x.2 1), (0, .v (.int .i64 N)), (1, .v (.int .i64 M)), (2, .s 0 0 0 l.length c 2)])
    (fun x => [rEd l, oTo 2 x.1 M x.2, oTg x.1 M (fun _ _ => false)]) (fun x => x.1 ≤ N ∧ x.1 ≤ x.2) (fun x => N - x.1) (0, 0) ⟨Nat.zero_le _, Nat.le_refl _⟩ (Mt.wk (rl := [0, 1000, 1001]) ⟨by kernel_rfl, ?_, ?_⟩) ?_
  · simp only [push_cast, ↓branch_true, ↓branch_false, Nat.reduceBEq, Nat.reduceAdd, Nat.reduceMul, Nat.reduceSub, Int.reduceToNat, reduceCtorEq, branch_decide, branch_not, branch_beq, branch_bne, Int.reduceAdd, Int.reduceEq, Int.reduceLE, Int.reduceLT, Nat.reduceLT, Nat.reduceLeDiff, false_imp_iff, true_imp_iff]
    try exact rfl
  · simp only [push_cast, ↓branch_true, ↓branch_false, Nat.reduceBEq, Nat.reduceAdd, Nat.reduceMul, Nat.reduceSub, Int.reduceToNat, reduceCtorEq, branch_decide, branch_not, branch_beq, branch_bne, Int.reduceAdd, Int.reduceEq, Int.reduceLE, Int.reduceLT, Nat.reduceLT, Nat.reduceLeDiff, false_imp_iff, true_imp_iff]
    try omega
  rintro ⟨k, oc⟩ ⟨h1, h2⟩
  simp only at h1 h2
  simp only [push_cast, ↓branch_true, ↓branch_false, Nat.reduceBEq, Nat.reduceAdd, Nat.reduceMul, Nat.reduceSub, Int.reduceToNat, reduceCtorEq, branch_decide, branch_not, branch_beq, branch_bne, Int.reduceAdd, Int.reduceEq, Int.reduceLE, Int.reduceLT, Nat.reduceLT, Nat.reduceLeDiff, false_imp_iff, true_imp_iff]
  refine ⟨fun h0 => ?_, fun h0 => ?_⟩
  · have hk : k < N := by omega
    repeat (with_reducible refine And.intro (by omega) ?_)
    refine Or.inr ⟨by omega, by omega, fun cap hcap => ?_⟩
    repeat (with_reducible refine And.intro (by omega) ?_)
    refine lpK_wk (k + 1, cap) ⟨by simp only; omega, hcap⟩ (by simp only; omega) ((swk_join 2 3 (by omega) (by omega) ?_).trans (Mt.wk (rl := [0, 5, 2]) ⟨by kernel_rfl, ?_, ?_⟩))
    · simp only [push_cast, ↓branch_true, ↓branch_false, Nat.reduceBEq, Nat.reduceAdd, Nat.reduceMul, Nat.reduceSub, Int.reduceToNat, reduceCtorEq, branch_decide, branch_not, branch_beq, branch_bne, Int.reduceAdd, Int.reduceEq, Int.reduceLE, Int.reduceLT, Nat.reduceLT, Nat.reduceLeDiff, false_imp_iff, true_imp_iff]
      try trivial
    · simp only [push_cast, ↓branch_true, ↓branch_false, Nat.reduceBEq, Nat.reduceAdd, Nat.reduceMul, Nat.reduceSub, Int.reduceToNat, reduceCtorEq, branch_decide, branch_not, branch_beq, branch_bne, Int.reduceAdd, Int.reduceEq, Int.reduceLE, Int.reduceLT, Nat.reduceLT, Nat.reduceLeDiff, false_imp_iff, true_imp_iff]
      try trivial
    · simp only [push_cast, ↓branch_true, ↓branch_false, Nat.reduceBEq, Nat.reduceAdd, Nat.reduceMul, Nat.reduceSub, Int.reduceToNat, reduceCtorEq, branch_decide, branch_not, branch_beq, branch_bne, Int.reduceAdd, Int.reduceEq, Int.reduceLE, Int.reduceLT, Nat.reduceLT, Nat.reduceLeDiff, false_imp_iff, true_imp_iff]
      refine ⟨fun _ _ j hj => ?_, fun i hi => ⟨by cases (i == k) <;> simp, by cases (i == k) <;> simp, fun j hj => ?_⟩⟩
      · by_cases e : j < k
        · simp only [e, decide_true, cond_true]
          simp only [push_cast, ↓branch_true, ↓branch_false, Nat.reduceBEq, Nat.reduceAdd, Nat.reduceMul, Nat.reduceSub, Int.reduceToNat, reduceCtorEq, branch_decide, branch_not, branch_beq, branch_bne, Int.reduceAdd, Int.reduceEq, Int.reduceLE, Int.reduceLT, Nat.reduceLT, Nat.reduceLeDiff, false_imp_iff, true_imp_iff]
          try trivial
        · obtain rfl : j = k := by omega
          simp only [e, decide_false, cond_false]
          simp only [push_cast, ↓branch_true, ↓branch_false, Nat.reduceBEq, Nat.reduceAdd, Nat.reduceMul, Nat.reduceSub, Int.reduceToNat, reduceCtorEq, branch_decide, branch_not, branch_beq, branch_bne, Int.reduceAdd, Int.reduceEq, Int.reduceLE, Int.reduceLT, Nat.reduceLT, Nat.reduceLeDiff, false_imp_iff, true_imp_iff]
          try trivial
      · cases e : i == k with
        | true =>
          simp only [cond_true]
          simp only [push_cast, ↓branch_true, ↓branch_false, Nat.reduceBEq, Nat.reduceAdd, Nat.reduceMul, Nat.reduceSub, Int.reduceToNat, reduceCtorEq, branch_decide, branch_not, branch_beq, branch_bne, Int.reduceAdd, Int.reduceEq, Int.reduceLE, Int.reduceLT, Nat.reduceLT, Nat.reduceLeDiff, false_imp_iff, true_imp_iff]
          try trivial
        | false =>
          simp only [cond_false]
          simp only [push_cast, ↓branch_true, ↓branch_false, Nat.reduceBEq, Nat.reduceAdd, Nat.reduceMul, Nat.reduceSub, Int.reduceToNat, reduceCtorEq, branch_decide, branch_not, branch_beq, branch_bne, Int.reduceAdd, Int.reduceEq, Int.reduceLE, Int.reduceLT, Nat.reduceLT, Nat.reduceLeDiff, false_imp_iff, true_imp_iff]
          try trivial
  · obtain rfl : k = N := by omega
    refine tr_loop mixed (by kernel_rfl) (fun (q : Nat) => [(9, .v (.int .i64 q)), (7, .s 1 0 0 k oc 1), (2, .s 0 0 0 l.length c 2)])
      (fun q => [rEd l, oTo 2 k M oc, oTg k M (tabK l q)]) (fun q => q ≤ l.length) (fun q => l.length - q) 0 (Nat.zero_le _) (Mt.wk (rl := [0, 1, 2]) ⟨by kernel_rfl, ?_, ?_⟩) ?_
    · simp only [push_cast, ↓branch_true, ↓branch_false, Nat.reduceBEq, Nat.reduceAdd, Nat.reduceMul, Nat.reduceSub, Int.reduceToNat, reduceCtorEq, branch_decide, branch_not, branch_beq, branch_bne, Int.reduceAdd, Int.reduceEq, Int.reduceLE, Int.reduceLT, Nat.reduceLT, Nat.reduceLeDiff, false_imp_iff, true_imp_iff]
      try trivial
    · simp only [push_cast, ↓branch_true, ↓branch_false, Nat.reduceBEq, Nat.reduceAdd, Nat.reduceMul, Nat.reduceSub, Int.reduceToNat, reduceCtorEq, branch_decide, branch_not, branch_beq, branch_bne, Int.reduceAdd, Int.reduceEq, Int.reduceLE, Int.reduceLT, Nat.reduceLT, Nat.reduceLeDiff, false_imp_iff, true_imp_iff]
      try exact fun _ _ _ _ => rfl
    intro q hq
    simp only [push_cast, ↓branch_true, ↓branch_false, Nat.reduceBEq, Nat.reduceAdd, Nat.reduceMul, Nat.reduceSub, Int.reduceToNat, reduceCtorEq, branch_decide, branch_not, branch_beq, branch_bne, Int.reduceAdd, Int.reduceEq, Int.reduceLE, Int.reduceLT, Nat.reduceLT, Nat.reduceLeDiff, false_imp_iff, true_imp_iff]
    refine ⟨fun h3 => ?_, fun h3 => ?_⟩
    · have hq2 : q < l.length := by omega
      have hx := hve _ (ix_mem hq2)
      simp only [inE, Bool.and_eq_true, decide_eq_true_eq] at hx
      have hst := tabK_succ hq2
      refine ⟨[(9, .v (.int .i64 q)), (7, .s 1 0 0 k oc 1), (2, .s 0 0 0 l.length c 2)], [rEd l, oTo 2 k M oc, oTg k M (tabK l (q + 1))], ?_, ?_⟩
      · repeat' (first | (with_reducible apply And.intro) | omega | (with_reducible intro _))
        all_goals first
          | omega
          | (refine Mt.wk (rl := [0, 1, 2]) ⟨by kernel_rfl, ?_, ?_⟩
             · simp only [push_cast, ↓branch_true, ↓branch_false, Nat.reduceBEq, Nat.reduceAdd, Nat.reduceMul, Nat.reduceSub, Int.reduceToNat, reduceCtorEq, branch_decide, branch_not, branch_beq, branch_bne, Int.reduceAdd, Int.reduceEq, Int.reduceLE, Int.reduceLT, Nat.reduceLT, Nat.reduceLeDiff, false_imp_iff, true_imp_iff]
               try trivial
             · simp only [push_cast, ↓branch_true, ↓branch_false, Nat.reduceBEq, Nat.reduceAdd, Nat.reduceMul, Nat.reduceSub, Int.reduceToNat, reduceCtorEq, branch_decide, branch_not, branch_beq, branch_bne, Int.reduceAdd, Int.reduceEq, Int.reduceLE, Int.reduceLT, Nat.reduceLT, Nat.reduceLeDiff, false_imp_iff, true_imp_iff, hst]
               intro i hi j hj
               cases i == (ix l q).x.toNat && j == (ix l q).y.toNat <;> first | trivial | exact ⟨rfl, trivial⟩ | exact ⟨trivial, trivial⟩ | simp
             )
      simp only [push_cast, ↓branch_true, ↓branch_false, Nat.reduceBEq, Nat.reduceAdd, Nat.reduceMul, Nat.reduceSub, Int.reduceToNat, reduceCtorEq, branch_decide, branch_not, branch_beq, branch_bne, Int.reduceAdd, Int.reduceEq, Int.reduceLE, Int.reduceLT, Nat.reduceLT, Nat.reduceLeDiff, false_imp_iff, true_imp_iff, jnK]
      repeat (with_reducible refine And.intro (by omega) ?_)
      refine lpK_normal (q + 1) [0, 1, 2] (by omega) (by omega) (by kernel_rfl) ?_ ?_
      · simp only [push_cast, ↓branch_true, ↓branch_false, Nat.reduceBEq, Nat.reduceAdd, Nat.reduceMul, Nat.reduceSub, Int.reduceToNat, reduceCtorEq, branch_decide, branch_not, branch_beq, branch_bne, Int.reduceAdd, Int.reduceEq, Int.reduceLE, Int.reduceLT, Nat.reduceLT, Nat.reduceLeDiff, false_imp_iff, true_imp_iff]
      · simp only [push_cast, ↓branch_true, ↓branch_false, Nat.reduceBEq, Nat.reduceAdd, Nat.reduceMul, Nat.reduceSub, Int.reduceToNat, reduceCtorEq, branch_decide, branch_not, branch_beq, branch_bne, Int.reduceAdd, Int.reduceEq, Int.reduceLE, Int.reduceLT, Nat.reduceLT, Nat.reduceLeDiff, false_imp_iff, true_imp_iff]
    · obtain rfl : q = l.length := by omega
      have hta : ∀ i j, tabK l l.length i j = tab l i j := fun i j => by rw [tabK, List.take_length]
      refine ⟨_, _, [0, 1, 2], ?_, by kernel_rfl, ?_, oc, h2, rfl, rfl⟩
      · simp only [push_cast, ↓branch_true, ↓branch_false, Nat.reduceBEq, Nat.reduceAdd, Nat.reduceMul, Nat.reduceSub, Int.reduceToNat, reduceCtorEq, branch_decide, branch_not, branch_beq, branch_bne, Int.reduceAdd, Int.reduceEq, Int.reduceLE, Int.reduceLT, Nat.reduceLT, Nat.reduceLeDiff, false_imp_iff, true_imp_iff]
      · simp only [push_cast, ↓branch_true, ↓branch_false, Nat.reduceBEq, Nat.reduceAdd, Nat.reduceMul, Nat.reduceSub, Int.reduceToNat, reduceCtorEq, branch_decide, branch_not, branch_beq, branch_bne, Int.reduceAdd, Int.reduceEq, Int.reduceLE, Int.reduceLT, Nat.reduceLT, Nat.reduceLeDiff, false_imp_iff, true_imp_iff, hta]
end Go.Proofs.Ytmmabnoemckdiaa
