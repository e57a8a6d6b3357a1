/- Contract: the reference's Open. -/
import Derived.Test.YtmmabnoemckdiaaO
set_option maxRecDepth 100000
set_option linter.unusedSimpArgs false
set_option linter.unusedVariables false
namespace Go.Proofs.Ytmmabnoemckdiaa
open Go.RowKit Bip
theorem wo_del (T : Nat → Nat → Bool) (i : Nat) : woE T (i : Int) (-1) = delL T i := by
  funext a b
  unfold woE delL
  have h1 : decide ((b : Int) = -1) = false := by simp
  rw [h1]
  by_cases e : a = i
  · subst e
    simp
  · have h2 : decide ((a : Int) = (i : Int)) = false := by simp; omega
    rw [h2]
    simp [e]
theorem opn_eq {N M i : Nat} {T : Nat → Nat → Bool} : opn N M T i = decide (nuT N M (delL T i) = nuT N M T) := by
  have h : nuT N M (delL T i) ≤ nuT N M T := nuT_sub fun a b _ _ h => by
    unfold delL at h
    simp only [Bool.and_eq_true] at h
    first | exact h.1 | exact h.2
  unfold opn
  rw [← decide_not, decide_eq_decide]
  omega
def openL (N M : Nat) (T : Nat → Nat → Bool) (k : Nat) : List Int := ((List.range k).filter (opn N M T)).map fun (i : Nat) => (i : Int)
theorem openL_yes {N M k : Nat} {T : Nat → Nat → Bool} (h : opn N M T k = true) : openL N M T (k + 1) = openL N M T k ++ [(k : Int)] := by
  unfold openL
  rw [List.range_succ, List.filter_append]
  simp [h]
theorem openL_no {N M k : Nat} {T : Nat → Nat → Bool} (h : opn N M T k = false) : openL N M T (k + 1) = openL N M T k := by
  unfold openL
  rw [List.range_succ, List.filter_append]
  simp [h]
theorem openL_len (N M k : Nat) (T : Nat → Nat → Bool) : (openL N M T k).length ≤ k := by
  unfold openL
  rw [List.length_map]
  exact Nat.le_trans (List.length_filter_le _ _) (by simp)
set_option maxHeartbeats 4000000 in
theorem ropen_sp (l : List Ed) (N M c : Nat) (hN : N ≤ 60) (hM : M ≤ 60) (hl2 : l.length ≤ 1000) (hve : ∀ e ∈ l, inE N M e = true) : Sp Try.prog 38 [.v (.int .i64 N), .v (.int .i64 M), .s 0 0 0 l.length c 2] [rEd l]
    (fun r H => ∃ cap, (openL N M (tab l) N).length ≤ cap ∧ r = .s 1 0 0 (openL N M (tab l) N).length cap 1 ∧ H = [rEd l, rIO (openL N M (tab l) N) cap]) := by
  refine sp_weak ?_
  refine sp_of_ex true [] mixed Try.call38 Try.func38 rfl Try.ntmps38 Try.results38 (by decide +kernel) rfl ?_
  simp only [push_cast, ↓branch_true, ↓branch_false, Nat.reduceBEq, Nat.reduceAdd, Nat.reduceMul, Nat.reduceSub, Int.reduceToNat, reduceCtorEq, branch_decide, branch_not, branch_beq, branch_bne, Int.reduceAdd, Int.reduceEq, Int.reduceLE, Int.reduceLT, Nat.reduceLT, Nat.reduceLeDiff, false_imp_iff, true_imp_iff]
  refine sp_at (table_sp l N M c hN hM hl2 hve) [0] rfl ?_ ?_ ?_
  · simp only [push_cast, ↓branch_true, ↓branch_false, Nat.reduceBEq, Nat.reduceAdd, Nat.reduceMul, Nat.reduceSub, Int.reduceToNat, reduceCtorEq, branch_decide, branch_not, branch_beq, branch_bne, Int.reduceAdd, Int.reduceEq, Int.reduceLE, Int.reduceLT, Nat.reduceLT, Nat.reduceLeDiff, false_imp_iff, true_imp_iff]
    try trivial
  · simp only [push_cast, ↓branch_true, ↓branch_false, Nat.reduceBEq, Nat.reduceAdd, Nat.reduceMul, Nat.reduceSub, Int.reduceToNat, reduceCtorEq, branch_decide, branch_not, branch_beq, branch_bne, Int.reduceAdd, Int.reduceEq, Int.reduceLE, Int.reduceLT, Nat.reduceLT, Nat.reduceLeDiff, false_imp_iff, true_imp_iff]
    try trivial
  rintro _ _ ⟨oc, hoc, rfl, rfl⟩
  simp only [push_cast, ↓branch_true, ↓branch_false, Nat.reduceBEq, Nat.reduceAdd, Nat.reduceMul, Nat.reduceSub, Int.reduceToNat, reduceCtorEq, branch_decide, branch_not, branch_beq, branch_bne, Int.reduceAdd, Int.reduceEq, Int.reduceLE, Int.reduceLT, Nat.reduceLT, Nat.reduceLeDiff, false_imp_iff, true_imp_iff]
  repeat (with_reducible refine And.intro (by omega) ?_)
  refine sp_call (rsize_pu (tab l) oc (fun _ => M) (by omega : N ≤ 1000000) (by omega : M ≤ 1000000)) rfl [1, 2] rfl ?_ ?_ ?_
  · simp only [push_cast, ↓branch_true, ↓branch_false, Nat.reduceBEq, Nat.reduceAdd, Nat.reduceMul, Nat.reduceSub, Int.reduceToNat, reduceCtorEq, branch_decide, branch_not, branch_beq, branch_bne, Int.reduceAdd, Int.reduceEq, Int.reduceLE, Int.reduceLT, Nat.reduceLT, Nat.reduceLeDiff, false_imp_iff, true_imp_iff]
    try trivial
  · simp only [push_cast, ↓branch_true, ↓branch_false, Nat.reduceBEq, Nat.reduceAdd, Nat.reduceMul, Nat.reduceSub, Int.reduceToNat, reduceCtorEq, branch_decide, branch_not, branch_beq, branch_bne, Int.reduceAdd, Int.reduceEq, Int.reduceLE, Int.reduceLT, Nat.reduceLT, Nat.reduceLeDiff, false_imp_iff, true_imp_iff]
    try trivial
  have hnu := nuT_le_left N M (tab l)
  simp only [push_cast, ↓branch_true, ↓branch_false, Nat.reduceBEq, Nat.reduceAdd, Nat.reduceMul, Nat.reduceSub, Int.reduceToNat, reduceCtorEq, branch_decide, branch_not, branch_beq, branch_bne, Int.reduceAdd, Int.reduceEq, Int.reduceLE, Int.reduceLT, Nat.reduceLT, Nat.reduceLeDiff, false_imp_iff, true_imp_iff]
  refine tr_loop mixed (by kernel_rfl) (fun (x : Nat × Nat) => [(10, .v (.int .i64 x.1)), (9, .s 3 0 0 (openL N M (tab l) x.1).length x.2 1), (8, .v (.int .i64 (nuT N M (tab l) : Nat))), (7, .s 1 0 0 N oc 1), (0, .v (.int .i64 N)), (1, .v (.int .i64 M))])
    (fun x => [rEd l, oTb 2 N M (fun _ => M), oTf N M (tab l), rIO (openL N M (tab l) x.1) x.2])
    (fun x => x.1 ≤ N ∧ (openL N M (tab l) x.1).length ≤ x.2) (fun x => N - x.1) (0, 0) ⟨Nat.zero_le _, Nat.le_refl _⟩ (Mt.wk (rl := [0, 1, 2, 1000]) ⟨by kernel_rfl, ?_, ?_⟩) ?_
  · simp only [push_cast, ↓branch_true, ↓branch_false, Nat.reduceBEq, Nat.reduceAdd, Nat.reduceMul, Nat.reduceSub, Int.reduceToNat, reduceCtorEq, branch_decide, branch_not, branch_beq, branch_bne, Int.reduceAdd, Int.reduceEq, Int.reduceLE, Int.reduceLT, Nat.reduceLT, Nat.reduceLeDiff, false_imp_iff, true_imp_iff]
    try trivial
  · simp only [push_cast, ↓branch_true, ↓branch_false, Nat.reduceBEq, Nat.reduceAdd, Nat.reduceMul, Nat.reduceSub, Int.reduceToNat, reduceCtorEq, branch_decide, branch_not, branch_beq, branch_bne, Int.reduceAdd, Int.reduceEq, Int.reduceLE, Int.reduceLT, Nat.reduceLT, Nat.reduceLeDiff, false_imp_iff, true_imp_iff]
    try exact Or.inl rfl
  rintro ⟨i, oc2⟩ ⟨g1, g2⟩
  simp only at g1 g2
  have hlen := openL_len N M i (tab l)
  simp only [push_cast, ↓branch_true, ↓branch_false, Nat.reduceBEq, Nat.reduceAdd, Nat.reduceMul, Nat.reduceSub, Int.reduceToNat, reduceCtorEq, branch_decide, branch_not, branch_beq, branch_bne, Int.reduceAdd, Int.reduceEq, Int.reduceLE, Int.reduceLT, Nat.reduceLT, Nat.reduceLeDiff, false_imp_iff, true_imp_iff]
  refine ⟨fun h0 => ?_, fun h0 => ?_⟩
  · have hi : i < N := by omega
    repeat (with_reducible refine And.intro (by omega) ?_)
    refine sp_at (without_sp (N := N) (M := M) (tab l) oc (fun _ => M) i (-1) (by omega) (by omega)) [1, 2] rfl ?_ ?_ ?_
    · simp only [push_cast, ↓branch_true, ↓branch_false, Nat.reduceBEq, Nat.reduceAdd, Nat.reduceMul, Nat.reduceSub, Int.reduceToNat, reduceCtorEq, branch_decide, branch_not, branch_beq, branch_bne, Int.reduceAdd, Int.reduceEq, Int.reduceLE, Int.reduceLT, Nat.reduceLT, Nat.reduceLeDiff, false_imp_iff, true_imp_iff]
      try trivial
    · simp only [push_cast, ↓branch_true, ↓branch_false, Nat.reduceBEq, Nat.reduceAdd, Nat.reduceMul, Nat.reduceSub, Int.reduceToNat, reduceCtorEq, branch_decide, branch_not, branch_beq, branch_bne, Int.reduceAdd, Int.reduceEq, Int.reduceLE, Int.reduceLT, Nat.reduceLT, Nat.reduceLeDiff, false_imp_iff, true_imp_iff]
      try trivial
    rintro _ _ ⟨oc3, hoc3, rfl, rfl⟩
    rw [wo_del]
    simp only [push_cast, ↓branch_true, ↓branch_false, Nat.reduceBEq, Nat.reduceAdd, Nat.reduceMul, Nat.reduceSub, Int.reduceToNat, reduceCtorEq, branch_decide, branch_not, branch_beq, branch_bne, Int.reduceAdd, Int.reduceEq, Int.reduceLE, Int.reduceLT, Nat.reduceLT, Nat.reduceLeDiff, false_imp_iff, true_imp_iff]
    repeat (with_reducible refine And.intro (by omega) ?_)
    refine sp_call (rsize_pu (delL (tab l) i) oc3 (fun _ => M) (by omega : N ≤ 1000000) (by omega : M ≤ 1000000)) rfl [4, 5] rfl ?_ ?_ ?_
    · simp only [push_cast, ↓branch_true, ↓branch_false, Nat.reduceBEq, Nat.reduceAdd, Nat.reduceMul, Nat.reduceSub, Int.reduceToNat, reduceCtorEq, branch_decide, branch_not, branch_beq, branch_bne, Int.reduceAdd, Int.reduceEq, Int.reduceLE, Int.reduceLT, Nat.reduceLT, Nat.reduceLeDiff, false_imp_iff, true_imp_iff]
      try trivial
    · simp only [push_cast, ↓branch_true, ↓branch_false, Nat.reduceBEq, Nat.reduceAdd, Nat.reduceMul, Nat.reduceSub, Int.reduceToNat, reduceCtorEq, branch_decide, branch_not, branch_beq, branch_bne, Int.reduceAdd, Int.reduceEq, Int.reduceLE, Int.reduceLT, Nat.reduceLT, Nat.reduceLeDiff, false_imp_iff, true_imp_iff]
      try trivial
    have hnu2 := nuT_le_left N M (delL (tab l) i)
    have ho : opn N M (tab l) i = decide (nuT N M (delL (tab l) i) = nuT N M (tab l)) := opn_eq
    simp only [push_cast, ↓branch_true, ↓branch_false, Nat.reduceBEq, Nat.reduceAdd, Nat.reduceMul, Nat.reduceSub, Int.reduceToNat, reduceCtorEq, branch_decide, branch_not, branch_beq, branch_bne, Int.reduceAdd, Int.reduceEq, Int.reduceLE, Int.reduceLT, Nat.reduceLT, Nat.reduceLeDiff, false_imp_iff, true_imp_iff]
    refine ⟨fun h5 => ?_, fun h5 => ?_⟩
    · have hok : opn N M (tab l) i = true := by rw [ho]; exact decide_eq_true (by omega)
      have hy := openL_yes hok
      repeat (with_reducible refine And.intro (by omega) ?_)
      refine Or.inr ⟨by omega, by omega, fun cap hcap => ?_⟩
      repeat (with_reducible refine And.intro (by omega) ?_)
      refine lpK_normal (i + 1, cap) [0, 1, 2, 7] ⟨by simp only; omega, by simp only [hy, List.length_append, List.length_cons, List.length_nil]; omega⟩ (by simp only; omega) (by kernel_rfl) ?_ ?_
      · simp only [push_cast, ↓branch_true, ↓branch_false, Nat.reduceBEq, Nat.reduceAdd, Nat.reduceMul, Nat.reduceSub, Int.reduceToNat, reduceCtorEq, branch_decide, branch_not, branch_beq, branch_bne, Int.reduceAdd, Int.reduceEq, Int.reduceLE, Int.reduceLT, Nat.reduceLT, Nat.reduceLeDiff, false_imp_iff, true_imp_iff, hy, List.length_append]
        try trivial
      · simp only [push_cast, ↓branch_true, ↓branch_false, Nat.reduceBEq, Nat.reduceAdd, Nat.reduceMul, Nat.reduceSub, Int.reduceToNat, reduceCtorEq, branch_decide, branch_not, branch_beq, branch_bne, Int.reduceAdd, Int.reduceEq, Int.reduceLE, Int.reduceLT, Nat.reduceLT, Nat.reduceLeDiff, false_imp_iff, true_imp_iff, hy, List.length_append]
        exact fun _ _ q hq => app_end rfl hq
    · have hok : opn N M (tab l) i = false := by rw [ho]; exact decide_eq_false (by omega)
      have hy := openL_no hok
      repeat (with_reducible refine And.intro (by omega) ?_)
      refine lpK_normal (i + 1, oc2) [0, 1, 2, 3] ⟨by simp only; omega, by simp only [hy]; omega⟩ (by simp only; omega) (by kernel_rfl) ?_ ?_
      · simp only [push_cast, ↓branch_true, ↓branch_false, Nat.reduceBEq, Nat.reduceAdd, Nat.reduceMul, Nat.reduceSub, Int.reduceToNat, reduceCtorEq, branch_decide, branch_not, branch_beq, branch_bne, Int.reduceAdd, Int.reduceEq, Int.reduceLE, Int.reduceLT, Nat.reduceLT, Nat.reduceLeDiff, false_imp_iff, true_imp_iff, hy]
        try trivial
      · simp only [push_cast, ↓branch_true, ↓branch_false, Nat.reduceBEq, Nat.reduceAdd, Nat.reduceMul, Nat.reduceSub, Int.reduceToNat, reduceCtorEq, branch_decide, branch_not, branch_beq, branch_bne, Int.reduceAdd, Int.reduceEq, Int.reduceLE, Int.reduceLT, Nat.reduceLT, Nat.reduceLeDiff, false_imp_iff, true_imp_iff, hy]
        try trivial
  · obtain rfl : i = N := by omega
    refine ⟨_, _, [0, 3], ?_, by kernel_rfl, ?_, oc2, g2, rfl, rfl⟩
    · simp only [push_cast, ↓branch_true, ↓branch_false, Nat.reduceBEq, Nat.reduceAdd, Nat.reduceMul, Nat.reduceSub, Int.reduceToNat, reduceCtorEq, branch_decide, branch_not, branch_beq, branch_bne, Int.reduceAdd, Int.reduceEq, Int.reduceLE, Int.reduceLT, Nat.reduceLT, Nat.reduceLeDiff, false_imp_iff, true_imp_iff]
      try omega
    · simp only [push_cast, ↓branch_true, ↓branch_false, Nat.reduceBEq, Nat.reduceAdd, Nat.reduceMul, Nat.reduceSub, Int.reduceToNat, reduceCtorEq, branch_decide, branch_not, branch_beq, branch_bne, Int.reduceAdd, Int.reduceEq, Int.reduceLE, Int.reduceLT, Nat.reduceLT, Nat.reduceLeDiff, false_imp_iff, true_imp_iff]
      try exact fun _ _ => by omega
end Go.Proofs.Ytmmabnoemckdiaa
