/- Contract: the reference's Weights. -/
import Derived.Test.YtmmabnoemckdiaaS
set_option maxRecDepth 100000
set_option linter.unusedSimpArgs false
set_option linter.unusedVariables false
namespace Go.Proofs.Ytmmabnoemckdiaa
open Go.RowKit Bip
def fullK (W : List (List Int)) (k : Nat) : Bool := decide (W.length > 8) || (W.take k).any fun r => decide (r.length > 8)
theorem fullK_succ {W : List (List Int)} {k : Nat} (hk : k < W.length) : fullK W (k + 1) = (fullK W k || decide ((ix W k).length > 8)) := by
  unfold fullK
  rw [take_snoc hk, List.any_append, ← Bool.or_assoc]
  simp
def badW (r : List Int) : Bool := r.any fun x => decide (x < -1) || decide (x > 1073741824)
theorem wErr_4 {W : List (List Int)} (h : fullK W W.length = true) : wErr W = 4 := by
  unfold fullK at h
  rw [List.take_length, Bool.or_eq_true, decide_eq_true_eq] at h
  exact if_pos h
theorem wErr_n4 {W : List (List Int)} (h : fullK W W.length = false) : ¬ (W.length > 8 ∨ (W.any fun r => decide (r.length > 8)) = true) := by
  unfold fullK at h
  rw [List.take_length, Bool.or_eq_false_iff, decide_eq_false_iff_not] at h
  rw [h.2]
  simp
  have := h.1
  omega
set_option maxHeartbeats 4000000 in
theorem weights_pu (W : List (List Int)) (c : Nat) (cp : Nat → Nat) (hl : W.length ≤ 1000) (hr : ∀ i, (ix W i).length ≤ 1000) : Pu Try.prog 48 [.s 0 0 0 W.length c 1] [oNe 1 W.length (ix W) cp, oNf W.length (ix W)] (.v (.int .i64 (wErr W))) := by
  refine pu_of_ex true [] mixed Try.call48 Try.func48 rfl Try.ntmps48 Try.results48 (by decide +kernel) rfl rfl rfl ?_
  simp only [push_cast, ↓branch_true, ↓branch_false, Nat.reduceBEq, Nat.reduceAdd, Nat.reduceMul, Nat.reduceSub, Int.reduceToNat, reduceCtorEq, branch_decide, branch_not, branch_beq, branch_bne, Int.reduceAdd, Int.reduceEq, Int.reduceLE, Int.reduceLT, Nat.reduceLT, Nat.reduceLeDiff, false_imp_iff, true_imp_iff]
  refine tr_loop0 mixed (by kernel_rfl) (fun (k : Nat) => [(4, .v (.int .i64 k)), (3, .v (.bool (fullK W k))), (0, .s 0 0 0 W.length c 1)]) (fun k => k ≤ W.length) (fun k => W.length - k) 0 (Nat.zero_le _) ?_ ?_
  · simp only [push_cast, ↓branch_true, ↓branch_false, Nat.reduceBEq, Nat.reduceAdd, Nat.reduceMul, Nat.reduceSub, Int.reduceToNat, reduceCtorEq, branch_decide, branch_not, branch_beq, branch_bne, Int.reduceAdd, Int.reduceEq, Int.reduceLE, Int.reduceLT, Nat.reduceLT, Nat.reduceLeDiff, false_imp_iff, true_imp_iff]
    exact vb (by rw [Bool.eq_iff_iff]; simp [fullK]; omega)
  intro k hk
  simp only [push_cast, ↓branch_true, ↓branch_false, Nat.reduceBEq, Nat.reduceAdd, Nat.reduceMul, Nat.reduceSub, Int.reduceToNat, reduceCtorEq, branch_decide, branch_not, branch_beq, branch_bne, Int.reduceAdd, Int.reduceEq, Int.reduceLE, Int.reduceLT, Nat.reduceLT, Nat.reduceLeDiff, false_imp_iff, true_imp_iff]
  refine ⟨fun h1 => ?_, fun h1 => ?_⟩
  · have hkl : k < W.length := by omega
    have hfs := fullK_succ hkl
    repeat (with_reducible refine And.intro (by omega) ?_)
    cases hf : fullK W k with
    | true =>
      rw [hf, Bool.true_or] at hfs
      simp only [push_cast, ↓branch_true, ↓branch_false, Nat.reduceBEq, Nat.reduceAdd, Nat.reduceMul, Nat.reduceSub, Int.reduceToNat, reduceCtorEq, branch_decide, branch_not, branch_beq, branch_bne, Int.reduceAdd, Int.reduceEq, Int.reduceLE, Int.reduceLT, Nat.reduceLT, Nat.reduceLeDiff, false_imp_iff, true_imp_iff]
      repeat (with_reducible refine And.intro (by omega) ?_)
      refine lp0_normal (k + 1) (by omega) (by omega) ?_
      simp only [push_cast, ↓branch_true, ↓branch_false, Nat.reduceBEq, Nat.reduceAdd, Nat.reduceMul, Nat.reduceSub, Int.reduceToNat, reduceCtorEq, branch_decide, branch_not, branch_beq, branch_bne, Int.reduceAdd, Int.reduceEq, Int.reduceLE, Int.reduceLT, Nat.reduceLT, Nat.reduceLeDiff, false_imp_iff, true_imp_iff, hfs]
    | false =>
      rw [hf, Bool.false_or] at hfs
      simp only [push_cast, ↓branch_true, ↓branch_false, Nat.reduceBEq, Nat.reduceAdd, Nat.reduceMul, Nat.reduceSub, Int.reduceToNat, reduceCtorEq, branch_decide, branch_not, branch_beq, branch_bne, Int.reduceAdd, Int.reduceEq, Int.reduceLE, Int.reduceLT, Nat.reduceLT, Nat.reduceLeDiff, false_imp_iff, true_imp_iff]
      repeat (with_reducible refine And.intro (by omega) ?_)
      refine lp0_normal (k + 1) (by omega) (by omega) ?_
      simp only [push_cast, ↓branch_true, ↓branch_false, Nat.reduceBEq, Nat.reduceAdd, Nat.reduceMul, Nat.reduceSub, Int.reduceToNat, reduceCtorEq, branch_decide, branch_not, branch_beq, branch_bne, Int.reduceAdd, Int.reduceEq, Int.reduceLE, Int.reduceLT, Nat.reduceLT, Nat.reduceLeDiff, false_imp_iff, true_imp_iff, hfs]
      exact vb (by rw [decide_eq_decide]; omega)
  obtain rfl : k = W.length := by omega
  cases hf : fullK W W.length with
  | true =>
    simp only [push_cast, ↓branch_true, ↓branch_false, Nat.reduceBEq, Nat.reduceAdd, Nat.reduceMul, Nat.reduceSub, Int.reduceToNat, reduceCtorEq, branch_decide, branch_not, branch_beq, branch_bne, Int.reduceAdd, Int.reduceEq, Int.reduceLE, Int.reduceLT, Nat.reduceLT, Nat.reduceLeDiff, false_imp_iff, true_imp_iff]
    rw [wErr_4 hf]
  | false =>
  have h4 := wErr_n4 hf
  simp only [push_cast, ↓branch_true, ↓branch_false, Nat.reduceBEq, Nat.reduceAdd, Nat.reduceMul, Nat.reduceSub, Int.reduceToNat, reduceCtorEq, branch_decide, branch_not, branch_beq, branch_bne, Int.reduceAdd, Int.reduceEq, Int.reduceLE, Int.reduceLT, Nat.reduceLT, Nat.reduceLeDiff, false_imp_iff, true_imp_iff]
  refine tr_loop0 mixed (by kernel_rfl) (fun (k : Nat) => [(5, .v (.int .i64 k)), (0, .s 0 0 0 W.length c 1)]) (fun k => k ≤ W.length ∧ ∀ q, q < k → (ix W q).length = (ix W 0).length) (fun k => W.length - k) 0 ⟨Nat.zero_le _, fun q h => by omega⟩ ?_ ?_
  · simp only [push_cast, ↓branch_true, ↓branch_false, Nat.reduceBEq, Nat.reduceAdd, Nat.reduceMul, Nat.reduceSub, Int.reduceToNat, reduceCtorEq, branch_decide, branch_not, branch_beq, branch_bne, Int.reduceAdd, Int.reduceEq, Int.reduceLE, Int.reduceLT, Nat.reduceLT, Nat.reduceLeDiff, false_imp_iff, true_imp_iff]
    try trivial
  rintro k ⟨k1, k2⟩
  simp only [push_cast, ↓branch_true, ↓branch_false, Nat.reduceBEq, Nat.reduceAdd, Nat.reduceMul, Nat.reduceSub, Int.reduceToNat, reduceCtorEq, branch_decide, branch_not, branch_beq, branch_bne, Int.reduceAdd, Int.reduceEq, Int.reduceLE, Int.reduceLT, Nat.reduceLT, Nat.reduceLeDiff, false_imp_iff, true_imp_iff]
  refine ⟨fun h1 => ?_, fun h1 => ?_⟩
  · have hkl : k < W.length := by omega
    repeat (with_reducible refine And.intro (by omega) ?_)
    refine ⟨fun h2 => ?_, fun h2 => ?_⟩
    · repeat (with_reducible refine And.intro (by omega) ?_)
      refine lp0_normal (k + 1) ⟨by omega, fun q hq => ?_⟩ (by omega) ?_
      · by_cases e : q = k
        · subst e; omega
        · exact k2 q (by omega)
      · simp only [push_cast, ↓branch_true, ↓branch_false, Nat.reduceBEq, Nat.reduceAdd, Nat.reduceMul, Nat.reduceSub, Int.reduceToNat, reduceCtorEq, branch_decide, branch_not, branch_beq, branch_bne, Int.reduceAdd, Int.reduceEq, Int.reduceLE, Int.reduceLT, Nat.reduceLT, Nat.reduceLeDiff, false_imp_iff, true_imp_iff]
    · have h3 : (W.any fun r => decide (r.length ≠ (ix W 0).length)) = true := List.any_eq_true.2 ⟨_, ix_mem hkl, by simp; omega⟩
      rw [show wErr W = 3 from (if_neg h4).trans (if_pos h3)]
  obtain rfl : k = W.length := by omega
  have h3 : ¬ (W.any fun r => decide (r.length ≠ (ix W 0).length)) = true := by
    rw [List.any_eq_true]
    rintro ⟨r, h5, h6⟩
    obtain ⟨q, hq, e⟩ := List.getElem_of_mem h5
    have := k2 q hq
    rw [ix_eq hq, e] at this
    simp at h6
    omega
  refine tr_loop0 mixed (by kernel_rfl) (fun (k : Nat) => [(6, .v (.int .i64 k)), (0, .s 0 0 0 W.length c 1)]) (fun k => k ≤ W.length ∧ ∀ q, q < k → badW (ix W q) = false) (fun k => W.length - k) 0 ⟨Nat.zero_le _, fun q h => by omega⟩ ?_ ?_
  · simp only [push_cast, ↓branch_true, ↓branch_false, Nat.reduceBEq, Nat.reduceAdd, Nat.reduceMul, Nat.reduceSub, Int.reduceToNat, reduceCtorEq, branch_decide, branch_not, branch_beq, branch_bne, Int.reduceAdd, Int.reduceEq, Int.reduceLE, Int.reduceLT, Nat.reduceLT, Nat.reduceLeDiff, false_imp_iff, true_imp_iff]
    try trivial
  rintro k ⟨j1, j2⟩
  simp only [push_cast, ↓branch_true, ↓branch_false, Nat.reduceBEq, Nat.reduceAdd, Nat.reduceMul, Nat.reduceSub, Int.reduceToNat, reduceCtorEq, branch_decide, branch_not, branch_beq, branch_bne, Int.reduceAdd, Int.reduceEq, Int.reduceLE, Int.reduceLT, Nat.reduceLT, Nat.reduceLeDiff, false_imp_iff, true_imp_iff]
  refine ⟨fun h1 => ?_, fun h1 => ?_⟩
  · have hkl : k < W.length := by omega
    have hrk := hr k
    repeat (with_reducible refine And.intro (by omega) ?_)
    refine tr_loop0 mixed (by kernel_rfl) (fun (q : Nat) => [(7, .v (.int .i64 q)), (6, .v (.int .i64 k)), (0, .s 0 0 0 W.length c 1)]) (fun q => q ≤ (ix W k).length ∧ ∀ p, p < q → (decide (ix (ix W k) p < -1) || decide (ix (ix W k) p > 1073741824)) = false) (fun q => (ix W k).length - q) 0 ⟨Nat.zero_le _, fun q h => by omega⟩ ?_ ?_
    · simp only [push_cast, ↓branch_true, ↓branch_false, Nat.reduceBEq, Nat.reduceAdd, Nat.reduceMul, Nat.reduceSub, Int.reduceToNat, reduceCtorEq, branch_decide, branch_not, branch_beq, branch_bne, Int.reduceAdd, Int.reduceEq, Int.reduceLE, Int.reduceLT, Nat.reduceLT, Nat.reduceLeDiff, false_imp_iff, true_imp_iff]
      try trivial
    rintro q ⟨q1, q2⟩
    simp only [push_cast, ↓branch_true, ↓branch_false, Nat.reduceBEq, Nat.reduceAdd, Nat.reduceMul, Nat.reduceSub, Int.reduceToNat, reduceCtorEq, branch_decide, branch_not, branch_beq, branch_bne, Int.reduceAdd, Int.reduceEq, Int.reduceLE, Int.reduceLT, Nat.reduceLT, Nat.reduceLeDiff, false_imp_iff, true_imp_iff]
    repeat (with_reducible refine And.intro (by omega) ?_)
    refine ⟨fun h2 => ?_, fun h2 => ?_⟩
    · have hq : q < (ix W k).length := by omega
      repeat (with_reducible refine And.intro (by omega) ?_)
      have hbad : (decide (ix (ix W k) q < -1) || decide (ix (ix W k) q > 1073741824)) = true → wErr W = 2 := fun h => (if_neg h4).trans ((if_neg h3).trans (if_pos (List.any_eq_true.2 ⟨_, ix_mem hkl, List.any_eq_true.2 ⟨_, ix_mem hq, h⟩⟩)))
      refine ⟨fun h5 => by rw [hbad (by simp; omega)], fun h5 => ?_⟩
      repeat (with_reducible refine And.intro (by omega) ?_)
      refine ⟨fun h6 => by rw [hbad (by simp; omega)], fun h6 => ?_⟩
      repeat (with_reducible refine And.intro (by omega) ?_)
      refine lp0_normal (q + 1) ⟨by omega, fun p hp => ?_⟩ (by omega) ?_
      · by_cases e : p = q
        · subst e; simp; omega
        · exact q2 p (by omega)
      · simp only [push_cast, ↓branch_true, ↓branch_false, Nat.reduceBEq, Nat.reduceAdd, Nat.reduceMul, Nat.reduceSub, Int.reduceToNat, reduceCtorEq, branch_decide, branch_not, branch_beq, branch_bne, Int.reduceAdd, Int.reduceEq, Int.reduceLE, Int.reduceLT, Nat.reduceLT, Nat.reduceLeDiff, false_imp_iff, true_imp_iff]
    · obtain rfl : q = (ix W k).length := by omega
      repeat (with_reducible refine And.intro (by omega) ?_)
      refine lp0_normal (k + 1) ⟨by omega, fun p hp => ?_⟩ (by omega) ?_
      · by_cases e : p = k
        · subst e
          unfold badW
          rw [List.any_eq_false]
          intro x hx
          obtain ⟨a, ha, e⟩ := List.getElem_of_mem hx
          have := q2 a ha
          rw [ix_eq ha, e] at this
          rw [this]; decide
        · exact j2 p (by omega)
      · simp only [push_cast, ↓branch_true, ↓branch_false, Nat.reduceBEq, Nat.reduceAdd, Nat.reduceMul, Nat.reduceSub, Int.reduceToNat, reduceCtorEq, branch_decide, branch_not, branch_beq, branch_bne, Int.reduceAdd, Int.reduceEq, Int.reduceLE, Int.reduceLT, Nat.reduceLT, Nat.reduceLeDiff, false_imp_iff, true_imp_iff]
  obtain rfl : k = W.length := by omega
  rw [show wErr W = 0 from (if_neg h4).trans ((if_neg h3).trans (if_neg fun h => by
    obtain ⟨x, hx, hx2⟩ := List.any_eq_true.1 h
    obtain ⟨q, hq, e⟩ := List.getElem_of_mem hx
    have := j2 q hq
    rw [ix_eq hq, e] at this
    unfold badW at this
    rw [hx2] at this
    cases this))]
end Go.Proofs.Ytmmabnoemckdiaa
