/- Contracts of the reference: within, Valid. -/
import Derived.Test.YtmefgachdnlaoaaSB
set_option maxRecDepth 100000
set_option linter.unusedSimpArgs false
set_option linter.unusedVariables false
namespace Go.Proofs.Ytmefgachdnlaoaa
open Go.RowKit Lp
theorem within_pu (n most : Int) (h : 0 ≤ most ∧ most ≤ 1000000000000) : Pu Try.prog 54 [.v (.int .i64 n), .v (.int .i64 most)] [] (.v (.bool (!far most n))) := by
  refine pu_of_ex true [] mixed Try.call54 Try.func54 rfl Try.ntmps54 Try.results54 (by decide +kernel) rfl rfl rfl ?_
  simp only [push_cast, ↓branch_true, ↓branch_false, Nat.reduceBEq, Nat.reduceAdd, Nat.reduceMul, Nat.reduceSub, Int.reduceToNat, reduceCtorEq, Int.reduceAdd, Int.reduceEq, Int.reduceLE, Int.reduceLT, Nat.reduceLT, Nat.reduceLeDiff]
  repeat (with_reducible refine And.intro (by omega) ?_)
  exact ⟨fun h1 => vb (by rw [Bool.eq_iff_iff]; simp [far]; omega), fun h1 => vb (by rw [Bool.eq_iff_iff]; simp [far]; omega)⟩
set_option maxHeartbeats 8000000 in
theorem rvalid_pu (p : Pm) (hl : ∀ t, t < p.m → p.ln t ≤ 1000000) (hn : p.n ≤ 1000000) (hm : p.m ≤ 1000000) : Pu Try.prog 16 [svP p] (obP p) (.v (.bool (vPm p))) := by
  have hfz := p.fzm
  have hv := vPm_iff p
  have hno : ¬ ((1 ≤ p.n ∧ p.n ≤ 12 ∧ p.m ≤ 6 ∧ (∀ j, j < p.n → far 1048576 (p.co j) = false)) ∧ ∀ t, t < p.m → badR p t = false) → vPm p = false := fun h => by
    cases e : vPm p with
    | true => exact absurd (hv.1 e) h
    | false => rfl
  refine pu_of_ex true [] mixed Try.call16 Try.func16 rfl Try.ntmps16 Try.results16 (by decide +kernel) rfl rfl rfl ?_
  simp only [push_cast, ↓branch_true, ↓branch_false, Nat.reduceBEq, Nat.reduceAdd, Nat.reduceMul, Nat.reduceSub, Int.reduceToNat, reduceCtorEq, Int.reduceAdd, Int.reduceEq, Int.reduceLE, Int.reduceLT, Nat.reduceLT, Nat.reduceLeDiff]
  refine ⟨fun h1 => vb (hno fun h => by omega).symm, fun h1 => ⟨fun h2 => vb (hno fun h => by omega).symm, fun h2 => ⟨fun h3 => vb (hno fun h => by omega).symm, fun h3 => ?_⟩⟩⟩
  refine tr_loop0 mixed (by kernel_rfl) (fun (k : Nat) => [(3, .v (.int .i64 k)), (1, .p 3 0 0)]) (fun k => k ≤ p.n ∧ ∀ j, j < k → far 1048576 (p.co j) = false) (fun k => p.n - k) 0 ⟨Nat.zero_le _, fun j hj => absurd hj (Nat.not_lt_zero _)⟩ ?_ ?_
  · simp only [push_cast, ↓branch_true, ↓branch_false, Nat.reduceBEq, Nat.reduceAdd, Nat.reduceMul, Nat.reduceSub, Int.reduceToNat, reduceCtorEq, Int.reduceAdd, Int.reduceEq, Int.reduceLE, Int.reduceLT, Nat.reduceLT, Nat.reduceLeDiff]
  rintro k ⟨g1, g2⟩
  simp only [push_cast, ↓branch_true, ↓branch_false, Nat.reduceBEq, Nat.reduceAdd, Nat.reduceMul, Nat.reduceSub, Int.reduceToNat, reduceCtorEq, Int.reduceAdd, Int.reduceEq, Int.reduceLE, Int.reduceLT, Nat.reduceLT, Nat.reduceLeDiff]
  refine ⟨fun h4 => ?_, fun h4 => ?_⟩
  · have hkn : k < p.n := by omega
    have hw := within_pu (p.co k) 1048576 (by decide)
    repeat (with_reducible refine And.intro (by omega) ?_)
    cases hf : far 1048576 (p.co k) with
    | true =>
      rw [hf] at hw
      refine sp_c hw rfl [] ?_
      simp only [push_cast, ↓branch_true, ↓branch_false, Nat.reduceBEq, Nat.reduceAdd, Nat.reduceMul, Nat.reduceSub, Int.reduceToNat, reduceCtorEq, Int.reduceAdd, Int.reduceEq, Int.reduceLE, Int.reduceLT, Nat.reduceLT, Nat.reduceLeDiff]
      exact vb (hno fun h => by have := h.1.2.2.2 k hkn; rw [hf] at this; cases this).symm
    | false =>
      rw [hf] at hw
      refine sp_c hw rfl [] ?_
      simp only [push_cast, ↓branch_true, ↓branch_false, Nat.reduceBEq, Nat.reduceAdd, Nat.reduceMul, Nat.reduceSub, Int.reduceToNat, reduceCtorEq, Int.reduceAdd, Int.reduceEq, Int.reduceLE, Int.reduceLT, Nat.reduceLT, Nat.reduceLeDiff]
      repeat (with_reducible refine And.intro (by omega) ?_)
      refine lp0_normal (k + 1) ⟨by omega, fun j hj => ?_⟩ (by omega) ?_
      · by_cases e : j = k
        · rw [e]; exact hf
        · exact g2 j (by omega)
      · simp only [push_cast, ↓branch_true, ↓branch_false, Nat.reduceBEq, Nat.reduceAdd, Nat.reduceMul, Nat.reduceSub, Int.reduceToNat, reduceCtorEq, Int.reduceAdd, Int.reduceEq, Int.reduceLE, Int.reduceLT, Nat.reduceLT, Nat.reduceLeDiff]
  obtain rfl : k = p.n := by omega
  refine tr_loop mixed (by kernel_rfl) (fun (t : Nat) => [(4, .v (.int .i64 t)), (1, .p 3 0 0)]) (fun _ => obP p ++ [oBx p]) (fun t => t ≤ p.m ∧ ∀ u, u < t → badR p u = false) (fun t => p.m - t) 0 ⟨Nat.zero_le _, fun j hj => absurd hj (Nat.not_lt_zero _)⟩ (Mt.wk (rl := [0, 1, 2, 3]) ⟨by kernel_rfl, ?_, ?_⟩) ?_
  · simp only [push_cast, ↓branch_true, ↓branch_false, Nat.reduceBEq, Nat.reduceAdd, Nat.reduceMul, Nat.reduceSub, Int.reduceToNat, reduceCtorEq, Int.reduceAdd, Int.reduceEq, Int.reduceLE, Int.reduceLT, Nat.reduceLT, Nat.reduceLeDiff]
  · simp only [push_cast, ↓branch_true, ↓branch_false, Nat.reduceBEq, Nat.reduceAdd, Nat.reduceMul, Nat.reduceSub, Int.reduceToNat, reduceCtorEq, Int.reduceAdd, Int.reduceEq, Int.reduceLE, Int.reduceLT, Nat.reduceLT, Nat.reduceLeDiff]
  rintro t ⟨q1, q2⟩
  simp only [push_cast, ↓branch_true, ↓branch_false, Nat.reduceBEq, Nat.reduceAdd, Nat.reduceMul, Nat.reduceSub, Int.reduceToNat, reduceCtorEq, Int.reduceAdd, Int.reduceEq, Int.reduceLE, Int.reduceLT, Nat.reduceLT, Nat.reduceLeDiff]
  refine ⟨fun h5 => ?_, fun h5 => ?_⟩
  · have htm : t < p.m := by omega
    have hlt := hl t htm
    have hbi := badR_iff p t
    have hbad : ¬ (p.ln t = p.n ∧ (∀ k, k < p.ln t → -1048576 ≤ p.a t k ∧ p.a t k ≤ 1048576) ∧ (1 ≤ p.kd t ∧ p.kd t ≤ 3) ∧ -1073741824 ≤ p.b t ∧ p.b t ≤ 1073741824) → vPm p = false := fun h => hno fun h2 => h (hbi.1 (h2.2 t htm))
    have hw := within_pu (p.b t) 1073741824 (by decide)
    have hfb := far_iff 1073741824 (p.b t)
    repeat (with_reducible refine And.intro (by omega) ?_)
    refine ⟨fun c1 => ⟨fun c2 => ?_, fun c2 => ⟨fun c3 => ?_, fun c3 => ?_⟩⟩, fun c1 => ?_⟩
    · exact vb (hbad fun h => by omega).symm
    · exact vb (hbad fun h => by omega).symm
    · cases hf : far 1073741824 (p.b t) with
      | true =>
        rw [hf] at hw
        refine sp_c hw rfl [] ?_
        simp only [push_cast, ↓branch_true, ↓branch_false, Nat.reduceBEq, Nat.reduceAdd, Nat.reduceMul, Nat.reduceSub, Int.reduceToNat, reduceCtorEq, Int.reduceAdd, Int.reduceEq, Int.reduceLE, Int.reduceLT, Nat.reduceLT, Nat.reduceLeDiff]
        exact vb (hbad fun h => by rw [hfb.2 ⟨by omega, by omega⟩] at hf; cases hf).symm
      | false =>
        rw [hf] at hw
        have hfb := hfb.1 hf
        refine sp_c hw rfl [] ?_
        simp only [push_cast, ↓branch_true, ↓branch_false, Nat.reduceBEq, Nat.reduceAdd, Nat.reduceMul, Nat.reduceSub, Int.reduceToNat, reduceCtorEq, Int.reduceAdd, Int.reduceEq, Int.reduceLE, Int.reduceLT, Nat.reduceLT, Nat.reduceLeDiff]
        refine tr_loop0 mixed (by kernel_rfl) (fun (k : Nat) => [(6, .v (.int .i64 k)), (5, .p 4 0 0), (4, .v (.int .i64 t)), (1, .p 3 0 0)]) (fun k => k ≤ p.ln t ∧ ∀ j, j < k → far 1048576 (p.a t j) = false) (fun k => p.ln t - k) 0 ⟨Nat.zero_le _, fun j hj => absurd hj (Nat.not_lt_zero _)⟩ ?_ ?_
        · simp only [push_cast, ↓branch_true, ↓branch_false, Nat.reduceBEq, Nat.reduceAdd, Nat.reduceMul, Nat.reduceSub, Int.reduceToNat, reduceCtorEq, Int.reduceAdd, Int.reduceEq, Int.reduceLE, Int.reduceLT, Nat.reduceLT, Nat.reduceLeDiff]
        rintro k ⟨r1, r2⟩
        simp only [push_cast, ↓branch_true, ↓branch_false, Nat.reduceBEq, Nat.reduceAdd, Nat.reduceMul, Nat.reduceSub, Int.reduceToNat, reduceCtorEq, Int.reduceAdd, Int.reduceEq, Int.reduceLE, Int.reduceLT, Nat.reduceLT, Nat.reduceLeDiff]
        refine ⟨fun c4 => ?_, fun c4 => ?_⟩
        · have hkn : k < p.ln t := by omega
          have hw2 := within_pu (p.a t k) 1048576 (by decide)
          repeat (with_reducible refine And.intro (by omega) ?_)
          cases hf2 : far 1048576 (p.a t k) with
          | true =>
            rw [hf2] at hw2
            refine sp_c hw2 rfl [] ?_
            simp only [push_cast, ↓branch_true, ↓branch_false, Nat.reduceBEq, Nat.reduceAdd, Nat.reduceMul, Nat.reduceSub, Int.reduceToNat, reduceCtorEq, Int.reduceAdd, Int.reduceEq, Int.reduceLE, Int.reduceLT, Nat.reduceLT, Nat.reduceLeDiff]
            exact vb (hbad fun h => by rw [(far_iff 1048576 (p.a t k)).2 (h.2.1 k hkn)] at hf2; cases hf2).symm
          | false =>
            rw [hf2] at hw2
            refine sp_c hw2 rfl [] ?_
            simp only [push_cast, ↓branch_true, ↓branch_false, Nat.reduceBEq, Nat.reduceAdd, Nat.reduceMul, Nat.reduceSub, Int.reduceToNat, reduceCtorEq, Int.reduceAdd, Int.reduceEq, Int.reduceLE, Int.reduceLT, Nat.reduceLT, Nat.reduceLeDiff]
            repeat (with_reducible refine And.intro (by omega) ?_)
            refine lp0_normal (k + 1) ⟨by omega, fun j hj => ?_⟩ (by omega) ?_
            · by_cases e : j = k
              · rw [e]; exact hf2
              · exact r2 j (by omega)
            · simp only [push_cast, ↓branch_true, ↓branch_false, Nat.reduceBEq, Nat.reduceAdd, Nat.reduceMul, Nat.reduceSub, Int.reduceToNat, reduceCtorEq, Int.reduceAdd, Int.reduceEq, Int.reduceLE, Int.reduceLT, Nat.reduceLT, Nat.reduceLeDiff]
        · obtain rfl : k = p.ln t := by omega
          repeat (with_reducible refine And.intro (by omega) ?_)
          refine lpK_normal (t + 1) [0, 1, 2, 3] ⟨by omega, fun u hu => ?_⟩ (by omega) (by kernel_rfl) ?_ ?_
          · by_cases e : u = t
            · rw [e]
              exact hbi.2 ⟨by omega, fun k hk => (far_iff _ _).1 (r2 k hk), ⟨by omega, by omega⟩, hfb⟩
            · exact q2 u (by omega)
          · simp only [push_cast, ↓branch_true, ↓branch_false, Nat.reduceBEq, Nat.reduceAdd, Nat.reduceMul, Nat.reduceSub, Int.reduceToNat, reduceCtorEq, Int.reduceAdd, Int.reduceEq, Int.reduceLE, Int.reduceLT, Nat.reduceLT, Nat.reduceLeDiff]
          · simp only [push_cast, ↓branch_true, ↓branch_false, Nat.reduceBEq, Nat.reduceAdd, Nat.reduceMul, Nat.reduceSub, Int.reduceToNat, reduceCtorEq, Int.reduceAdd, Int.reduceEq, Int.reduceLE, Int.reduceLT, Nat.reduceLT, Nat.reduceLeDiff]
    · exact vb (hbad fun h => by omega).symm
  · obtain rfl : t = p.m := by omega
    refine vb ?_
    exact (hv.2 ⟨⟨by omega, by omega, by omega, g2⟩, q2⟩).symm
end Go.Proofs.Ytmefgachdnlaoaa
