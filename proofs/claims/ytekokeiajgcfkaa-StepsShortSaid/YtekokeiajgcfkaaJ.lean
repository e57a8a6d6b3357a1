/- Contracts: the reference's Least. -/
import Derived.Test.YtekokeiajgcfkaaI
set_option maxRecDepth 100000
set_option linter.unusedSimpArgs false
set_option linter.unusedVariables false
namespace Go.Proofs.Ytekokeiajgcfkaa
open Go.RowKit
set_option maxHeartbeats 4000000 in
theorem rleast_sp (a b : List Stp) (c d : Nat) (hva : validB a = true) (hvb : validB b = true) : Sp Try.prog 17 [.s 0 0 0 a.length c 2, .s 1 0 0 b.length d 2] [rSt a, rSt b] (fun r H => ∃ cap, (joinR minF a b).length ≤ cap ∧ r = .t [.s 2 0 0 (joinR minF a b).length cap 2, .v (.int .i64 (joinE minF a b))] ∧ H = [rSt a, rSt b, rSO (joinR minF a b) cap]) := by
  have hla := (valid_yes.1 hva).1
  have hlb := (valid_yes.1 hvb).1
  have hbl := brk_len a b
  refine sp_weak ?_
  refine sp_of_ex true [(6, .one 0 (.one 1 (.one 2 (.one 3 (.one 5 (.one 6 (.one 7 (.one 8 (.one 11 (.one 12 (.one 13 (.one 14 (.alt [(4, .alt [(9, .alt [(10, .one 15 (.one 16 (.one 17 (.one 18 (.one 19 (.one 20 (.one 21 .fin))))))), (15, .one 10 (.one 16 (.one 17 (.one 18 (.one 19 (.one 20 (.one 21 .fin)))))))]), (15, .one 9 (.one 10 (.one 16 (.one 17 (.one 18 (.one 19 (.one 20 (.one 21 .fin))))))))]), (9, .alt [(4, .alt [(10, .one 15 (.one 16 (.one 17 (.one 18 (.one 19 (.one 20 (.one 21 .fin))))))), (15, .one 10 (.one 16 (.one 17 (.one 18 (.one 19 (.one 20 (.one 21 .fin)))))))]), (10, .alt [(4, .one 15 (.one 16 (.one 17 (.one 18 (.one 19 (.one 20 (.one 21 .fin))))))), (15, .alt [(4, .one 16 (.one 17 (.one 18 (.one 19 (.one 20 (.one 21 .fin)))))), (16, .one 17 (.one 4 (.one 18 (.one 19 (.one 20 (.one 21 .fin))))))])]), (15, .alt [(4, .one 10 (.one 16 (.one 17 (.one 18 (.one 19 (.one 20 (.one 21 .fin))))))), (10, .alt [(4, .one 16 (.one 17 (.one 18 (.one 19 (.one 20 (.one 21 .fin)))))), (16, .one 17 (.one 4 (.one 18 (.one 19 (.one 20 (.one 21 .fin))))))])])]), (15, .alt [(4, .one 9 (.one 10 (.one 16 (.one 17 (.one 18 (.one 19 (.one 20 (.one 21 .fin)))))))), (9, .alt [(4, .one 10 (.one 16 (.one 17 (.one 18 (.one 19 (.one 20 (.one 21 .fin))))))), (10, .alt [(4, .one 16 (.one 17 (.one 18 (.one 19 (.one 20 (.one 21 .fin)))))), (16, .one 17 (.one 4 (.one 18 (.one 19 (.one 20 (.one 21 .fin))))))])])])])))))))))))))] mixed Try.call17 Try.func17 rfl Try.ntmps17 Try.results17 (by decide +kernel) rfl ?_
  simp only [push_cast, ↓branch_true, ↓branch_false, Nat.reduceBEq, Nat.reduceAdd, Nat.reduceMul, Nat.reduceSub, Int.reduceToNat, reduceCtorEq, branch_decide, branch_not, branch_beq, branch_bne]
  refine sp_at (places_sp a b c d (by omega) (by omega)) [0, 1] rfl ?_ ?_ ?_
  · simp only [push_cast, ↓branch_true, ↓branch_false, Nat.reduceBEq, Nat.reduceAdd, Nat.reduceMul, Nat.reduceSub, Int.reduceToNat, reduceCtorEq, branch_decide, branch_not, branch_beq, branch_bne]
  · simp only [push_cast, ↓branch_true, ↓branch_false, Nat.reduceBEq, Nat.reduceAdd, Nat.reduceMul, Nat.reduceSub, Int.reduceToNat, reduceCtorEq, branch_decide, branch_not, branch_beq, branch_bne]
  rintro _ _ ⟨bcap, hbcap, rfl, rfl⟩
  simp only [push_cast, ↓branch_true, ↓branch_false, Nat.reduceBEq, Nat.reduceAdd, Nat.reduceMul, Nat.reduceSub, Int.reduceToNat, reduceCtorEq, branch_decide, branch_not, branch_beq, branch_bne]
  obtain ⟨L, hL⟩ : ∃ L, L = brk a b := ⟨_, rfl⟩
  rw [← hL] at hbcap hbl ⊢
  refine tr_loop mixed (by kernel_rfl) (fun (x : Nat × Nat) => [(8, .v (.int .i64 x.1)), (6, .s 2 0 0 L.length bcap 1), (7, .s 3 0 0 x.1 x.2 2), (0, .s 0 0 0 a.length c 2), (1, .s 1 0 0 b.length d 2)])
    (fun x => [rSt a, rSt b, rIO L bcap, rSO (opL minF a b (L.take x.1)) x.2]) (fun x => x.1 ≤ L.length ∧ x.1 ≤ x.2 ∧ (opL minF a b (L.take x.1)).any bigB = false) (fun x => L.length - x.1) (0, 0) ⟨Nat.zero_le _, Nat.le_refl _, rfl⟩ (Mt.wk (rl := [0, 1, 2, 3]) ⟨by kernel_rfl, ?_, ?_⟩) ?_
  · simp only [push_cast, ↓branch_true, ↓branch_false, Nat.reduceBEq, Nat.reduceAdd, Nat.reduceMul, Nat.reduceSub, Int.reduceToNat, reduceCtorEq, branch_decide, branch_not, branch_beq, branch_bne]
  · simp only [push_cast, ↓branch_true, ↓branch_false, Nat.reduceBEq, Nat.reduceAdd, Nat.reduceMul, Nat.reduceSub, Int.reduceToNat, reduceCtorEq, branch_decide, branch_not, branch_beq, branch_bne]
    simp [opL]
  rintro ⟨k, cap⟩ ⟨h1, h2, h3⟩
  simp only at h1 h2 h3
  simp only [push_cast, ↓branch_true, ↓branch_false, Nat.reduceBEq, Nat.reduceAdd, Nat.reduceMul, Nat.reduceSub, Int.reduceToNat, reduceCtorEq, branch_decide, branch_not, branch_beq, branch_bne]
  refine ⟨fun h => ?_, fun h => ?_⟩
  · repeat (with_reducible refine And.intro (by omega) ?_)
    have hk : k < L.length := by omega
    have ra := at_range hva (ix L k)
    have rb := at_range hvb (ix L k)
    have g1 := rat_pu a c (ix L k) (by omega)
    have g2 := rat_pu b d (ix L k) (by omega)
    have hstep : opL minF a b (L.take (k + 1)) = opL minF a b (L.take k) ++ [⟨ix L k, min (atL a (ix L k)) (atL b (ix L k))⟩] := by
      rw [take_ix hk, opL, List.map_append]
      rfl
    have hol : (opL minF a b (L.take k)).length = k := by rw [opL_len, List.length_take]; omega
    have hap := app_st hstep [0, 1, 2, 5]
    rw [hol] at hap
    repeat' first
      | with_reducible apply And.intro
      | (refine sp_call g1 rfl [0] rfl ?_ ?_ ?_; (· (simp only [push_cast, ↓branch_true, ↓branch_false, Nat.reduceBEq, Nat.reduceAdd, Nat.reduceMul, Nat.reduceSub, Int.reduceToNat, reduceCtorEq, branch_decide, branch_not, branch_beq, branch_bne])); (· (simp only [push_cast, ↓branch_true, ↓branch_false, Nat.reduceBEq, Nat.reduceAdd, Nat.reduceMul, Nat.reduceSub, Int.reduceToNat, reduceCtorEq, branch_decide, branch_not, branch_beq, branch_bne])); (simp only [push_cast, ↓branch_true, ↓branch_false, Nat.reduceBEq, Nat.reduceAdd, Nat.reduceMul, Nat.reduceSub, Int.reduceToNat, reduceCtorEq, branch_decide, branch_not, branch_beq, branch_bne]))
      | (refine sp_call g2 rfl [1] rfl ?_ ?_ ?_; (· (simp only [push_cast, ↓branch_true, ↓branch_false, Nat.reduceBEq, Nat.reduceAdd, Nat.reduceMul, Nat.reduceSub, Int.reduceToNat, reduceCtorEq, branch_decide, branch_not, branch_beq, branch_bne])); (· (simp only [push_cast, ↓branch_true, ↓branch_false, Nat.reduceBEq, Nat.reduceAdd, Nat.reduceMul, Nat.reduceSub, Int.reduceToNat, reduceCtorEq, branch_decide, branch_not, branch_beq, branch_bne])); (simp only [push_cast, ↓branch_true, ↓branch_false, Nat.reduceBEq, Nat.reduceAdd, Nat.reduceMul, Nat.reduceSub, Int.reduceToNat, reduceCtorEq, branch_decide, branch_not, branch_beq, branch_bne]))
      | (with_reducible refine Or.inr ?_)
      | (with_reducible intro _ _)
    all_goals first | omega | exact hol | skip
    all_goals
      rename_i cap2 hcap2
      refine lpK_normal (k + 1, cap2) [0, 1, 2, 5] ⟨by simp only; omega, by simp only; omega, ?_⟩ (by simp only; omega) (by kernel_rfl) ?_ ?_
      · simp only [hstep, List.any_append, h3]
        simp [bigB]
        omega
      · simp only [push_cast, ↓branch_true, ↓branch_false, Nat.reduceBEq, Nat.reduceAdd, Nat.reduceMul, Nat.reduceSub, Int.reduceToNat, reduceCtorEq, branch_decide, branch_not, branch_beq, branch_bne]
      · simp only [push_cast, ↓branch_true, ↓branch_false, Nat.reduceBEq, Nat.reduceAdd, Nat.reduceMul, Nat.reduceSub, Int.reduceToNat, reduceCtorEq, branch_decide, branch_not, branch_beq, branch_bne]
        exact fun i hi => hap
  · obtain rfl : k = L.length := by omega
    rw [List.take_length] at h3 ⊢
    have hol : (opL minF a b L).length = L.length := opL_len
    have hS := rshort_sp (opL minF a b L) cap (by rw [hol]; omega)
    rw [hol] at hS
    refine sp_at hS [3] rfl ?_ ?_ ?_
    · simp only [push_cast, ↓branch_true, ↓branch_false, Nat.reduceBEq, Nat.reduceAdd, Nat.reduceMul, Nat.reduceSub, Int.reduceToNat, reduceCtorEq, branch_decide, branch_not, branch_beq, branch_bne]
    · simp only [push_cast, ↓branch_true, ↓branch_false, Nat.reduceBEq, Nat.reduceAdd, Nat.reduceMul, Nat.reduceSub, Int.reduceToNat, reduceCtorEq, branch_decide, branch_not, branch_beq, branch_bne]
    rintro _ _ ⟨cap2, hcap2, rfl, rfl⟩
    simp only [push_cast, ↓branch_true, ↓branch_false, Nat.reduceBEq, Nat.reduceAdd, Nat.reduceMul, Nat.reduceSub, Int.reduceToNat, reduceCtorEq, branch_decide, branch_not, branch_beq, branch_bne]
    have hSl := shortL_len (opL minF a b L) 0
    obtain ⟨J, hJ⟩ : ∃ J, J = shortL 0 (opL minF a b L) := ⟨_, rfl⟩
    have hJ2 : joinL minF a b = J := by rw [hJ, hL]; rfl
    rw [← hJ] at hcap2 hSl ⊢
    refine sp_at (full_sp J cap2) [4] rfl ?_ ?_ ?_
    · simp only [push_cast, ↓branch_true, ↓branch_false, Nat.reduceBEq, Nat.reduceAdd, Nat.reduceMul, Nat.reduceSub, Int.reduceToNat, reduceCtorEq, branch_decide, branch_not, branch_beq, branch_bne]
    · simp only [push_cast, ↓branch_true, ↓branch_false, Nat.reduceBEq, Nat.reduceAdd, Nat.reduceMul, Nat.reduceSub, Int.reduceToNat, reduceCtorEq, branch_decide, branch_not, branch_beq, branch_bne]
    rintro r0 _ ⟨f1, f2, rfl⟩
    by_cases hlen : 200 < J.length
    · rw [f1 hlen]
      have he : joinE minF a b = 4 := by rw [joinE_ok hva hvb, ← hL, hJ2, h3, if_neg (by simp), if_pos hlen]
      have hr := joinR_err he (by decide)
      rw [he, hr]
      simp only [push_cast, ↓branch_true, ↓branch_false, Nat.reduceBEq, Nat.reduceAdd, Nat.reduceMul, Nat.reduceSub, Int.reduceToNat, reduceCtorEq, branch_decide, branch_not, branch_beq, branch_bne]
      refine ⟨_, _, [0, 1, 5], ?_, by kernel_rfl, ?_, 0, Nat.le_refl _, rfl, rfl⟩ <;> (simp only [push_cast, ↓branch_true, ↓branch_false, Nat.reduceBEq, Nat.reduceAdd, Nat.reduceMul, Nat.reduceSub, Int.reduceToNat, reduceCtorEq, branch_decide, branch_not, branch_beq, branch_bne])
    · rw [f2 hlen]
      have he : joinE minF a b = 0 := by rw [joinE_ok hva hvb, ← hL, hJ2, h3, if_neg (by simp), if_neg hlen]
      have hr := joinR_ok he
      rw [he, hr, hJ2]
      simp only [push_cast, ↓branch_true, ↓branch_false, Nat.reduceBEq, Nat.reduceAdd, Nat.reduceMul, Nat.reduceSub, Int.reduceToNat, reduceCtorEq, branch_decide, branch_not, branch_beq, branch_bne]
      refine ⟨_, _, [0, 1, 4], ?_, by kernel_rfl, ?_, cap2, hcap2, rfl, rfl⟩ <;> (simp only [push_cast, ↓branch_true, ↓branch_false, Nat.reduceBEq, Nat.reduceAdd, Nat.reduceMul, Nat.reduceSub, Int.reduceToNat, reduceCtorEq, branch_decide, branch_not, branch_beq, branch_bne])
end Go.Proofs.Ytekokeiajgcfkaa
