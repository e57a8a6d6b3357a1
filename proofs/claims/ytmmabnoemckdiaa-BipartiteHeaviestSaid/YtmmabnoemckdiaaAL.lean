/- Law: Weighs; plain: sums of matchings. -/
import Derived.Test.YtmmabnoemckdiaaAK
import Derived.Test.YtmmabnoemckdiaaU
set_option maxRecDepth 100000
set_option linter.unusedSimpArgs false
set_option linter.unusedVariables false
namespace Go.Proofs.Ytmmabnoemckdiaa
open Go.RowKit Bip
theorem weighs1_pu (N : Nat) (near : Nat → List Int) (cp : Nat → Nat) (k : Nat) (hk : k < N) : Pu Try.prog 12 [.s 1 k 0 (near k).length (cp k) 1] [oNe 1 N near cp, oNf N near] (.v (.bool (decide ((near k).length > 10)))) := by
  refine pu_of_ex true [] mixed Try.call12 Try.func12 rfl Try.ntmps12 Try.results12 (by decide +kernel) rfl rfl rfl ?_
  simp only [push_cast, ↓branch_true, ↓branch_false, Nat.reduceBEq, Nat.reduceAdd, Nat.reduceMul, Nat.reduceSub, Int.reduceToNat, reduceCtorEq, branch_decide, branch_not, branch_beq, branch_bne, Int.reduceAdd, Int.reduceEq, Int.reduceLE, Int.reduceLT, Nat.reduceLT, Nat.reduceLeDiff, false_imp_iff, true_imp_iff]
  try exact vb (by rw [decide_eq_decide]; omega)
theorem rows_le {W : List (List Int)} {B : Nat} (h : (W.any fun r => decide (r.length > B)) = false) (i : Nat) : (ix W i).length ≤ B := by
  by_cases hi : i < W.length
  · have := List.any_eq_false.1 h _ (ix_mem hi)
    simpa using this
  · unfold ix
    rw [List.getD_eq_getElem?_getD, List.getElem?_eq_none (by omega)]
    exact Nat.zero_le _
theorem hpick_len : ∀ (W : List (List Int)) (s : Nat), (hpick W s).length = W.length
  | [], _ => rfl
  | r :: W, s => by
    unfold hpick
    split <;> simp [hpick_len W]
theorem wOut_len (W : List (List Int)) : (wOut W).length ≤ W.length := by
  unfold wOut
  split
  · rw [hpick_len]; exact Nat.le_refl _
  · exact Nat.zero_le _
set_option maxHeartbeats 2000000 in
theorem lweighs_sp (W : List (List Int)) (c : Nat) (cp : Nat → Nat) (hl : W.length ≤ 9223372036854775807) : Sp Try.prog 3 [.s 0 0 0 W.length c 1] [oNe 1 W.length (ix W) cp, oNf W.length (ix W)] (fun r H => r = .v (.bool true)) := by
  refine sp_of_ex true [] mixed Try.call3 Try.func3 rfl Try.ntmps3 Try.results3 (by decide +kernel) rfl ?_
  simp only [push_cast, ↓branch_true, ↓branch_false, Nat.reduceBEq, Nat.reduceAdd, Nat.reduceMul, Nat.reduceSub, Int.reduceToNat, reduceCtorEq, branch_decide, branch_not, branch_beq, branch_bne, Int.reduceAdd, Int.reduceEq, Int.reduceLE, Int.reduceLT, Nat.reduceLT, Nat.reduceLeDiff, false_imp_iff, true_imp_iff]
  refine sp_at awake_sp [] rfl ?_ ?_ ?_
  · simp only [push_cast, ↓branch_true, ↓branch_false, Nat.reduceBEq, Nat.reduceAdd, Nat.reduceMul, Nat.reduceSub, Int.reduceToNat, reduceCtorEq, branch_decide, branch_not, branch_beq, branch_bne, Int.reduceAdd, Int.reduceEq, Int.reduceLE, Int.reduceLT, Nat.reduceLT, Nat.reduceLeDiff, false_imp_iff, true_imp_iff]
  · simp only [push_cast, ↓branch_true, ↓branch_false, Nat.reduceBEq, Nat.reduceAdd, Nat.reduceMul, Nat.reduceSub, Int.reduceToNat, reduceCtorEq, branch_decide, branch_not, branch_beq, branch_bne, Int.reduceAdd, Int.reduceEq, Int.reduceLE, Int.reduceLT, Nat.reduceLT, Nat.reduceLeDiff, false_imp_iff, true_imp_iff]
  rintro _ _ ⟨rfl, rfl⟩
  simp only [push_cast, ↓branch_true, ↓branch_false, Nat.reduceBEq, Nat.reduceAdd, Nat.reduceMul, Nat.reduceSub, Int.reduceToNat, reduceCtorEq, branch_decide, branch_not, branch_beq, branch_bne, Int.reduceAdd, Int.reduceEq, Int.reduceLE, Int.reduceLT, Nat.reduceLT, Nat.reduceLeDiff, false_imp_iff, true_imp_iff]
  intro h1
  refine sp_call (containsL_pu W.length c (ix W) cp 12 [] [] [] (fun k => decide ((ix W k).length > 10)) rfl (by omega) fun k hk => weighs1_pu _ _ cp k hk) rfl [0, 1] rfl ?_ ?_ ?_
  · simp only [push_cast, ↓branch_true, ↓branch_false, Nat.reduceBEq, Nat.reduceAdd, Nat.reduceMul, Nat.reduceSub, Int.reduceToNat, reduceCtorEq, branch_decide, branch_not, branch_beq, branch_bne, Int.reduceAdd, Int.reduceEq, Int.reduceLE, Int.reduceLT, Nat.reduceLT, Nat.reduceLeDiff, false_imp_iff, true_imp_iff]
  · simp only [push_cast, ↓branch_true, ↓branch_false, Nat.reduceBEq, Nat.reduceAdd, Nat.reduceMul, Nat.reduceSub, Int.reduceToNat, reduceCtorEq, branch_decide, branch_not, branch_beq, branch_bne, Int.reduceAdd, Int.reduceEq, Int.reduceLE, Int.reduceLT, Nat.reduceLT, Nat.reduceLeDiff, false_imp_iff, true_imp_iff]
  rw [any_rng W fun r => decide (r.length > 10)]
  cases hb1 : W.any fun r => decide (r.length > 10) with
  | true =>
    simp only [push_cast, ↓branch_true, ↓branch_false, Nat.reduceBEq, Nat.reduceAdd, Nat.reduceMul, Nat.reduceSub, Int.reduceToNat, reduceCtorEq, branch_decide, branch_not, branch_beq, branch_bne, Int.reduceAdd, Int.reduceEq, Int.reduceLE, Int.reduceLT, Nat.reduceLT, Nat.reduceLeDiff, false_imp_iff, true_imp_iff]
  | false =>
  have hr : ∀ i, (ix W i).length ≤ 1000 := fun i => Nat.le_trans (rows_le hb1 i) (by decide)
  have hol := wOut_len W
  simp only [push_cast, ↓branch_true, ↓branch_false, Nat.reduceBEq, Nat.reduceAdd, Nat.reduceMul, Nat.reduceSub, Int.reduceToNat, reduceCtorEq, branch_decide, branch_not, branch_beq, branch_bne, Int.reduceAdd, Int.reduceEq, Int.reduceLE, Int.reduceLT, Nat.reduceLT, Nat.reduceLeDiff, false_imp_iff, true_imp_iff]
  refine sp_at (heavy_sp W c cp (by omega) hr) [0, 1] rfl ?_ ?_ ?_
  · simp only [push_cast, ↓branch_true, ↓branch_false, Nat.reduceBEq, Nat.reduceAdd, Nat.reduceMul, Nat.reduceSub, Int.reduceToNat, reduceCtorEq, branch_decide, branch_not, branch_beq, branch_bne, Int.reduceAdd, Int.reduceEq, Int.reduceLE, Int.reduceLT, Nat.reduceLT, Nat.reduceLeDiff, false_imp_iff, true_imp_iff]
  · simp only [push_cast, ↓branch_true, ↓branch_false, Nat.reduceBEq, Nat.reduceAdd, Nat.reduceMul, Nat.reduceSub, Int.reduceToNat, reduceCtorEq, branch_decide, branch_not, branch_beq, branch_bne, Int.reduceAdd, Int.reduceEq, Int.reduceLE, Int.reduceLT, Nat.reduceLT, Nat.reduceLeDiff, false_imp_iff, true_imp_iff]
  rintro _ _ ⟨c1, hc1, rfl, rfl⟩
  simp only [push_cast, ↓branch_true, ↓branch_false, Nat.reduceBEq, Nat.reduceAdd, Nat.reduceMul, Nat.reduceSub, Int.reduceToNat, reduceCtorEq, branch_decide, branch_not, branch_beq, branch_bne, Int.reduceAdd, Int.reduceEq, Int.reduceLE, Int.reduceLT, Nat.reduceLT, Nat.reduceLeDiff, false_imp_iff, true_imp_iff]
  refine sp_at (rheavy_sp W c cp (by omega) hr) [0, 1] rfl ?_ ?_ ?_
  · simp only [push_cast, ↓branch_true, ↓branch_false, Nat.reduceBEq, Nat.reduceAdd, Nat.reduceMul, Nat.reduceSub, Int.reduceToNat, reduceCtorEq, branch_decide, branch_not, branch_beq, branch_bne, Int.reduceAdd, Int.reduceEq, Int.reduceLE, Int.reduceLT, Nat.reduceLT, Nat.reduceLeDiff, false_imp_iff, true_imp_iff]
  · simp only [push_cast, ↓branch_true, ↓branch_false, Nat.reduceBEq, Nat.reduceAdd, Nat.reduceMul, Nat.reduceSub, Int.reduceToNat, reduceCtorEq, branch_decide, branch_not, branch_beq, branch_bne, Int.reduceAdd, Int.reduceEq, Int.reduceLE, Int.reduceLT, Nat.reduceLT, Nat.reduceLeDiff, false_imp_iff, true_imp_iff]
  rintro _ _ ⟨c2, hc2, rfl, rfl⟩
  simp only [push_cast, ↓branch_true, ↓branch_false, Nat.reduceBEq, Nat.reduceAdd, Nat.reduceMul, Nat.reduceSub, Int.reduceToNat, reduceCtorEq, branch_decide, branch_not, branch_beq, branch_bne, Int.reduceAdd, Int.reduceEq, Int.reduceLE, Int.reduceLT, Nat.reduceLT, Nat.reduceLeDiff, false_imp_iff, true_imp_iff]
  refine sp_call (equal_pu (wOut W) (wOut W) c1 c2 (by omega) (by omega)) rfl [2, 3] rfl ?_ ?_ ?_
  · simp only [push_cast, ↓branch_true, ↓branch_false, Nat.reduceBEq, Nat.reduceAdd, Nat.reduceMul, Nat.reduceSub, Int.reduceToNat, reduceCtorEq, branch_decide, branch_not, branch_beq, branch_bne, Int.reduceAdd, Int.reduceEq, Int.reduceLE, Int.reduceLT, Nat.reduceLT, Nat.reduceLeDiff, false_imp_iff, true_imp_iff]
  · simp only [push_cast, ↓branch_true, ↓branch_false, Nat.reduceBEq, Nat.reduceAdd, Nat.reduceMul, Nat.reduceSub, Int.reduceToNat, reduceCtorEq, branch_decide, branch_not, branch_beq, branch_bne, Int.reduceAdd, Int.reduceEq, Int.reduceLE, Int.reduceLT, Nat.reduceLT, Nat.reduceLeDiff, false_imp_iff, true_imp_iff]
  rw [decide_eq_true rfl]
  simp only [push_cast, ↓branch_true, ↓branch_false, Nat.reduceBEq, Nat.reduceAdd, Nat.reduceMul, Nat.reduceSub, Int.reduceToNat, reduceCtorEq, branch_decide, branch_not, branch_beq, branch_bne, Int.reduceAdd, Int.reduceEq, Int.reduceLE, Int.reduceLT, Nat.reduceLT, Nat.reduceLeDiff, false_imp_iff, true_imp_iff]
  try exact vb (by simp)
end Go.Proofs.Ytmmabnoemckdiaa
