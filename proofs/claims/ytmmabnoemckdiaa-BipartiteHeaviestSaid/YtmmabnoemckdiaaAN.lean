/- Law: Heaviest. -/
import Derived.Test.YtmmabnoemckdiaaAM
set_option maxRecDepth 100000
set_option linter.unusedSimpArgs false
set_option linter.unusedVariables false
namespace Go.Proofs.Ytmmabnoemckdiaa
open Go.RowKit Bip
def sumI (o : Option Int) : Int := o.getD 0
theorem h1_pu (N : Nat) (near : Nat → List Int) (cp : Nat → Nat) (k : Nat) (hk : k < N) : Pu Try.prog 16 [.s 1 k 0 (near k).length (cp k) 1] [oNe 1 N near cp, oNf N near] (.v (.bool (decide ((near k).length > 8)))) := by
  refine pu_of_ex true [] mixed Try.call16 Try.func16 rfl Try.ntmps16 Try.results16 (by decide +kernel) rfl rfl rfl ?_
  simp only [push_cast, ↓branch_true, ↓branch_false, Nat.reduceBEq, Nat.reduceAdd, Nat.reduceMul, Nat.reduceSub, Int.reduceToNat, reduceCtorEq, branch_decide, branch_not, branch_beq, branch_bne, Int.reduceAdd, Int.reduceEq, Int.reduceLE, Int.reduceLT, Nat.reduceLT, Nat.reduceLeDiff, false_imp_iff, true_imp_iff]
  try exact vb (by rw [decide_eq_decide]; omega)
theorem ix_take {l : List Int} {k q : Nat} (h : q < k) : ix (l.take k) q = ix l q := by
  unfold ix
  rw [List.getD_eq_getElem?_getD, List.getD_eq_getElem?_getD, List.getElem?_take, if_pos h]
theorem sumK_stop {W : List (List Int)} {p : List Int} {k : Nat} (hk : k < W.length) (h : sumK W p (k + 1) = none) : sumK W p W.length = none := by
  have := sumK_none h (W.length - (k + 1))
  rwa [show k + 1 + (W.length - (k + 1)) = W.length by omega] at this
set_option maxHeartbeats 4000000 in
theorem sum_pu (W : List (List Int)) (p : List Int) (c pc : Nat) (cp : Nat → Nat) (hok : WOk W) (hpl : p.length ≤ 1000000) (hpc : p.length ≤ pc) : Pu Try.prog 17 [.s 3 0 0 p.length pc 1, .p 2 0 0] [oNe 1 W.length (ix W) cp, oNf W.length (ix W), ⟨22, true, .st [.s 0 0 0 W.length c 1]⟩, rR p] (.t [.v (.int .i64 (sumI (sumR W p))), .v (.bool (sumR W p).isSome)]) := by
  have hlen := hok.len
  refine pu_of_ex true [] mixed Try.call17 Try.func17 rfl Try.ntmps17 Try.results17 (by decide +kernel) rfl rfl rfl ?_
  simp only [push_cast, ↓branch_true, ↓branch_false, Nat.reduceBEq, Nat.reduceAdd, Nat.reduceMul, Nat.reduceSub, Int.reduceToNat, reduceCtorEq, branch_decide, branch_not, branch_beq, branch_bne, Int.reduceAdd, Int.reduceEq, Int.reduceLE, Int.reduceLT, Nat.reduceLT, Nat.reduceLeDiff, false_imp_iff, true_imp_iff]
  refine ⟨fun h0 => ?_, fun h0 => ?_⟩
  rotate_left
  · have e : sumR W p = none := if_neg (by omega)
    rw [e]
    rfl
  have hpl2 : p.length = W.length := by omega
  have hR : sumR W p = sumK W p W.length := if_pos hpl2
  rw [hR]
  refine tr_loop0 mixed (by kernel_rfl) (fun (k : Nat) => [(15, .v (.int .i64 k)), (14, .v (.int .i64 p.length)), (13, .s 3 0 0 p.length pc 1), (5, .v (.int .i64 (sumI (sumK W p k)))), (0, .s 3 0 0 p.length pc 1), (1, .p 2 0 0)]) (fun k => k ≤ W.length ∧ (sumK W p k).isSome = true) (fun k => W.length - k) 0 ⟨Nat.zero_le _, rfl⟩ ?_ ?_
  · simp only [push_cast, ↓branch_true, ↓branch_false, Nat.reduceBEq, Nat.reduceAdd, Nat.reduceMul, Nat.reduceSub, Int.reduceToNat, reduceCtorEq, branch_decide, branch_not, branch_beq, branch_bne, Int.reduceAdd, Int.reduceEq, Int.reduceLE, Int.reduceLT, Nat.reduceLT, Nat.reduceLeDiff, false_imp_iff, true_imp_iff]
    try rfl
  rintro k ⟨k1, k2⟩
  simp only [push_cast, ↓branch_true, ↓branch_false, Nat.reduceBEq, Nat.reduceAdd, Nat.reduceMul, Nat.reduceSub, Int.reduceToNat, reduceCtorEq, branch_decide, branch_not, branch_beq, branch_bne, Int.reduceAdd, Int.reduceEq, Int.reduceLE, Int.reduceLT, Nat.reduceLT, Nat.reduceLeDiff, false_imp_iff, true_imp_iff]
  refine ⟨fun h1 => ?_, fun h1 => ?_⟩
  · have hk : k < W.length := by omega
    obtain ⟨m, hm⟩ := Option.isSome_iff_exists.1 k2
    have hmb := sumK_bnd hok k m (by omega) hm
    have hnx : sumK W p (k + 1) = if ix p k = -1 then some m else if badK W p k then none else some (m + ix (ix W k) (ix p k).toNat) := by
      rw [sumK, hm]
    have hstop := fun h => sumK_stop (p := p) hk h
    rw [hm]
    have e0 : sumI (some m) = m := rfl
    rw [e0]
    repeat (with_reducible refine And.intro (by omega) ?_)
    have hret : sumK W p (k + 1) = none → SV.t [SV.v (Value.int IntKind.i64 0), SV.v (Value.bool false)] = SV.t [SV.v (Value.int IntKind.i64 (sumI (sumK W p W.length))), SV.v (Value.bool (sumK W p W.length).isSome)] := fun h => by
      rw [hstop h]
      rfl
    refine ⟨fun h2 => ?_, fun h2 => ?_⟩
    · rw [if_pos h2] at hnx
      repeat (with_reducible refine And.intro (by omega) ?_)
      refine lp0_normal (k + 1) ⟨by omega, by rw [hnx]; rfl⟩ (by omega) ?_
      simp only [push_cast, ↓branch_true, ↓branch_false, Nat.reduceBEq, Nat.reduceAdd, Nat.reduceMul, Nat.reduceSub, Int.reduceToNat, reduceCtorEq, branch_decide, branch_not, branch_beq, branch_bne, Int.reduceAdd, Int.reduceEq, Int.reduceLE, Int.reduceLT, Nat.reduceLT, Nat.reduceLeDiff, false_imp_iff, true_imp_iff, hnx, e0]
    rw [if_neg h2] at hnx
    refine ⟨fun h3 => hret (by rw [hnx, if_pos (.inl h3)]), fun h3 => ?_⟩
    repeat (with_reducible refine And.intro (by omega) ?_)
    refine ⟨fun h4 => hret (by rw [hnx, if_pos (.inr (.inl (by omega)))]), fun h4 => ?_⟩
    repeat (with_reducible refine And.intro (by omega) ?_)
    refine ⟨fun h5 => hret (by rw [hnx, if_pos (.inr (.inr (.inl h5)))]), fun h5 => ?_⟩
    have htl : (p.take k).length = k := by simp; omega
    have hcp := contains_pu (p.take k) (ix p k) pc (by omega)
    rw [htl] at hcp
    repeat (with_reducible refine And.intro (by omega) ?_)
    rw [show k - 0 = k from Nat.sub_zero k, show pc - 0 = pc from Nat.sub_zero pc]
    refine sp_call hcp rfl [3] rfl ?_ ?_ ?_
    · simp only [push_cast, ↓branch_true, ↓branch_false, Nat.reduceBEq, Nat.reduceAdd, Nat.reduceMul, Nat.reduceSub, Int.reduceToNat, reduceCtorEq, branch_decide, branch_not, branch_beq, branch_bne, Int.reduceAdd, Int.reduceEq, Int.reduceLE, Int.reduceLT, Nat.reduceLT, Nat.reduceLeDiff, false_imp_iff, true_imp_iff]
      try trivial
    · simp only [push_cast, ↓branch_true, ↓branch_false, Nat.reduceBEq, Nat.reduceAdd, Nat.reduceMul, Nat.reduceSub, Int.reduceToNat, reduceCtorEq, branch_decide, branch_not, branch_beq, branch_bne, Int.reduceAdd, Int.reduceEq, Int.reduceLE, Int.reduceLT, Nat.reduceLT, Nat.reduceLeDiff, false_imp_iff, true_imp_iff, htl]
      exact fun _ _ => ⟨by omega, fun q hq => by rw [ix_take (by omega)]⟩
    simp only [push_cast, ↓branch_true, ↓branch_false, Nat.reduceBEq, Nat.reduceAdd, Nat.reduceMul, Nat.reduceSub, Int.reduceToNat, reduceCtorEq, branch_decide, branch_not, branch_beq, branch_bne, Int.reduceAdd, Int.reduceEq, Int.reduceLE, Int.reduceLT, Nat.reduceLT, Nat.reduceLeDiff, false_imp_iff, true_imp_iff]
    refine ⟨fun h6 => hret (by rw [hnx, if_pos (.inr (.inr (.inr h6)))]), fun h6 => ?_⟩
    have hnb : ¬ badK W p k := by
      unfold badK
      simp only [not_or]
      exact ⟨h3, by omega, h5, h6⟩
    rw [if_neg hnb] at hnx
    have hx := hok.small _ (ix_mem hk) _ (ix_mem (l := ix W k) (k := (ix p k).toNat) (by omega))
    repeat (with_reducible refine And.intro (by omega) ?_)
    refine lp0_normal (k + 1) ⟨by omega, by rw [hnx]; rfl⟩ (by omega) ?_
    simp only [push_cast, ↓branch_true, ↓branch_false, Nat.reduceBEq, Nat.reduceAdd, Nat.reduceMul, Nat.reduceSub, Int.reduceToNat, reduceCtorEq, branch_decide, branch_not, branch_beq, branch_bne, Int.reduceAdd, Int.reduceEq, Int.reduceLE, Int.reduceLT, Nat.reduceLT, Nat.reduceLeDiff, false_imp_iff, true_imp_iff, hnx]
    rfl
  · obtain rfl : k = W.length := by omega
    rw [k2]
set_option maxHeartbeats 2000000 in
theorem lheavy_sp (W : List (List Int)) (p : List Int) (c pc : Nat) (cp : Nat → Nat) (hl : W.length ≤ 9223372036854775807) (hpl : p.length ≤ 9223372036854775807) (hpc : p.length ≤ pc) : Sp Try.prog 4 [.s 0 0 0 W.length c 1, .s 2 0 0 p.length pc 1] [oNe 1 W.length (ix W) cp, oNf W.length (ix W), rR p] (fun r H => r = .v (.bool true)) := by
  refine sp_of_ex true [] mixed Try.call4 Try.func4 rfl Try.ntmps4 Try.results4 (by decide +kernel) rfl ?_
  simp only [push_cast, ↓branch_true, ↓branch_false, Nat.reduceBEq, Nat.reduceAdd, Nat.reduceMul, Nat.reduceSub, Int.reduceToNat, reduceCtorEq, branch_decide, branch_not, branch_beq, branch_bne, Int.reduceAdd, Int.reduceEq, Int.reduceLE, Int.reduceLT, Nat.reduceLT, Nat.reduceLeDiff, false_imp_iff, true_imp_iff]
  refine sp_at awake_sp [] rfl ?_ ?_ ?_
  · simp only [push_cast, ↓branch_true, ↓branch_false, Nat.reduceBEq, Nat.reduceAdd, Nat.reduceMul, Nat.reduceSub, Int.reduceToNat, reduceCtorEq, branch_decide, branch_not, branch_beq, branch_bne, Int.reduceAdd, Int.reduceEq, Int.reduceLE, Int.reduceLT, Nat.reduceLT, Nat.reduceLeDiff, false_imp_iff, true_imp_iff]
  · simp only [push_cast, ↓branch_true, ↓branch_false, Nat.reduceBEq, Nat.reduceAdd, Nat.reduceMul, Nat.reduceSub, Int.reduceToNat, reduceCtorEq, branch_decide, branch_not, branch_beq, branch_bne, Int.reduceAdd, Int.reduceEq, Int.reduceLE, Int.reduceLT, Nat.reduceLT, Nat.reduceLeDiff, false_imp_iff, true_imp_iff]
  rintro _ _ ⟨rfl, rfl⟩
  simp only [push_cast, ↓branch_true, ↓branch_false, Nat.reduceBEq, Nat.reduceAdd, Nat.reduceMul, Nat.reduceSub, Int.reduceToNat, reduceCtorEq, branch_decide, branch_not, branch_beq, branch_bne, Int.reduceAdd, Int.reduceEq, Int.reduceLE, Int.reduceLT, Nat.reduceLT, Nat.reduceLeDiff, false_imp_iff, true_imp_iff]
  intro h1 h2
  refine sp_call (containsL_pu W.length c (ix W) cp 16 [] [] [] (fun k => decide ((ix W k).length > 8)) rfl (by omega) fun k hk => h1_pu _ _ cp k hk) rfl [0, 1] rfl ?_ ?_ ?_
  · simp only [push_cast, ↓branch_true, ↓branch_false, Nat.reduceBEq, Nat.reduceAdd, Nat.reduceMul, Nat.reduceSub, Int.reduceToNat, reduceCtorEq, branch_decide, branch_not, branch_beq, branch_bne, Int.reduceAdd, Int.reduceEq, Int.reduceLE, Int.reduceLT, Nat.reduceLT, Nat.reduceLeDiff, false_imp_iff, true_imp_iff]
  · simp only [push_cast, ↓branch_true, ↓branch_false, Nat.reduceBEq, Nat.reduceAdd, Nat.reduceMul, Nat.reduceSub, Int.reduceToNat, reduceCtorEq, branch_decide, branch_not, branch_beq, branch_bne, Int.reduceAdd, Int.reduceEq, Int.reduceLE, Int.reduceLT, Nat.reduceLT, Nat.reduceLeDiff, false_imp_iff, true_imp_iff]
  rw [any_rng W fun r => decide (r.length > 8)]
  cases hb1 : W.any fun r => decide (r.length > 8) with
  | true =>
    simp only [push_cast, ↓branch_true, ↓branch_false, Nat.reduceBEq, Nat.reduceAdd, Nat.reduceMul, Nat.reduceSub, Int.reduceToNat, reduceCtorEq, branch_decide, branch_not, branch_beq, branch_bne, Int.reduceAdd, Int.reduceEq, Int.reduceLE, Int.reduceLT, Nat.reduceLT, Nat.reduceLeDiff, false_imp_iff, true_imp_iff]
  | false =>
  have hr : ∀ i, (ix W i).length ≤ 1000 := fun i => Nat.le_trans (rows_le hb1 i) (by decide)
  have hol := wOut_len W
  simp only [push_cast, ↓branch_true, ↓branch_false, Nat.reduceBEq, Nat.reduceAdd, Nat.reduceMul, Nat.reduceSub, Int.reduceToNat, reduceCtorEq, branch_decide, branch_not, branch_beq, branch_bne, Int.reduceAdd, Int.reduceEq, Int.reduceLE, Int.reduceLT, Nat.reduceLT, Nat.reduceLeDiff, false_imp_iff, true_imp_iff]
  refine sp_at (heavy_sp W c cp (by omega) hr) [0, 1] rfl ?_ ?_ ?_
  · simp only [push_cast, ↓branch_true, ↓branch_false, Nat.reduceBEq, Nat.reduceAdd, Nat.reduceMul, Nat.reduceSub, Int.reduceToNat, reduceCtorEq, branch_decide, branch_not, branch_beq, branch_bne, Int.reduceAdd, Int.reduceEq, Int.reduceLE, Int.reduceLT, Nat.reduceLT, Nat.reduceLeDiff, false_imp_iff, true_imp_iff]
  · simp only [push_cast, ↓branch_true, ↓branch_false, Nat.reduceBEq, Nat.reduceAdd, Nat.reduceMul, Nat.reduceSub, Int.reduceToNat, reduceCtorEq, branch_decide, branch_not, branch_beq, branch_bne, Int.reduceAdd, Int.reduceEq, Int.reduceLE, Int.reduceLT, Nat.reduceLT, Nat.reduceLeDiff, false_imp_iff, true_imp_iff]
  rintro _ _ ⟨c1, hc1, rfl, rfl⟩
  simp only [push_cast, ↓branch_true, ↓branch_false, Nat.reduceBEq, Nat.reduceAdd, Nat.reduceMul, Nat.reduceSub, Int.reduceToNat, reduceCtorEq, branch_decide, branch_not, branch_beq, branch_bne, Int.reduceAdd, Int.reduceEq, Int.reduceLE, Int.reduceLT, Nat.reduceLT, Nat.reduceLeDiff, false_imp_iff, true_imp_iff]
  refine ⟨fun h3 => ?_, fun h3 => ?_⟩
  rotate_left
  · have e1 : wOut W = [] := if_neg h3
    have e2 : wSum W = 0 := if_neg h3
    rw [e1, e2]
    exact ⟨fun _ => rfl, fun h => absurd rfl h⟩
  have hok := wok_of h3
  have e1 : wOut W = hpick W 0 := if_pos h3
  have e2 : wSum W = bst W 0 := if_pos h3
  have hown := sum_own W
  have hoth := fun n h => sum_other (W := W) (p := p) (n := n) h
  rw [e1] at hc1 hol ⊢
  rw [e2]
  refine sp_call (sum_pu W (hpick W 0) c c1 cp hok (by omega) hc1) rfl [0, 1, 3, 4] rfl ?_ ?_ ?_
  · simp only [push_cast, ↓branch_true, ↓branch_false, Nat.reduceBEq, Nat.reduceAdd, Nat.reduceMul, Nat.reduceSub, Int.reduceToNat, reduceCtorEq, branch_decide, branch_not, branch_beq, branch_bne, Int.reduceAdd, Int.reduceEq, Int.reduceLE, Int.reduceLT, Nat.reduceLT, Nat.reduceLeDiff, false_imp_iff, true_imp_iff]
    try trivial
  · simp only [push_cast, ↓branch_true, ↓branch_false, Nat.reduceBEq, Nat.reduceAdd, Nat.reduceMul, Nat.reduceSub, Int.reduceToNat, reduceCtorEq, branch_decide, branch_not, branch_beq, branch_bne, Int.reduceAdd, Int.reduceEq, Int.reduceLE, Int.reduceLT, Nat.reduceLT, Nat.reduceLeDiff, false_imp_iff, true_imp_iff]
    try trivial
  rw [hown]
  have e3 : sumI (some (bst W 0)) = bst W 0 := rfl
  rw [e3]
  simp only [push_cast, ↓branch_true, ↓branch_false, Nat.reduceBEq, Nat.reduceAdd, Nat.reduceMul, Nat.reduceSub, Int.reduceToNat, reduceCtorEq, branch_decide, branch_not, branch_beq, branch_bne, Int.reduceAdd, Int.reduceEq, Int.reduceLE, Int.reduceLT, Nat.reduceLT, Nat.reduceLeDiff, false_imp_iff, true_imp_iff]
  refine sp_call (sum_pu W p c pc cp hok (by omega) hpc) rfl [0, 1, 3, 2] rfl ?_ ?_ ?_
  · simp only [push_cast, ↓branch_true, ↓branch_false, Nat.reduceBEq, Nat.reduceAdd, Nat.reduceMul, Nat.reduceSub, Int.reduceToNat, reduceCtorEq, branch_decide, branch_not, branch_beq, branch_bne, Int.reduceAdd, Int.reduceEq, Int.reduceLE, Int.reduceLT, Nat.reduceLT, Nat.reduceLeDiff, false_imp_iff, true_imp_iff]
    try trivial
  · simp only [push_cast, ↓branch_true, ↓branch_false, Nat.reduceBEq, Nat.reduceAdd, Nat.reduceMul, Nat.reduceSub, Int.reduceToNat, reduceCtorEq, branch_decide, branch_not, branch_beq, branch_bne, Int.reduceAdd, Int.reduceEq, Int.reduceLE, Int.reduceLT, Nat.reduceLT, Nat.reduceLeDiff, false_imp_iff, true_imp_iff]
    try trivial
  cases ho : sumR W p with
  | none =>
    simp only [push_cast, ↓branch_true, ↓branch_false, Nat.reduceBEq, Nat.reduceAdd, Nat.reduceMul, Nat.reduceSub, Int.reduceToNat, reduceCtorEq, branch_decide, branch_not, branch_beq, branch_bne, Int.reduceAdd, Int.reduceEq, Int.reduceLE, Int.reduceLT, Nat.reduceLT, Nat.reduceLeDiff, false_imp_iff, true_imp_iff]
    try rfl
  | some n =>
    have := hoth n ho
    have e4 : sumI (some n) = n := rfl
    rw [e4]
    simp only [push_cast, ↓branch_true, ↓branch_false, Nat.reduceBEq, Nat.reduceAdd, Nat.reduceMul, Nat.reduceSub, Int.reduceToNat, reduceCtorEq, branch_decide, branch_not, branch_beq, branch_bne, Int.reduceAdd, Int.reduceEq, Int.reduceLE, Int.reduceLT, Nat.reduceLT, Nat.reduceLeDiff, false_imp_iff, true_imp_iff]
    exact vb (decide_eq_true this)
end Go.Proofs.Ytmmabnoemckdiaa
