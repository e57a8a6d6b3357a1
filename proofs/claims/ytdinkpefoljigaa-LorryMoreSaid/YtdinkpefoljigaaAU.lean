/- LorryMore: the walk. -/
import Derived.Test.YtdinkpefoljigaaAT
set_option maxRecDepth 100000
set_option linter.unusedSimpArgs false
set_option linter.unusedVariables false
namespace Go.Proofs.Ytdinkpefoljigaa
open Go.RowKit
set_option maxHeartbeats 4000000 in
theorem lmore_sp (l : List Bun) (most ma mo : Int) (c : Nat) (hs : strOk l) (hl : l.length ≤ 9223372036854775807) (hma : 0 ≤ ma ∧ ma ≤ 4294967295) (hmo : 0 ≤ mo ∧ mo ≤ 4294967295) : Sp Try.prog 7 [.s 0 0 0 l.length c 4, .v (.int .i64 most), .v (.int .u32 ma), .v (.int .u32 mo)] [rB l] (fun r _ => r = .v (.bool true)) := by
  refine sp_of_ex true [(12, .one 0 (.one 2 (.one 3 (.one 4 (.one 5 (.one 6 (.one 7 (.alt [(1, .one 8 (.one 9 (.one 10 .fin))), (8, .one 1 (.one 9 (.one 10 .fin)))]))))))))] mixed Try.call7 Try.func7 rfl Try.ntmps7 Try.results7 (by decide +kernel) rfl ?_
  simp only [push_cast, ↓branch_true, ↓branch_false, Nat.reduceBEq, Nat.reduceAdd, Nat.reduceMul, Nat.reduceSub, Int.reduceToNat, reduceCtorEq, branch_decide, branch_not, branch_beq, branch_bne]
  refine sp_at awake_sp [] rfl ?_ ?_ ?_
  · simp only [push_cast, ↓branch_true, ↓branch_false, Nat.reduceBEq, Nat.reduceAdd, Nat.reduceMul, Nat.reduceSub, Int.reduceToNat, reduceCtorEq, branch_decide, branch_not, branch_beq, branch_bne]
  · simp only [push_cast, ↓branch_true, ↓branch_false, Nat.reduceBEq, Nat.reduceAdd, Nat.reduceMul, Nat.reduceSub, Int.reduceToNat, reduceCtorEq, branch_decide, branch_not, branch_beq, branch_bne]
  rintro _ _ ⟨rfl, rfl⟩
  simp only [push_cast, ↓branch_true, ↓branch_false, Nat.reduceBEq, Nat.reduceAdd, Nat.reduceMul, Nat.reduceSub, Int.reduceToNat, reduceCtorEq, branch_decide, branch_not, branch_beq, branch_bne]
  refine sp_call (many_pu l [] c 0 0 (fun _ => 0) hl (by decide)) rfl [0, 1, 2] rfl ?_ ?_ ?_
  · simp only [push_cast, ↓branch_true, ↓branch_false, Nat.reduceBEq, Nat.reduceAdd, Nat.reduceMul, Nat.reduceSub, Int.reduceToNat, reduceCtorEq, branch_decide, branch_not, branch_beq, branch_bne]
  · simp only [push_cast, ↓branch_true, ↓branch_false, Nat.reduceBEq, Nat.reduceAdd, Nat.reduceMul, Nat.reduceSub, Int.reduceToNat, reduceCtorEq, branch_decide, branch_not, branch_beq, branch_bne]
    omega
  simp only [push_cast, ↓branch_true, ↓branch_false, Nat.reduceBEq, Nat.reduceAdd, Nat.reduceMul, Nat.reduceSub, Int.reduceToNat, reduceCtorEq, branch_decide, branch_not, branch_beq, branch_bne]
  cases hm : manyB l [] with
  | true =>
    simp only [push_cast, ↓branch_true, ↓branch_false, Nat.reduceBEq, Nat.reduceAdd, Nat.reduceMul, Nat.reduceSub, Int.reduceToNat, reduceCtorEq, branch_decide, branch_not, branch_beq, branch_bne]
  | false =>
  simp only [push_cast, ↓branch_true, ↓branch_false, Nat.reduceBEq, Nat.reduceAdd, Nat.reduceMul, Nat.reduceSub, Int.reduceToNat, reduceCtorEq, branch_decide, branch_not, branch_beq, branch_bne]
  intro h6
  refine sp_call (rgiven_pu l most c hs hl) rfl [0] rfl ?_ ?_ ?_
  · simp only [push_cast, ↓branch_true, ↓branch_false, Nat.reduceBEq, Nat.reduceAdd, Nat.reduceMul, Nat.reduceSub, Int.reduceToNat, reduceCtorEq, branch_decide, branch_not, branch_beq, branch_bne]
  · simp only [push_cast, ↓branch_true, ↓branch_false, Nat.reduceBEq, Nat.reduceAdd, Nat.reduceMul, Nat.reduceSub, Int.reduceToNat, reduceCtorEq, branch_decide, branch_not, branch_beq, branch_bne]
  simp only [push_cast, ↓branch_true, ↓branch_false, Nat.reduceBEq, Nat.reduceAdd, Nat.reduceMul, Nat.reduceSub, Int.reduceToNat, reduceCtorEq, branch_decide, branch_not, branch_beq, branch_bne]
  intro he
  have hE := leastE_7 he (by omega)
  obtain ⟨e1, hR⟩ := least_is hE
  obtain ⟨hv, hm1, hm2, hm3⟩ := errG_ok he
  refine sp_at (least_sp l most c hs hl) [0] rfl ?_ ?_ ?_
  · simp only [push_cast, ↓branch_true, ↓branch_false, Nat.reduceBEq, Nat.reduceAdd, Nat.reduceMul, Nat.reduceSub, Int.reduceToNat, reduceCtorEq, branch_decide, branch_not, branch_beq, branch_bne]
  · simp only [push_cast, ↓branch_true, ↓branch_false, Nat.reduceBEq, Nat.reduceAdd, Nat.reduceMul, Nat.reduceSub, Int.reduceToNat, reduceCtorEq, branch_decide, branch_not, branch_beq, branch_bne]
  rintro _ _ ⟨t, bc, g1, g2, g3, rfl, rfl⟩
  simp only [push_cast, ↓branch_true, ↓branch_false, Nat.reduceBEq, Nat.reduceAdd, Nat.reduceMul, Nat.reduceSub, Int.reduceToNat, reduceCtorEq, branch_decide, branch_not, branch_beq, branch_bne]
  refine sp_at (cloneB_sp l c (by omega)) [0] rfl ?_ ?_ ?_
  · simp only [push_cast, ↓branch_true, ↓branch_false, Nat.reduceBEq, Nat.reduceAdd, Nat.reduceMul, Nat.reduceSub, Int.reduceToNat, reduceCtorEq, branch_decide, branch_not, branch_beq, branch_bne]
  · simp only [push_cast, ↓branch_true, ↓branch_false, Nat.reduceBEq, Nat.reduceAdd, Nat.reduceMul, Nat.reduceSub, Int.reduceToNat, reduceCtorEq, branch_decide, branch_not, branch_beq, branch_bne]
  rintro _ _ ⟨cap, hcap, rfl, rfl⟩
  simp only [push_cast, ↓branch_true, ↓branch_false, Nat.reduceBEq, Nat.reduceAdd, Nat.reduceMul, Nat.reduceSub, Int.reduceToNat, reduceCtorEq, branch_decide, branch_not, branch_beq, branch_bne]
  refine sp_at (revB_sp l cap (by omega) hcap) [3] rfl ?_ ?_ ?_
  · simp only [push_cast, ↓branch_true, ↓branch_false, Nat.reduceBEq, Nat.reduceAdd, Nat.reduceMul, Nat.reduceSub, Int.reduceToNat, reduceCtorEq, branch_decide, branch_not, branch_beq, branch_bne]
  · simp only [push_cast, ↓branch_true, ↓branch_false, Nat.reduceBEq, Nat.reduceAdd, Nat.reduceMul, Nat.reduceSub, Int.reduceToNat, reduceCtorEq, branch_decide, branch_not, branch_beq, branch_bne]
  rintro _ _ ⟨rfl, rfl⟩
  simp only [push_cast, ↓branch_true, ↓branch_false, Nat.reduceBEq, Nat.reduceAdd, Nat.reduceMul, Nat.reduceSub, Int.reduceToNat, reduceCtorEq, branch_decide, branch_not, branch_beq, branch_bne]
  have hlr : l.reverse.length = l.length := List.length_reverse
  have her := errG_zero (vB_rev hv) hm1 hm2 (fun k hk => by rw [ix_revB (by omega)]; exact hm3 _ (by omega))
  have hEr := leastE_7 her (by omega)
  obtain ⟨e2, _⟩ := least_is hEr
  rw [optL_rev hv hm3] at e2
  have hls := least_sp l.reverse most cap (strOk_rev hs) (by omega)
  rw [hlr] at hls
  refine sp_at hls [3] rfl ?_ ?_ ?_
  · simp only [push_cast, ↓branch_true, ↓branch_false, Nat.reduceBEq, Nat.reduceAdd, Nat.reduceMul, Nat.reduceSub, Int.reduceToNat, reduceCtorEq, branch_decide, branch_not, branch_beq, branch_bne]
  · simp only [push_cast, ↓branch_true, ↓branch_false, Nat.reduceBEq, Nat.reduceAdd, Nat.reduceMul, Nat.reduceSub, Int.reduceToNat, reduceCtorEq, branch_decide, branch_not, branch_beq, branch_bne, hlr]
  rintro _ _ ⟨t2, bc2, g4, g5, g6, rfl, rfl⟩
  simp only [push_cast, ↓branch_true, ↓branch_false, Nat.reduceBEq, Nat.reduceAdd, Nat.reduceMul, Nat.reduceSub, Int.reduceToNat, reduceCtorEq, branch_decide, branch_not, branch_beq, branch_bne]
  repeat (with_reducible refine And.intro (by omega) ?_)
  obtain ⟨lm, hlm⟩ : ∃ lm, lm = min 1099511627776 (most + mo) := ⟨_, rfl⟩
  rw [← hlm]
  have hlm1 : most ≤ lm ∧ lm ≤ 1099511627776 := by omega
  clear hlm
  have hel := errG_zero hv (by omega) hlm1.2 (fun k hk => Int.le_trans (hm3 k hk) hlm1.1)
  have hEl := leastE_7 hel (by omega)
  obtain ⟨e3, _⟩ := least_is hEl
  have hj := optL_lim hv hm3 hlm1.1
  refine sp_at (least_sp l lm c hs hl) [0] rfl ?_ ?_ ?_
  · simp only [push_cast, ↓branch_true, ↓branch_false, Nat.reduceBEq, Nat.reduceAdd, Nat.reduceMul, Nat.reduceSub, Int.reduceToNat, reduceCtorEq, branch_decide, branch_not, branch_beq, branch_bne]
  · simp only [push_cast, ↓branch_true, ↓branch_false, Nat.reduceBEq, Nat.reduceAdd, Nat.reduceMul, Nat.reduceSub, Int.reduceToNat, reduceCtorEq, branch_decide, branch_not, branch_beq, branch_bne]
  rintro _ _ ⟨t3, bc3, g7, g8, g9, rfl, rfl⟩
  simp only [push_cast, ↓branch_true, ↓branch_false, Nat.reduceBEq, Nat.reduceAdd, Nat.reduceMul, Nat.reduceSub, Int.reduceToNat, reduceCtorEq, branch_decide, branch_not, branch_beq, branch_bne]
  rw [hE, hEr, hEl, e1, e2, e3]
  refine ⟨fun _ => ⟨fun _ => ⟨fun _ => ⟨fun _ => ⟨fun h => by omega, fun _ => ?_⟩, fun h => absurd rfl h⟩, fun h => absurd rfl h⟩, fun h => absurd rfl h⟩, fun h => absurd rfl h⟩
  repeat (with_reducible refine And.intro (by omega) ?_)
  obtain ⟨x, hx⟩ : ∃ x : Bun, x = ⟨⟨#[122, 122]⟩, ⟨#[109]⟩, 1, ma.tmod (most + 1)⟩ := ⟨_, rfl⟩
  have hxm : 0 ≤ x.mass ∧ x.mass ≤ most := by
    rw [hx]
    have q1 := Int.tmod_nonneg (a := ma) (most + 1) hma.1
    have q2 := Int.tmod_lt_of_pos ma (b := most + 1) (by omega)
    show 0 ≤ ma.tmod (most + 1) ∧ ma.tmod (most + 1) ≤ most
    exact ⟨q1, by omega⟩
  have hxs : strOk (l ++ [x]) := strOk_app hs (by rw [hx]; exact ⟨by show ByteArray.size ⟨#[122, 122]⟩ ≤ _; decide, by show ByteArray.size ⟨#[109]⟩ ≤ _; decide⟩)
  have hln : (l ++ [x]).length = l.length + 1 := by simp
  repeat' (with_reducible (first | apply And.intro | intro _))
  all_goals try omega
  all_goals
    refine sp_at (cloneB_sp l c (by omega)) [0] rfl ?_ ?_ ?_
    · simp only [push_cast, ↓branch_true, ↓branch_false, Nat.reduceBEq, Nat.reduceAdd, Nat.reduceMul, Nat.reduceSub, Int.reduceToNat, reduceCtorEq, branch_decide, branch_not, branch_beq, branch_bne]
    · simp only [push_cast, ↓branch_true, ↓branch_false, Nat.reduceBEq, Nat.reduceAdd, Nat.reduceMul, Nat.reduceSub, Int.reduceToNat, reduceCtorEq, branch_decide, branch_not, branch_beq, branch_bne]
    rintro _ _ ⟨cap2, hcap2, rfl, rfl⟩
    simp only [push_cast, ↓branch_true, ↓branch_false, Nat.reduceBEq, Nat.reduceAdd, Nat.reduceMul, Nat.reduceSub, Int.reduceToNat, reduceCtorEq, branch_decide, branch_not, branch_beq, branch_bne]
    repeat (with_reducible refine And.intro (by omega) ?_)
    refine Or.inr ?_
    repeat (with_reducible refine And.intro (by omega) ?_)
    intro c5 hc5
    have hlx := least_sp (l ++ [x]) most c5 hxs (by omega)
    rw [hln] at hlx
    refine sp_at hlx [10] rfl ?_ ?_ ?_
    · simp only [push_cast, ↓branch_true, ↓branch_false, Nat.reduceBEq, Nat.reduceAdd, Nat.reduceMul, Nat.reduceSub, Int.reduceToNat, reduceCtorEq, branch_decide, branch_not, branch_beq, branch_bne]
    · simp only [push_cast, ↓branch_true, ↓branch_false, Nat.reduceBEq, Nat.reduceAdd, Nat.reduceMul, Nat.reduceSub, Int.reduceToNat, reduceCtorEq, branch_decide, branch_not, branch_beq, branch_bne, hln]
      intro i1 hi1 q hq
      by_cases e : q < l.length
      · have hb : decide (q < l.length) = true := by simpa using e
        rw [ix_app_ne (by omega), hb]
        exact ⟨rfl, rfl, rfl, rfl, trivial⟩
      · obtain rfl : q = l.length := by omega
        have hb : decide (l.length < l.length) = false := by simp
        rw [ix_app_last, hb, hx]
        exact ⟨rfl, rfl, rfl, rfl, trivial⟩
    rintro _ _ ⟨t4, bc4, k1, k2, k3, rfl, rfl⟩
    simp only [push_cast, ↓branch_true, ↓branch_false, Nat.reduceBEq, Nat.reduceAdd, Nat.reduceMul, Nat.reduceSub, Int.reduceToNat, reduceCtorEq, branch_decide, branch_not, branch_beq, branch_bne]
    cases hvx : vB (l ++ [x]) with
    | false =>
      have ex : errG (l ++ [x]) most = 1 := if_pos hvx
      have ex2 : leastE (l ++ [x]) most = 1 := by rw [leastE, if_pos (by rw [ex]; decide), ex]
      rw [ex2]
      refine ⟨fun _ => ?_, fun h => absurd rfl h⟩
      have hvp := valid_pu (l ++ [x]) c5 hxs (by omega)
      rw [hln, hvx] at hvp
      refine sp_call hvp rfl [10] rfl ?_ ?_ ?_
      · simp only [push_cast, ↓branch_true, ↓branch_false, Nat.reduceBEq, Nat.reduceAdd, Nat.reduceMul, Nat.reduceSub, Int.reduceToNat, reduceCtorEq, branch_decide, branch_not, branch_beq, branch_bne]
      · simp only [push_cast, ↓branch_true, ↓branch_false, Nat.reduceBEq, Nat.reduceAdd, Nat.reduceMul, Nat.reduceSub, Int.reduceToNat, reduceCtorEq, branch_decide, branch_not, branch_beq, branch_bne, hln]
      simp only [push_cast, ↓branch_true, ↓branch_false, Nat.reduceBEq, Nat.reduceAdd, Nat.reduceMul, Nat.reduceSub, Int.reduceToNat, reduceCtorEq, branch_decide, branch_not, branch_beq, branch_bne]
    | true =>
      have ex := errG_zero hvx hm1 hm2 (fun k hk => by
        by_cases e : k < l.length
        · rw [ix_app_ne (by omega)]; exact hm3 k e
        · obtain rfl : k = l.length := by omega
          rw [ix_app_last]; exact hxm.2)
      have ex2 := leastE_7 ex (by omega)
      obtain ⟨e4, _⟩ := least_is ex2
      have h7 := optL_app hv hm3 hxm
      rw [ex2, e4]
      refine ⟨fun h => absurd h (by decide), fun _ => ⟨fun _ => ?_, fun h => absurd rfl h⟩⟩
      rw [e1] at g3
      refine ⟨fun _ => ⟨⟨by omega, by omega⟩, ?_⟩, fun h => absurd (by omega) h⟩
      rw [decide_eq_true (by omega)]
end Go.Proofs.Ytdinkpefoljigaa
