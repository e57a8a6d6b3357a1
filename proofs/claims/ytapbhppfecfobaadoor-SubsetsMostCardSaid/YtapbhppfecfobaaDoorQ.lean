/- Contracts of the reference: Counts. -/
import Derived.Test.YtapbhppfecfobaaDoorO
import Derived.Test.YtapbhppfecfobaaDoorL
set_option maxRecDepth 100000
set_option linter.unusedSimpArgs false
set_option linter.unusedVariables false
namespace Go.Proofs.YtapbhppfecfobaaDoor
open Go.RowKit
def cntL (l : List Int) (k : Nat) : List Int := (List.range k).map (cntV l)
theorem cntL_len (l : List Int) (k : Nat) : (cntL l k).length = k := by simp [cntL]
theorem cntL_ix (l : List Int) {k i : Nat} (h : i < k) : ix (cntL l k) i = cntV l i := by
  rw [ix_eq (by rw [cntL_len]; exact h)]; simp [cntL]
theorem cntL_succ (l : List Int) (k : Nat) : cntL l (k + 1) = cntL l k ++ [cntV l k] := by
  simp [cntL, List.range_succ]
theorem cntV_le {l : List Int} {i : Nat} (h : i < 65536) : -1 ≤ cntV l i ∧ cntV l i ≤ 65536 := by
  have h1 := most_nn l h
  have h2 := most_le (l := l) i h
  unfold cntV
  split <;> omega
theorem i64_negN {k : Nat} (h0 : 0 < k) (h : k < 65536) : IntKind.i64.wrap (((BitVec.ofInt IntKind.i64.bits (k : Int) &&& BitVec.ofInt IntKind.i64.bits (0 - (k : Int))).toNat : Nat) : Int) = ((2 ^ tzN k : Nat) : Int) := by
  show IntKind.i64.wrap (((BitVec.ofInt 64 (k : Int) &&& BitVec.ofInt 64 (0 - (k : Int))).toNat : Nat) : Int) = ((2 ^ tzN k : Nat) : Int)
  have e : BitVec.ofInt 64 (0 - (k : Int)) = BitVec.ofInt 64 ((18446744073709551616 - k : Nat) : Int) := by
    refine BitVec.eq_of_toNat_eq ?_
    rw [BitVec.toNat_ofInt, BitVec.toNat_ofInt]
    omega
  have h2 := and_neg64 h0 h
  have hp : 2 ^ tzN k ≤ k := by rw [← h2]; exact Nat.and_le_left
  rw [e, BitVec.toNat_and, BitVec.ofInt_natCast, BitVec.ofInt_natCast, BitVec.toNat_ofNat, BitVec.toNat_ofNat, Nat.mod_eq_of_lt (by omega), Nat.mod_eq_of_lt (by omega), h2, IntKind.wrap_i64]
  omega
set_option maxHeartbeats 1000000 in
theorem counts_sp (l : List Int) (c : Nat) (hl : l.length ≤ 16) (hx : ∀ x ∈ l, -1125899906842624 ≤ x ∧ x ≤ 1125899906842624) :
    Sp Tryd.prog 52 [.s 0 0 0 l.length c 1] [rR l] (fun r H => ∃ cap, 2 ^ l.length ≤ cap ∧ r = .s 1 0 0 (2 ^ l.length) cap 1 ∧ H = [rR l, rIO (cntL l (2 ^ l.length)) cap]) := by
  have hp : 2 ^ l.length ≤ 2 ^ 16 := Nat.pow_le_pow_right (by decide) hl
  have hp0 : 0 < 2 ^ l.length := Nat.two_pow_pos _
  have hN := two_shl hl
  refine sp_weak ?_
  refine sp_of_ex true [] mixed Tryd.call52 Tryd.func52 rfl Tryd.ntmps52 Tryd.results52 (by decide +kernel) rfl ?_
  simp only [push_cast, ↓branch_true, ↓branch_false, Nat.reduceBEq, Nat.reduceAdd, Nat.reduceMul, Nat.reduceSub, Int.reduceToNat, reduceCtorEq, branch_decide, branch_not, branch_beq, branch_bne]
  repeat (with_reducible refine And.intro (by omega) ?_)
  refine tr_loop mixed (by kernel_rfl) (fun (x : Nat × Nat) => [(0, .s 0 0 0 l.length c 1), (3, .s 1 0 0 x.1 x.2 1), (4, .v (.int .i64 x.1))]) (fun x => [rR l, rIO (cntL l x.1) x.2]) (fun x => 1 ≤ x.1 ∧ x.1 ≤ 2 ^ l.length ∧ x.1 ≤ x.2) (fun x => 2 ^ l.length - x.1) (1, 1) ⟨Nat.le_refl _, by omega, Nat.le_refl _⟩ (Mt.wk (rl := [0, 1]) ⟨by kernel_rfl, ?_, ?_⟩) ?_
  · simp only [push_cast, ↓branch_true, ↓branch_false, Nat.reduceBEq, Nat.reduceAdd, Nat.reduceMul, Nat.reduceSub, Int.reduceToNat, reduceCtorEq, branch_decide, branch_not, branch_beq, branch_bne]
    try rfl
  · simp only [push_cast, ↓branch_true, ↓branch_false, Nat.reduceBEq, Nat.reduceAdd, Nat.reduceMul, Nat.reduceSub, Int.reduceToNat, reduceCtorEq, branch_decide, branch_not, branch_beq, branch_bne, cntL_len]
    intro _ _ q hq
    obtain rfl : q = 0 := by omega
    simp only [push_cast, ↓branch_true, ↓branch_false, Nat.reduceBEq, Nat.reduceAdd, Nat.reduceMul, Nat.reduceSub, Int.reduceToNat, reduceCtorEq, branch_decide, branch_not, branch_beq, branch_bne]
    rw [cntL_ix l (by omega), show cntV l 0 = 0 from by rw [cntV, sumS_zero, if_pos rfl, most_zero]]
  rintro ⟨k, oc⟩ ⟨g1, g2, g3⟩
  simp only at g1 g2 g3
  simp only [push_cast, ↓branch_true, ↓branch_false, Nat.reduceBEq, Nat.reduceAdd, Nat.reduceMul, Nat.reduceSub, Int.reduceToNat, reduceCtorEq, branch_decide, branch_not, branch_beq, branch_bne, cntL_len]
  refine ⟨by omega, ?_⟩
  rw [hN]
  refine ⟨by omega, by omega, fun h => ?_, fun h => ?_⟩
  rotate_left
  · obtain rfl : k = 2 ^ l.length := by omega
    refine ⟨_, _, [0, 1], ?_, by kernel_rfl, ?_, oc, g3, rfl, rfl⟩
    · simp only [push_cast, ↓branch_true, ↓branch_false, Nat.reduceBEq, Nat.reduceAdd, Nat.reduceMul, Nat.reduceSub, Int.reduceToNat, reduceCtorEq, branch_decide, branch_not, branch_beq, branch_bne]
    · simp only [push_cast, ↓branch_true, ↓branch_false, Nat.reduceBEq, Nat.reduceAdd, Nat.reduceMul, Nat.reduceSub, Int.reduceToNat, reduceCtorEq, branch_decide, branch_not, branch_beq, branch_bne, cntL_len]
  have hk2 : k < 2 ^ l.length := by omega
  have hk3 : k < 65536 := by omega
  have hcl := cntL_len l k
  rw [i64_negN (by omega) hk3]
  have htz := (tz_bit (show 0 < k by omega) hk3).1
  have hlow := (bit_one htz).le
  have hand : ∀ s : Nat, s < 65536 → (IntKind.i64.wrap (((BitVec.ofInt IntKind.i64.bits (s : Int) &&& BitVec.ofInt IntKind.i64.bits ((2 ^ tzN k : Nat) : Int)).toNat : Nat) : Int) = 0) = (s.testBit (tzN k) = false) := fun s hs => by
    rw [i64_and (by omega) (by omega)]
    refine propext ⟨fun h => ?_, fun h => ?_⟩
    · have h2 : s &&& 2 ^ tzN k = 0 := by omega
      have h3 := congrArg (fun x => x.testBit (tzN k)) h2
      simpa using h3
    · rw [show s &&& 2 ^ tzN k = 0 from Nat.eq_of_testBit_eq fun i => by
        rw [Nat.testBit_and, Nat.testBit_two_pow, Nat.zero_testBit]
        by_cases e : tzN k = i
        · subst e; simp [h]
        · simp [e]]
      rfl
  have hnxt : ∀ s : Nat, 0 < s → s < 65536 → IntKind.i64.wrap (((BitVec.ofInt IntKind.i64.bits ((s : Int) - 1) &&& BitVec.ofInt IntKind.i64.bits (k : Int)).toNat : Nat) : Int) = (((s - 1) &&& k : Nat) : Int) := fun s h h' => by
    rw [show (s : Int) - 1 = ((s - 1 : Nat) : Int) by omega, i64_and (by omega) (by omega)]
  have hce := @cnt_end l k
  have hsu := cntL_succ l k
  generalize hLO : 2 ^ tzN k = LO at *
  repeat (with_reducible refine And.intro (by omega) ?_)
  refine tr_loop0 mixed (by kernel_rfl) (fun (y : Nat × Int) => [(7, .v (.int .i64 y.1)), (5, .v (.int .i64 y.2)), (6, .v (.int .i64 LO)), (0, .s 0 0 0 l.length c 1), (3, .s 1 0 0 k oc 1), (4, .v (.int .i64 k))])
    (fun y => Sub y.1 k ∧ -1 ≤ y.2 ∧ y.2 ≤ 65537 ∧ (∀ t, Sub t k → y.1 < t → CntOk l k t → cntV l (dif k t) + 1 ≤ y.2) ∧ (y.2 = -1 ∨ ∃ t, Sub t k ∧ 0 < t ∧ CntOk l k t ∧ y.2 = cntV l (dif k t) + 1)) (fun y => y.1) (k, -1) ⟨Sub.refl _, by simp, by simp, fun t h1 h2 => by have := h1.le; simp only at h2; omega, .inl rfl⟩ ?_ ?_
  · simp only [push_cast, ↓branch_true, ↓branch_false, Nat.reduceBEq, Nat.reduceAdd, Nat.reduceMul, Nat.reduceSub, Int.reduceToNat, reduceCtorEq, branch_decide, branch_not, branch_beq, branch_bne]
    try rfl
  rintro ⟨s, best⟩ ⟨q1, q2, q3, q4, q5⟩
  simp only at q1 q2 q3 q4 q5
  have hsk := q1.le
  have hsd := sub_dif hk3 q1
  simp only [push_cast, ↓branch_true, ↓branch_false, Nat.reduceBEq, Nat.reduceAdd, Nat.reduceMul, Nat.reduceSub, Int.reduceToNat, reduceCtorEq, branch_decide, branch_not, branch_beq, branch_bne, hcl, hand s (by omega)]
  refine ⟨fun h5 => ?_, fun h5 => ?_⟩
  rotate_left
  · obtain rfl : s = 0 := by omega
    have hbe := hce (best := best) (by omega) hk3 q4 q5
    subst hbe
    refine ⟨by omega, by omega, Or.inr ?_⟩
    repeat (with_reducible refine And.intro (by omega) ?_)
    intro cap hcap
    repeat (with_reducible refine And.intro (by omega) ?_)
    refine lpK_normal (k + 1, cap) [0, 3] ⟨by simp only; omega, by simp only; omega, by simp only; omega⟩ (by simp only; omega) (by kernel_rfl) ?_ ?_
    · simp only [push_cast, ↓branch_true, ↓branch_false, Nat.reduceBEq, Nat.reduceAdd, Nat.reduceMul, Nat.reduceSub, Int.reduceToNat, reduceCtorEq, branch_decide, branch_not, branch_beq, branch_bne]
      try omega
    · simp only [push_cast, ↓branch_true, ↓branch_false, Nat.reduceBEq, Nat.reduceAdd, Nat.reduceMul, Nat.reduceSub, Int.reduceToNat, reduceCtorEq, branch_decide, branch_not, branch_beq, branch_bne, hsu, hcl, List.length_append]
      intro i hi q hq
      have hcl' : (cntL l k).length = k := hcl
      by_cases e : q < k
      · have hb2 : decide (q < k) = true := by simpa using e
        rw [ix_app_ne (by omega), hb2]
        simp only [push_cast, ↓branch_true, ↓branch_false, Nat.reduceBEq, Nat.reduceAdd, Nat.reduceMul, Nat.reduceSub, Int.reduceToNat, reduceCtorEq, branch_decide, branch_not, branch_beq, branch_bne]
      · obtain rfl : q = k := by omega
        have hb2 : decide (q < q) = false := by simp
        have hl2 := ix_app_last (cntL l q) (cntV l q)
        rw [hcl'] at hl2
        rw [hl2, hb2]
        simp only [push_cast, ↓branch_true, ↓branch_false, Nat.reduceBEq, Nat.reduceAdd, Nat.reduceMul, Nat.reduceSub, Int.reduceToNat, reduceCtorEq, branch_decide, branch_not, branch_beq, branch_bne]
  have hs0 : 0 < s := by omega
  have hdlt := dif_lt hk3 q1 hs0
  have hnx := hnxt s hs0 (by omega)
  have hnl := nxt_lt (left := k) hs0
  have hns : Sub ((s - 1) &&& k) k := fun i hi => by rw [Nat.testBit_and] at hi; simp at hi; exact hi.2
  have hup : ∀ b' : Int, best ≤ b' → (CntOk l k s → cntV l (dif k s) + 1 ≤ b') → ∀ t, Sub t k → (s - 1) &&& k < t → CntOk l k t → cntV l (dif k t) + 1 ≤ b' := fun b' hb hs t h1 h2 h3 => by
    rcases Nat.lt_trichotomy t s with g | g | g
    · have := sub_next hs0 q1 h1 g
      omega
    · subst g; exact hs h3
    · have := q4 t h1 g h3
      omega
  have hcr := cntV_le (l := l) (i := dif k s) (by omega)
  have hix := cntL_ix l hdlt
  have e6 : (k : Int) - (s : Int) = ((dif k s : Nat) : Int) := by omega
  have stay : ¬ CntOk l k s → (Sub ((s - 1) &&& k) k ∧ -1 ≤ best ∧ best ≤ 65537 ∧ (∀ t, Sub t k → (s - 1) &&& k < t → CntOk l k t → cntV l (dif k t) + 1 ≤ best) ∧ (best = -1 ∨ ∃ t, Sub t k ∧ 0 < t ∧ CntOk l k t ∧ best = cntV l (dif k t) + 1)) := fun h => ⟨hns, q2, q3, hup best (Int.le_refl _) fun h2 => absurd h2 h, q5⟩
  refine ⟨fun h6 => ?_, fun h6 => ?_⟩
  · repeat (with_reducible refine And.intro (by omega) ?_)
    rw [hnx]
    refine lp0_normal ((s - 1) &&& k, best) (stay fun h => by rw [h.1] at h6; cases h6) hnl ?_
    simp only [push_cast, ↓branch_true, ↓branch_false, Nat.reduceBEq, Nat.reduceAdd, Nat.reduceMul, Nat.reduceSub, Int.reduceToNat, reduceCtorEq, branch_decide, branch_not, branch_beq, branch_bne]
  have h6' : s.testBit (tzN k) = true := by simpa using h6
  refine sp_call (rsum_pu l c s (by omega) hl hx) rfl [0] rfl (by simp only [push_cast, ↓branch_true, ↓branch_false, Nat.reduceBEq, Nat.reduceAdd, Nat.reduceMul, Nat.reduceSub, Int.reduceToNat, reduceCtorEq, branch_decide, branch_not, branch_beq, branch_bne]) (by simp only [push_cast, ↓branch_true, ↓branch_false, Nat.reduceBEq, Nat.reduceAdd, Nat.reduceMul, Nat.reduceSub, Int.reduceToNat, reduceCtorEq, branch_decide, branch_not, branch_beq, branch_bne]) ?_
  simp only [push_cast, ↓branch_true, ↓branch_false, Nat.reduceBEq, Nat.reduceAdd, Nat.reduceMul, Nat.reduceSub, Int.reduceToNat, reduceCtorEq, branch_decide, branch_not, branch_beq, branch_bne]
  refine ⟨fun h7 => ?_, fun h7 => ?_⟩
  rotate_right
  · repeat (with_reducible refine And.intro (by omega) ?_)
    rw [hnx]
    refine lp0_normal ((s - 1) &&& k, best) (stay fun h => h7 h.2.1) hnl ?_
    simp only [push_cast, ↓branch_true, ↓branch_false, Nat.reduceBEq, Nat.reduceAdd, Nat.reduceMul, Nat.reduceSub, Int.reduceToNat, reduceCtorEq, branch_decide, branch_not, branch_beq, branch_bne]
  rw [e6]
  simp only [Int.toNat_natCast, hix]
  repeat (with_reducible refine And.intro (by omega) ?_)
  refine ⟨fun h8 => ?_, fun h8 => ?_⟩
  rotate_right
  · repeat (with_reducible refine And.intro (by omega) ?_)
    rw [hnx]
    refine lp0_normal ((s - 1) &&& k, best) (stay fun h => h8 h.2.2) hnl ?_
    simp only [push_cast, ↓branch_true, ↓branch_false, Nat.reduceBEq, Nat.reduceAdd, Nat.reduceMul, Nat.reduceSub, Int.reduceToNat, reduceCtorEq, branch_decide, branch_not, branch_beq, branch_bne]
  repeat (with_reducible refine And.intro (by omega) ?_)
  refine ⟨fun h9 => ?_, fun h9 => ?_⟩
  · repeat (with_reducible refine And.intro (by omega) ?_)
    rw [hnx]
    refine lp0_normal ((s - 1) &&& k, cntV l (dif k s) + 1) ⟨hns, by simp only; omega, by simp only; omega, hup _ (by omega) fun _ => Int.le_refl _, .inr ⟨s, q1, hs0, ⟨h6', h7, h8⟩, rfl⟩⟩ hnl ?_
    simp only [push_cast, ↓branch_true, ↓branch_false, Nat.reduceBEq, Nat.reduceAdd, Nat.reduceMul, Nat.reduceSub, Int.reduceToNat, reduceCtorEq, branch_decide, branch_not, branch_beq, branch_bne]
  · repeat (with_reducible refine And.intro (by omega) ?_)
    rw [hnx]
    refine lp0_normal ((s - 1) &&& k, best) ⟨hns, q2, q3, hup best (Int.le_refl _) fun _ => by omega, q5⟩ hnl ?_
    simp only [push_cast, ↓branch_true, ↓branch_false, Nat.reduceBEq, Nat.reduceAdd, Nat.reduceMul, Nat.reduceSub, Int.reduceToNat, reduceCtorEq, branch_decide, branch_not, branch_beq, branch_bne]
end Go.Proofs.YtapbhppfecfobaaDoor
