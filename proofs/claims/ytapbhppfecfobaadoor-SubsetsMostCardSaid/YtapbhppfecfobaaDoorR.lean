/- Contracts of the reference: Parts. -/
import Derived.Test.YtapbhppfecfobaaDoorQ
set_option maxRecDepth 100000
set_option linter.unusedSimpArgs false
set_option linter.unusedVariables false
namespace Go.Proofs.YtapbhppfecfobaaDoor
open Go.RowKit
def bstI (o : Option Nat) : Int := match o with
  | none => 0
  | some b => (b : Int)
theorem i64_hand {k : Nat} (h0 : 0 < k) (h : k < 65536) (s : Nat) (hs : s < 65536) : (IntKind.i64.wrap (((BitVec.ofInt IntKind.i64.bits (s : Int) &&& BitVec.ofInt IntKind.i64.bits ((2 ^ tzN k : Nat) : Int)).toNat : Nat) : Int) = 0) = (s.testBit (tzN k) = false) := by
  have htz := (tz_bit h0 h).1
  have hlow := (bit_one htz).le
  rw [i64_and (by omega) (by omega)]
  refine propext ⟨fun h => ?_, fun h => ?_⟩
  · have h2 : s &&& 2 ^ tzN k = 0 := by omega
    have h3 := congrArg (fun x => x.testBit (tzN k)) h2
    simpa using h3
  · rw [show s &&& 2 ^ tzN k = 0 from Nat.eq_of_testBit_eq fun i => by
      rw [Nat.testBit_and, Nat.testBit_two_pow, Nat.zero_testBit]
      by_cases e : tzN k = i
      · subst e; simp [h]
      · simp [e]]
    rfl
theorem i64_nxt {k : Nat} (h : k < 65536) (s : Nat) (h0 : 0 < s) (hs : s < 65536) : IntKind.i64.wrap (((BitVec.ofInt IntKind.i64.bits ((s : Int) - 1) &&& BitVec.ofInt IntKind.i64.bits (k : Int)).toNat : Nat) : Int) = (((s - 1) &&& k : Nat) : Int) := by
  rw [show (s : Int) - 1 = ((s - 1 : Nat) : Int) by omega, i64_and (by omega) (by omega)]
set_option maxHeartbeats 1000000 in
theorem rparts_sp (l : List Int) (c : Nat) (hl : l.length ≤ 9223372036854775807) : Sp Tryd.prog 29 [.s 0 0 0 l.length c 1] [rR l]
    (fun r H => ∃ oc cp, (partsL l).length ≤ oc ∧ r = .t [.s 1 0 0 (partsL l).length oc 1, .v (.int .i64 (partsE l))] ∧ H = [rR l, oOut 2 (partsL l) cp oc, oFa (partsL l) cp]) := by
  have hbig := big_eq
  refine sp_weak ?_
  refine sp_of_ex true [] mixed Tryd.call29 Tryd.func29 rfl Tryd.ntmps29 Tryd.results29 (by decide +kernel) rfl ?_
  simp only [push_cast, ↓branch_true, ↓branch_false, Nat.reduceBEq, Nat.reduceAdd, Nat.reduceMul, Nat.reduceSub, Int.reduceToNat, reduceCtorEq, branch_decide, branch_not, branch_beq, branch_bne]
  refine sp_call (rgiven_pu l c hl) rfl [0] rfl (by simp only [push_cast, ↓branch_true, ↓branch_false, Nat.reduceBEq, Nat.reduceAdd, Nat.reduceMul, Nat.reduceSub, Int.reduceToNat, reduceCtorEq, branch_decide, branch_not, branch_beq, branch_bne]) (by simp only [push_cast, ↓branch_true, ↓branch_false, Nat.reduceBEq, Nat.reduceAdd, Nat.reduceMul, Nat.reduceSub, Int.reduceToNat, reduceCtorEq, branch_decide, branch_not, branch_beq, branch_bne]) ?_
  simp only [push_cast, ↓branch_true, ↓branch_false, Nat.reduceBEq, Nat.reduceAdd, Nat.reduceMul, Nat.reduceSub, Int.reduceToNat, reduceCtorEq, branch_decide, branch_not, branch_beq, branch_bne]
  by_cases hg : givE l = 0
  rotate_left
  · refine ⟨fun h => absurd h hg, fun _ => ?_⟩
    have e1 : partsE l = givE l := if_pos hg
    have e2 : partsL l = [] := if_pos (by rw [e1]; exact hg)
    rw [e1, e2]
    refine ⟨_, _, [0, 1000, 1001], ?_, by kernel_rfl, ?_, 0, fun _ => 0, Nat.le_refl _, rfl, rfl⟩
    · simp only [push_cast, ↓branch_true, ↓branch_false, Nat.reduceBEq, Nat.reduceAdd, Nat.reduceMul, Nat.reduceSub, Int.reduceToNat, reduceCtorEq, branch_decide, branch_not, branch_beq, branch_bne]
    · simp only [push_cast, ↓branch_true, ↓branch_false, Nat.reduceBEq, Nat.reduceAdd, Nat.reduceMul, Nat.reduceSub, Int.reduceToNat, reduceCtorEq, branch_decide, branch_not, branch_beq, branch_bne]
      exact ⟨by omega, by omega, Or.inr fun _ => rfl⟩
  refine ⟨fun _ => ?_, fun h => absurd hg h⟩
  obtain ⟨h1, h2⟩ := given_0 hg
  have hN1 : 2 ^ l.length ≤ 65536 := Nat.pow_le_pow_right (n := 2) (by decide) (i := l.length) (j := 16) h1
  have hN0 : 0 < 2 ^ l.length := Nat.two_pow_pos _
  have hN := two_shl h1
  refine sp_at (counts_sp l c h1 h2) [0] rfl ?_ ?_ ?_
  · simp only [push_cast, ↓branch_true, ↓branch_false, Nat.reduceBEq, Nat.reduceAdd, Nat.reduceMul, Nat.reduceSub, Int.reduceToNat, reduceCtorEq, branch_decide, branch_not, branch_beq, branch_bne]
  · simp only [push_cast, ↓branch_true, ↓branch_false, Nat.reduceBEq, Nat.reduceAdd, Nat.reduceMul, Nat.reduceSub, Int.reduceToNat, reduceCtorEq, branch_decide, branch_not, branch_beq, branch_bne]
  rintro _ _ ⟨cap, hcap, rfl, rfl⟩
  simp only [push_cast, ↓branch_true, ↓branch_false, Nat.reduceBEq, Nat.reduceAdd, Nat.reduceMul, Nat.reduceSub, Int.reduceToNat, reduceCtorEq, branch_decide, branch_not, branch_beq, branch_bne]
  refine ⟨by omega, ?_⟩
  rw [hN]
  repeat (with_reducible refine And.intro (by omega) ?_)
  have e3 : ((2 ^ l.length : Nat) : Int) - 1 = ((allN l : Nat) : Int) := by
    unfold allN; omega
  have hall : allN l = 2 ^ l.length - 1 := rfl
  rw [e3]
  refine sp_call (rsum_pu l c (allN l) (by omega) h1 h2) rfl [0] rfl (by simp only [push_cast, ↓branch_true, ↓branch_false, Nat.reduceBEq, Nat.reduceAdd, Nat.reduceMul, Nat.reduceSub, Int.reduceToNat, reduceCtorEq, branch_decide, branch_not, branch_beq, branch_bne]) (by simp only [push_cast, ↓branch_true, ↓branch_false, Nat.reduceBEq, Nat.reduceAdd, Nat.reduceMul, Nat.reduceSub, Int.reduceToNat, reduceCtorEq, branch_decide, branch_not, branch_beq, branch_bne]) ?_
  simp only [push_cast, ↓branch_true, ↓branch_false, Nat.reduceBEq, Nat.reduceAdd, Nat.reduceMul, Nat.reduceSub, Int.reduceToNat, reduceCtorEq, branch_decide, branch_not, branch_beq, branch_bne]
  refine ⟨fun hz => ?_, fun hz => ?_⟩
  rotate_right
  · have e5 : partsE l = 18 := by rw [partsE, if_neg (by simp [hg]), if_pos hz]
    have e6 : partsL l = [] := if_pos (by rw [e5]; decide)
    rw [e5, e6]
    refine ⟨_, _, [0, 1000, 1001], ?_, by kernel_rfl, ?_, 0, fun _ => 0, Nat.le_refl _, rfl, rfl⟩
    · simp only [push_cast, ↓branch_true, ↓branch_false, Nat.reduceBEq, Nat.reduceAdd, Nat.reduceMul, Nat.reduceSub, Int.reduceToNat, reduceCtorEq, branch_decide, branch_not, branch_beq, branch_bne]
    · simp only [push_cast, ↓branch_true, ↓branch_false, Nat.reduceBEq, Nat.reduceAdd, Nat.reduceMul, Nat.reduceSub, Int.reduceToNat, reduceCtorEq, branch_decide, branch_not, branch_beq, branch_bne]
      exact ⟨by omega, by omega, Or.inr fun _ => rfl⟩
  have hA : allN l < 65536 := by omega
  have hcl := cntL_len l (2 ^ l.length)
  have hci : ∀ s, s ≤ allN l → ix (cntL l (2 ^ l.length)) s = cntV l s := fun s hs => cntL_ix l (by omega)
  have hbits : ∀ s, s ≤ allN l → s < 2 ^ l.length := fun s hs => by omega
  generalize hcr : cntL l (2 ^ l.length) = cr at *
  generalize hNe : 2 ^ l.length = N at *
  refine tr_loop mixed (by kernel_rfl) (fun (x : List (List Int) × Nat × Nat × (Nat → Nat)) => [(0, .s 0 0 0 l.length c 1), (8, .v (.int .i64 (x.2.1 : Nat))), (7, .s 2 0 0 x.1.length x.2.2.1 1), (5, .s 1 0 0 N cap 1)])
    (fun x => [rR l, rIO cr cap, oOut 3 x.1 x.2.2.2 x.2.2.1, oFa x.1 x.2.2.2])
    (fun x => x.2.1 ≤ allN l ∧ sumS l x.2.1 = 0 ∧ x.1 ++ partS l x.2.1 = partS l (allN l) ∧ x.1.length ≤ x.2.2.1 ∧ x.1.length + x.2.1 ≤ allN l ∧ ∀ k, x.1.length ≤ k → x.2.2.2 k = 0) (fun x => x.2.1) ([], allN l, 0, fun _ => 0) ⟨Nat.le_refl _, hz, rfl, Nat.le_refl _, by simp, fun _ _ => rfl⟩ (Mt.wk (rl := [0, 1, 1000, 1001]) ⟨by kernel_rfl, ?_, ?_⟩) ?_
  · simp only [push_cast, ↓branch_true, ↓branch_false, Nat.reduceBEq, Nat.reduceAdd, Nat.reduceMul, Nat.reduceSub, Int.reduceToNat, reduceCtorEq, branch_decide, branch_not, branch_beq, branch_bne]
  · simp only [push_cast, ↓branch_true, ↓branch_false, Nat.reduceBEq, Nat.reduceAdd, Nat.reduceMul, Nat.reduceSub, Int.reduceToNat, reduceCtorEq, branch_decide, branch_not, branch_beq, branch_bne, hcl]
    exact ⟨by omega, by omega, Or.inr fun _ => rfl⟩
  rintro ⟨out, left, oc, cp⟩ ⟨g1, g2, g3, g4, g5, g6⟩
  simp only at g1 g2 g3 g4 g5 g6
  simp only [push_cast, ↓branch_true, ↓branch_false, Nat.reduceBEq, Nat.reduceAdd, Nat.reduceMul, Nat.reduceSub, Int.reduceToNat, reduceCtorEq, branch_decide, branch_not, branch_beq, branch_bne, hcl]
  refine ⟨fun h0 => ?_, fun h0 => ?_⟩
  rotate_right
  · obtain rfl : left = 0 := by omega
    have e5 : partsE l = 0 := by rw [partsE, if_neg (by simp [hg]), if_neg (by simp [hz])]
    have e6 : partsL l = out := by
      rw [partsL, if_neg (by simp [e5]), ← g3]
      exact List.append_nil _
    rw [e5, e6]
    refine ⟨_, _, [0, 2, 3], ?_, by kernel_rfl, ?_, oc, cp, g4, rfl, rfl⟩
    · simp only [push_cast, ↓branch_true, ↓branch_false, Nat.reduceBEq, Nat.reduceAdd, Nat.reduceMul, Nat.reduceSub, Int.reduceToNat, reduceCtorEq, branch_decide, branch_not, branch_beq, branch_bne]
    · simp only [push_cast, ↓branch_true, ↓branch_false, Nat.reduceBEq, Nat.reduceAdd, Nat.reduceMul, Nat.reduceSub, Int.reduceToNat, reduceCtorEq, branch_decide, branch_not, branch_beq, branch_bne]
  have hl0 : 0 < left := by omega
  obtain ⟨bb, hb1, hb2, hb3, hb4⟩ := best_ex (l := l) (left := left) (by omega) hl0 g2
  refine tr_loop mixed (by kernel_rfl) (fun (y : Nat × Option Nat) => [(0, .s 0 0 0 l.length c 1), (10, .v (.int .i64 (y.1 : Nat))), (9, .v (.int .i64 (bstI y.2))), (8, .v (.int .i64 (left : Nat))), (7, .s 2 0 0 out.length oc 1), (5, .s 1 0 0 N cap 1)])
    (fun y => [rR l, rIO cr cap, oOut 3 out cp oc, oFa out cp])
    (fun y => Sub y.1 left ∧ bestS l left left none = bestS l left y.1 y.2 ∧ ∀ b, y.2 = some b → 0 < b ∧ Sub b left) (fun y => y.1) (left, none) ⟨Sub.refl _, rfl, fun b h => by cases h⟩ (Mt.wk (rl := [0, 1, 2, 3]) ⟨by kernel_rfl, ?_, ?_⟩) ?_
  · simp only [push_cast, ↓branch_true, ↓branch_false, Nat.reduceBEq, Nat.reduceAdd, Nat.reduceMul, Nat.reduceSub, Int.reduceToNat, reduceCtorEq, branch_decide, branch_not, branch_beq, branch_bne]
    try rfl
  · simp only [push_cast, ↓branch_true, ↓branch_false, Nat.reduceBEq, Nat.reduceAdd, Nat.reduceMul, Nat.reduceSub, Int.reduceToNat, reduceCtorEq, branch_decide, branch_not, branch_beq, branch_bne, hcl]
  rintro ⟨s, o⟩ ⟨k1, k2, k3⟩
  simp only at k1 k2 k3
  have hsl2 := k1.le
  have hdl := dif_le left s
  simp only [push_cast, ↓branch_true, ↓branch_false, Nat.reduceBEq, Nat.reduceAdd, Nat.reduceMul, Nat.reduceSub, Int.reduceToNat, reduceCtorEq, branch_decide, branch_not, branch_beq, branch_bne, hcl]
  rw [i64_negN hl0 (by omega), i64_hand hl0 (by omega) s (by omega)]
  have hci1 := hci (dif left s) (by omega)
  have hci2 := hci left g1
  have hsd := sub_dif (show left < 65536 by omega) k1
  have e6 : (left : Int) - (s : Int) = ((dif left s : Nat) : Int) := by omega
  have hcv := cntV_le (l := l) (i := left) (by omega)
  refine ⟨fun hs => ?_, fun hs => ?_⟩
  · have hnx := i64_nxt (show left < 65536 by omega) s (by omega) (by omega)
    have hst := bestS_step (l := l) (left := left) o (show 0 < s by omega)
    have hlt := nxt_lt (s := s) (left := left) (by omega)
    have hns : Sub ((s - 1) &&& left) left := fun i hi => by rw [Nat.testBit_and] at hi; simp at hi; exact hi.2
    have hokc := okP_cnt (show left < 65536 by omega) g2 k1
    have stay : okP l left s = false → (Sub ((s - 1) &&& left) left ∧ bestS l left left none = bestS l left ((s - 1) &&& left) o ∧ ∀ b, o = some b → 0 < b ∧ Sub b left) := fun h => ⟨hns, by rw [stB, h, cond_false] at hst; rw [k2, hst], k3⟩
    repeat (with_reducible refine And.intro (by omega) ?_)
    refine ⟨fun h6 => ?_, fun h6 => ?_⟩
    · repeat (with_reducible refine And.intro (by omega) ?_)
      rw [hnx]
      refine lpK_normal ((s - 1) &&& left, o) [0, 1, 2, 3] (stay (by rw [hokc, h6]; rfl)) hlt (by kernel_rfl) ?_ ?_
      · simp only [push_cast, ↓branch_true, ↓branch_false, Nat.reduceBEq, Nat.reduceAdd, Nat.reduceMul, Nat.reduceSub, Int.reduceToNat, reduceCtorEq, branch_decide, branch_not, branch_beq, branch_bne]
      · simp only [push_cast, ↓branch_true, ↓branch_false, Nat.reduceBEq, Nat.reduceAdd, Nat.reduceMul, Nat.reduceSub, Int.reduceToNat, reduceCtorEq, branch_decide, branch_not, branch_beq, branch_bne, hcl]
    have h6' : s.testBit (tzN left) = true := by simpa using h6
    refine qc_call (rsum_pu l c s (by rw [hNe]; exact hbits s (by omega)) h1 h2) rfl [0] rfl (by simp only [push_cast, ↓branch_true, ↓branch_false, Nat.reduceBEq, Nat.reduceAdd, Nat.reduceMul, Nat.reduceSub, Int.reduceToNat, reduceCtorEq, branch_decide, branch_not, branch_beq, branch_bne]) (by simp only [push_cast, ↓branch_true, ↓branch_false, Nat.reduceBEq, Nat.reduceAdd, Nat.reduceMul, Nat.reduceSub, Int.reduceToNat, reduceCtorEq, branch_decide, branch_not, branch_beq, branch_bne]) ?_
    simp only [push_cast, ↓branch_true, ↓branch_false, Nat.reduceBEq, Nat.reduceAdd, Nat.reduceMul, Nat.reduceSub, Int.reduceToNat, reduceCtorEq, branch_decide, branch_not, branch_beq, branch_bne]
    refine ⟨fun h7 => ?_, fun h7 => ?_⟩
    rotate_right
    · repeat (with_reducible refine And.intro (by omega) ?_)
      rw [hnx]
      refine lpK_normal ((s - 1) &&& left, o) [0, 1, 2, 3] (stay (by rw [hokc]; simp [h7])) hlt (by kernel_rfl) ?_ ?_
      · simp only [push_cast, ↓branch_true, ↓branch_false, Nat.reduceBEq, Nat.reduceAdd, Nat.reduceMul, Nat.reduceSub, Int.reduceToNat, reduceCtorEq, branch_decide, branch_not, branch_beq, branch_bne]
      · simp only [push_cast, ↓branch_true, ↓branch_false, Nat.reduceBEq, Nat.reduceAdd, Nat.reduceMul, Nat.reduceSub, Int.reduceToNat, reduceCtorEq, branch_decide, branch_not, branch_beq, branch_bne, hcl]
    rw [e6]
    simp only [Int.toNat_natCast, hci1, hci2]
    repeat (with_reducible refine And.intro (by omega) ?_)
    refine ⟨fun h8 => ?_, fun h8 => ?_⟩
    rotate_right
    · repeat (with_reducible refine And.intro (by omega) ?_)
      rw [hnx]
      refine lpK_normal ((s - 1) &&& left, o) [0, 1, 2, 3] (stay (by rw [hokc]; simp [h8])) hlt (by kernel_rfl) ?_ ?_
      · simp only [push_cast, ↓branch_true, ↓branch_false, Nat.reduceBEq, Nat.reduceAdd, Nat.reduceMul, Nat.reduceSub, Int.reduceToNat, reduceCtorEq, branch_decide, branch_not, branch_beq, branch_bne]
      · simp only [push_cast, ↓branch_true, ↓branch_false, Nat.reduceBEq, Nat.reduceAdd, Nat.reduceMul, Nat.reduceSub, Int.reduceToNat, reduceCtorEq, branch_decide, branch_not, branch_beq, branch_bne, hcl]
    have hok : okP l left s = true := by rw [hokc, h6']; simp [h7, h8]
    rw [stB, hok, cond_true] at hst
    rcases o with _ | b
    · have e7 : bstI none = 0 := rfl
      rw [e7]
      refine ⟨fun _ => ?_, fun h => absurd rfl h⟩
      repeat (with_reducible refine And.intro (by omega) ?_)
      rw [hnx]
      refine lpK_normal ((s - 1) &&& left, some s) [0, 1, 2, 3] ⟨hns, by rw [k2, hst]; rfl, fun b hb => ?_⟩ hlt (by kernel_rfl) ?_ ?_
      · obtain rfl : s = b := by simpa using hb
        exact ⟨by omega, k1⟩
      · simp only [push_cast, ↓branch_true, ↓branch_false, Nat.reduceBEq, Nat.reduceAdd, Nat.reduceMul, Nat.reduceSub, Int.reduceToNat, reduceCtorEq, branch_decide, branch_not, branch_beq, branch_bne, bstI]
      · simp only [push_cast, ↓branch_true, ↓branch_false, Nat.reduceBEq, Nat.reduceAdd, Nat.reduceMul, Nat.reduceSub, Int.reduceToNat, reduceCtorEq, branch_decide, branch_not, branch_beq, branch_bne, hcl]
    · have e7 : bstI (some b) = (b : Int) := rfl
      rw [e7]
      obtain ⟨kb0, kbs⟩ := k3 b rfl
      have hble := kbs.le
      refine ⟨fun h => by omega, fun _ => ?_⟩
      refine sp_at (indices_sp l c s (by rw [hNe]; exact hbits s (by omega)) h1) [0] rfl ?_ ?_ ?_
      · simp only [push_cast, ↓branch_true, ↓branch_false, Nat.reduceBEq, Nat.reduceAdd, Nat.reduceMul, Nat.reduceSub, Int.reduceToNat, reduceCtorEq, branch_decide, branch_not, branch_beq, branch_bne]
      · simp only [push_cast, ↓branch_true, ↓branch_false, Nat.reduceBEq, Nat.reduceAdd, Nat.reduceMul, Nat.reduceSub, Int.reduceToNat, reduceCtorEq, branch_decide, branch_not, branch_beq, branch_bne]
      rintro _ _ ⟨cap2, hcap2, rfl, rfl⟩
      simp only [push_cast, ↓branch_true, ↓branch_false, Nat.reduceBEq, Nat.reduceAdd, Nat.reduceMul, Nat.reduceSub, Int.reduceToNat, reduceCtorEq, branch_decide, branch_not, branch_beq, branch_bne]
      refine sp_at (indices_sp l c b (by rw [hNe]; exact hbits b (by omega)) h1) [0] rfl ?_ ?_ ?_
      · simp only [push_cast, ↓branch_true, ↓branch_false, Nat.reduceBEq, Nat.reduceAdd, Nat.reduceMul, Nat.reduceSub, Int.reduceToNat, reduceCtorEq, branch_decide, branch_not, branch_beq, branch_bne]
      · simp only [push_cast, ↓branch_true, ↓branch_false, Nat.reduceBEq, Nat.reduceAdd, Nat.reduceMul, Nat.reduceSub, Int.reduceToNat, reduceCtorEq, branch_decide, branch_not, branch_beq, branch_bne]
      rintro _ _ ⟨cap3, hcap3, rfl, rfl⟩
      simp only [push_cast, ↓branch_true, ↓branch_false, Nat.reduceBEq, Nat.reduceAdd, Nat.reduceMul, Nat.reduceSub, Int.reduceToNat, reduceCtorEq, branch_decide, branch_not, branch_beq, branch_bne]
      have hx1 := bits_len s
      have hx2 := bits_len b
      have hx3 := bL_len s
      have hx4 := bL_len b
      refine sp_call (earlier_pu (bL s) (bL b) cap2 cap3 (by omega) (by omega)) rfl [4, 5] rfl (by simp only [push_cast, ↓branch_true, ↓branch_false, Nat.reduceBEq, Nat.reduceAdd, Nat.reduceMul, Nat.reduceSub, Int.reduceToNat, reduceCtorEq, branch_decide, branch_not, branch_beq, branch_bne]) (by simp only [push_cast, ↓branch_true, ↓branch_false, Nat.reduceBEq, Nat.reduceAdd, Nat.reduceMul, Nat.reduceSub, Int.reduceToNat, reduceCtorEq, branch_decide, branch_not, branch_beq, branch_bne]) ?_
      simp only [push_cast, ↓branch_true, ↓branch_false, Nat.reduceBEq, Nat.reduceAdd, Nat.reduceMul, Nat.reduceSub, Int.reduceToNat, reduceCtorEq, branch_decide, branch_not, branch_beq, branch_bne]
      have hup : upB s (some b) = bif lexL (bL s) (bL b) then some s else some b := rfl
      rw [hup] at hst
      cases hlx : lexL (bL s) (bL b) with
      | true =>
        rw [hlx, cond_true] at hst
        simp only [push_cast, ↓branch_true, ↓branch_false, Nat.reduceBEq, Nat.reduceAdd, Nat.reduceMul, Nat.reduceSub, Int.reduceToNat, reduceCtorEq, branch_decide, branch_not, branch_beq, branch_bne]
        repeat (with_reducible refine And.intro (by omega) ?_)
        rw [hnx]
        refine lpK_normal ((s - 1) &&& left, some s) [0, 1, 2, 3] ⟨hns, by rw [k2, hst], fun b hb => ?_⟩ hlt (by kernel_rfl) ?_ ?_
        · obtain rfl : s = b := by simpa using hb
          exact ⟨by omega, k1⟩
        · simp only [push_cast, ↓branch_true, ↓branch_false, Nat.reduceBEq, Nat.reduceAdd, Nat.reduceMul, Nat.reduceSub, Int.reduceToNat, reduceCtorEq, branch_decide, branch_not, branch_beq, branch_bne, bstI]
        · simp only [push_cast, ↓branch_true, ↓branch_false, Nat.reduceBEq, Nat.reduceAdd, Nat.reduceMul, Nat.reduceSub, Int.reduceToNat, reduceCtorEq, branch_decide, branch_not, branch_beq, branch_bne, hcl]
      | false =>
        rw [hlx, cond_false] at hst
        simp only [push_cast, ↓branch_true, ↓branch_false, Nat.reduceBEq, Nat.reduceAdd, Nat.reduceMul, Nat.reduceSub, Int.reduceToNat, reduceCtorEq, branch_decide, branch_not, branch_beq, branch_bne]
        repeat (with_reducible refine And.intro (by omega) ?_)
        rw [hnx]
        refine lpK_normal ((s - 1) &&& left, some b) [0, 1, 2, 3] ⟨hns, by rw [k2, hst], k3⟩ hlt (by kernel_rfl) ?_ ?_
        · simp only [push_cast, ↓branch_true, ↓branch_false, Nat.reduceBEq, Nat.reduceAdd, Nat.reduceMul, Nat.reduceSub, Int.reduceToNat, reduceCtorEq, branch_decide, branch_not, branch_beq, branch_bne, bstI]
        · simp only [push_cast, ↓branch_true, ↓branch_false, Nat.reduceBEq, Nat.reduceAdd, Nat.reduceMul, Nat.reduceSub, Int.reduceToNat, reduceCtorEq, branch_decide, branch_not, branch_beq, branch_bne, hcl]
  · obtain rfl : s = 0 := by omega
    rw [bestS_zero, hb1] at k2
    subst k2
    have e7 : bstI (some bb) = (bb : Int) := rfl
    rw [e7]
    refine sp_at (indices_sp l c bb (by rw [hNe]; exact hbits bb (by have := hb3.le; omega)) h1) [0] rfl ?_ ?_ ?_
    · simp only [push_cast, ↓branch_true, ↓branch_false, Nat.reduceBEq, Nat.reduceAdd, Nat.reduceMul, Nat.reduceSub, Int.reduceToNat, reduceCtorEq, branch_decide, branch_not, branch_beq, branch_bne]
    · simp only [push_cast, ↓branch_true, ↓branch_false, Nat.reduceBEq, Nat.reduceAdd, Nat.reduceMul, Nat.reduceSub, Int.reduceToNat, reduceCtorEq, branch_decide, branch_not, branch_beq, branch_bne]
    rintro _ _ ⟨cap2, hcap2, rfl, rfl⟩
    have hbl := bits_len bb
    have hbL := bL_len bb
    have hok1 : sumS l bb = 0 := by
      simp only [okP, Bool.and_eq_true, decide_eq_true_eq] at hb2
      exact hb2.2.1
    have hsd2 := sumS_dif (l := l) (show left < 65536 by omega) hb3
    have hps := partS_step (l := l) (show left < 65536 by omega) hl0 hb1
    have hdlt := dif_lt (show left < 65536 by omega) hb3 hb4
    have hsd3 := sub_dif (show left < 65536 by omega) hb3
    have hble := hb3.le
    have e8 : (left : Int) - (bb : Int) = ((dif left bb : Nat) : Int) := by omega
    have hlen1 : (out ++ [bL bb]).length = out.length + 1 := by simp
    simp only [push_cast, ↓branch_true, ↓branch_false, Nat.reduceBEq, Nat.reduceAdd, Nat.reduceMul, Nat.reduceSub, Int.reduceToNat, reduceCtorEq, branch_decide, branch_not, branch_beq, branch_bne]
    refine ⟨by omega, by omega, Or.inr ?_⟩
    repeat (with_reducible refine And.intro (by omega) ?_)
    intro oc2 hoc2
    repeat (with_reducible refine And.intro (by omega) ?_)
    rw [e8]
    refine lpK_wk (out ++ [bL bb], dif left bb, oc2, fun q => bif q == out.length then cap2 else cp q) ⟨by simp only; omega, by simp only; omega, ?_, by simp only [hlen1]; omega, by simp only [hlen1]; omega, fun k hk => ?_⟩ (by simp only; omega)
      ((swk_place 3 out.length 4 (by omega) (by omega) (by omega) ?_).trans (Mt.wk (rl := [0, 1, 6, 3]) ⟨by kernel_rfl, ?_, ?_⟩))
    · simp only
      rw [List.append_assoc, ← g3, hps]
      rfl
    · simp only [hlen1] at hk ⊢
      have : (k == out.length) = false := by simp; omega
      rw [this]
      exact g6 k (by omega)
    · simp only [push_cast, ↓branch_true, ↓branch_false, Nat.reduceBEq, Nat.reduceAdd, Nat.reduceMul, Nat.reduceSub, Int.reduceToNat, reduceCtorEq, branch_decide, branch_not, branch_beq, branch_bne]
      try omega
    · simp only [push_cast, ↓branch_true, ↓branch_false, Nat.reduceBEq, Nat.reduceAdd, Nat.reduceMul, Nat.reduceSub, Int.reduceToNat, reduceCtorEq, branch_decide, branch_not, branch_beq, branch_bne, List.length_append]
      try rfl
    · simp only [push_cast, ↓branch_true, ↓branch_false, Nat.reduceBEq, Nat.reduceAdd, Nat.reduceMul, Nat.reduceSub, Int.reduceToNat, reduceCtorEq, branch_decide, branch_not, branch_beq, branch_bne, List.length_append, hcl]
      refine ⟨fun x hx q hq => ?_, fun q hq => ?_⟩
      · by_cases eq : q = out.length
        · subst eq
          have hb2 : decide (out.length < out.length) = false := by simp
          simp only [push_cast, ↓branch_true, ↓branch_false, Nat.reduceBEq, Nat.reduceAdd, Nat.reduceMul, Nat.reduceSub, Int.reduceToNat, reduceCtorEq, branch_decide, branch_not, branch_beq, branch_bne, ix_app_last, hb2]
        · have hb : (q == out.length) = false := by simpa using eq
          have hb2 : decide (q < out.length) = true := by simp; omega
          simp only [push_cast, ↓branch_true, ↓branch_false, Nat.reduceBEq, Nat.reduceAdd, Nat.reduceMul, Nat.reduceSub, Int.reduceToNat, reduceCtorEq, branch_decide, branch_not, branch_beq, branch_bne, ix_app_ne eq, hb, hb2]
      · by_cases eq : q = out.length
        · subst eq
          simp only [push_cast, ↓branch_true, ↓branch_false, Nat.reduceBEq, Nat.reduceAdd, Nat.reduceMul, Nat.reduceSub, Int.reduceToNat, reduceCtorEq, branch_decide, branch_not, branch_beq, branch_bne, ix_app_last]
        · have hb : (q == out.length) = false := by simpa using eq
          simp only [push_cast, ↓branch_true, ↓branch_false, Nat.reduceBEq, Nat.reduceAdd, Nat.reduceMul, Nat.reduceSub, Int.reduceToNat, reduceCtorEq, branch_decide, branch_not, branch_beq, branch_bne, ix_app_ne eq, hb]
end Go.Proofs.YtapbhppfecfobaaDoor
