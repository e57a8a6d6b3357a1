/- SubsetsFinds: the walk. -/
import Derived.Test.YtapbhppfecfobaaDoorV
set_option maxRecDepth 100000
set_option linter.unusedSimpArgs false
set_option linter.unusedVariables false
namespace Go.Proofs.YtapbhppfecfobaaDoor
open Go.RowKit
def sameB (x : List Int) (e set : Int) : Bool := if set < 0 then decide (x.length = 0) && decide (e = 12) else decide (e = 0) && decide (x = bL set.toNat)
set_option maxHeartbeats 1000000 in
theorem same1_pu (x l : List Int) (e set : Int) (c c2 : Nat) (hx : x.length ≤ 1000000) (hl : l.length ≤ 16) (hs : set < ((2 ^ l.length : Nat) : Int)) :
    Pu Tryd.prog 14 [.s 0 0 0 x.length c 1, .v (.int .i64 e), .v (.int .i64 set), .p 2 0 0] [rR x, rR l, ⟨22, true, .st [.s 1 0 0 l.length c2 1]⟩] (.v (.bool (sameB x e set))) := by
  refine pu_of_ex true [] mixed Tryd.call14 Tryd.func14 rfl Tryd.ntmps14 Tryd.results14 (by decide +kernel) rfl rfl rfl ?_
  simp only [push_cast, ↓branch_true, ↓branch_false, Nat.reduceBEq, Nat.reduceAdd, Nat.reduceMul, Nat.reduceSub, Int.reduceToNat, reduceCtorEq, branch_decide, branch_not, branch_beq, branch_bne]
  unfold sameB
  refine ⟨fun h => ?_, fun h => ?_⟩
  · rw [if_pos h]
    refine ⟨fun h2 => ?_, fun h2 => ?_⟩
    · rw [decide_eq_true (show x.length = 0 by omega), Bool.true_and]
      congr 2
    · rw [decide_eq_false (show ¬ x.length = 0 by omega), Bool.false_and]
  · rw [if_neg h]
    refine ⟨fun h2 => ?_, fun h2 => ?_⟩
    · have e1 : set = ((set.toNat : Nat) : Int) := by omega
      have hsn : set.toNat < 2 ^ l.length := by omega
      generalize set.toNat = n at *
      subst e1
      refine sp_at (indices_sp l c2 n hsn hl) [1] rfl ?_ ?_ ?_
      · simp only [push_cast, ↓branch_true, ↓branch_false, Nat.reduceBEq, Nat.reduceAdd, Nat.reduceMul, Nat.reduceSub, Int.reduceToNat, reduceCtorEq, branch_decide, branch_not, branch_beq, branch_bne]
      · simp only [push_cast, ↓branch_true, ↓branch_false, Nat.reduceBEq, Nat.reduceAdd, Nat.reduceMul, Nat.reduceSub, Int.reduceToNat, reduceCtorEq, branch_decide, branch_not, branch_beq, branch_bne]
      rintro _ _ ⟨cap, hcap, rfl, rfl⟩
      have hbl := bits_len n
      have hbL := bL_len n
      simp only [push_cast, ↓branch_true, ↓branch_false, Nat.reduceBEq, Nat.reduceAdd, Nat.reduceMul, Nat.reduceSub, Int.reduceToNat, reduceCtorEq, branch_decide, branch_not, branch_beq, branch_bne]
      refine sp_call (equal_pu x (bL n) c cap (by omega) (by omega)) rfl [0, 3] rfl (by simp only [push_cast, ↓branch_true, ↓branch_false, Nat.reduceBEq, Nat.reduceAdd, Nat.reduceMul, Nat.reduceSub, Int.reduceToNat, reduceCtorEq, branch_decide, branch_not, branch_beq, branch_bne]) (by simp only [push_cast, ↓branch_true, ↓branch_false, Nat.reduceBEq, Nat.reduceAdd, Nat.reduceMul, Nat.reduceSub, Int.reduceToNat, reduceCtorEq, branch_decide, branch_not, branch_beq, branch_bne]) ?_
      simp only [push_cast, ↓branch_true, ↓branch_false, Nat.reduceBEq, Nat.reduceAdd, Nat.reduceMul, Nat.reduceSub, Int.reduceToNat, reduceCtorEq, branch_decide, branch_not, branch_beq, branch_bne]
      rw [decide_eq_true h2, Bool.true_and]
    · rw [decide_eq_false h2, Bool.false_and]
theorem find_same (l : List Int) (sum least : Int) (hg : givE l = 0) : sameB (findL l sum least) (findE l sum least) (fstV (firstO l sum least)) = true := by
  cases e : firstO l sum least with
  | none =>
    have h1 : findL l sum least = [] := by rw [findL, if_neg (by simp [hg]), e]
    have h2 : findE l sum least = 12 := by rw [findE, if_neg (by simp [hg]), e]; rfl
    rw [h1, h2]; rfl
  | some b =>
    have h1 : findL l sum least = bL b := by rw [findL, if_neg (by simp [hg]), e]
    have h2 : findE l sum least = 0 := by rw [findE, if_neg (by simp [hg]), e]; rfl
    rw [h1, h2, sameB, if_neg (by show ¬ (b : Int) < 0; omega)]
    show (decide ((0 : Int) = 0) && decide (bL b = bL (b : Int).toNat)) = true
    simp
theorem find_len (l : List Int) (sum least : Int) : (findL l sum least).length ≤ 32 := by
  unfold findL
  split
  · decide
  · split
    · decide
    · rw [bL_len]; exact bits_len _
theorem fstV_lt (l : List Int) (sum least : Int) : fstV (firstO l sum least) < ((2 ^ l.length : Nat) : Int) := by
  have h := @firstT_lt (sumS l) sum least (2 ^ l.length)
  unfold firstO
  cases e : firstT (sumS l) sum least (2 ^ l.length) with
  | none =>
    have := Nat.two_pow_pos l.length
    show (-1 : Int) < _
    omega
  | some b =>
    have := h e
    show (b : Int) < _
    omega
set_option maxHeartbeats 1000000 in
theorem lfinds_sp (l : List Int) (sum : Int) (c : Nat) (hl : l.length ≤ 9223372036854775807) : Sp Tryd.prog 3 [.s 0 0 0 l.length c 1, .v (.int .i64 sum)] [rR l] (fun r _ => r = .v (.bool true)) := by
  have hbig := big_eq
  refine sp_of_ex true [] mixed Tryd.call3 Tryd.func3 rfl Tryd.ntmps3 Tryd.results3 (by decide +kernel) rfl ?_
  simp only [push_cast, ↓branch_true, ↓branch_false, Nat.reduceBEq, Nat.reduceAdd, Nat.reduceMul, Nat.reduceSub, Int.reduceToNat, reduceCtorEq, branch_decide, branch_not, branch_beq, branch_bne]
  refine sp_at awake_sp [] rfl ?_ ?_ ?_
  · simp only [push_cast, ↓branch_true, ↓branch_false, Nat.reduceBEq, Nat.reduceAdd, Nat.reduceMul, Nat.reduceSub, Int.reduceToNat, reduceCtorEq, branch_decide, branch_not, branch_beq, branch_bne]
  · simp only [push_cast, ↓branch_true, ↓branch_false, Nat.reduceBEq, Nat.reduceAdd, Nat.reduceMul, Nat.reduceSub, Int.reduceToNat, reduceCtorEq, branch_decide, branch_not, branch_beq, branch_bne]
  rintro _ _ ⟨rfl, rfl⟩
  simp only [push_cast, ↓branch_true, ↓branch_false, Nat.reduceBEq, Nat.reduceAdd, Nat.reduceMul, Nat.reduceSub, Int.reduceToNat, reduceCtorEq, branch_decide, branch_not, branch_beq, branch_bne]
  refine sp_call (long_pu l c (by omega)) rfl [0] rfl (by simp only [push_cast, ↓branch_true, ↓branch_false, Nat.reduceBEq, Nat.reduceAdd, Nat.reduceMul, Nat.reduceSub, Int.reduceToNat, reduceCtorEq, branch_decide, branch_not, branch_beq, branch_bne]) (by simp only [push_cast, ↓branch_true, ↓branch_false, Nat.reduceBEq, Nat.reduceAdd, Nat.reduceMul, Nat.reduceSub, Int.reduceToNat, reduceCtorEq, branch_decide, branch_not, branch_beq, branch_bne]) ?_
  simp only [push_cast, ↓branch_true, ↓branch_false, Nat.reduceBEq, Nat.reduceAdd, Nat.reduceMul, Nat.reduceSub, Int.reduceToNat, reduceCtorEq, branch_decide, branch_not, branch_beq, branch_bne]
  cases hlo : (decide (8 < l.length) && decide (l.length ≤ 16)) || decide (100 < l.length) with
  | true =>
    simp only [push_cast, ↓branch_true, ↓branch_false, Nat.reduceBEq, Nat.reduceAdd, Nat.reduceMul, Nat.reduceSub, Int.reduceToNat, reduceCtorEq, branch_decide, branch_not, branch_beq, branch_bne]
  | false =>
  simp only [push_cast, ↓branch_true, ↓branch_false, Nat.reduceBEq, Nat.reduceAdd, Nat.reduceMul, Nat.reduceSub, Int.reduceToNat, reduceCtorEq, branch_decide, branch_not, branch_beq, branch_bne]
  refine sp_at (Find_sp l sum c (by omega)) [0] rfl ?_ ?_ ?_
  · simp only [push_cast, ↓branch_true, ↓branch_false, Nat.reduceBEq, Nat.reduceAdd, Nat.reduceMul, Nat.reduceSub, Int.reduceToNat, reduceCtorEq, branch_decide, branch_not, branch_beq, branch_bne]
  · simp only [push_cast, ↓branch_true, ↓branch_false, Nat.reduceBEq, Nat.reduceAdd, Nat.reduceMul, Nat.reduceSub, Int.reduceToNat, reduceCtorEq, branch_decide, branch_not, branch_beq, branch_bne]
  rintro _ _ ⟨cap, hcap, rfl, rfl⟩
  simp only [push_cast, ↓branch_true, ↓branch_false, Nat.reduceBEq, Nat.reduceAdd, Nat.reduceMul, Nat.reduceSub, Int.reduceToNat, reduceCtorEq, branch_decide, branch_not, branch_beq, branch_bne]
  refine sp_at (Zero_sp l c (by omega)) [0] rfl ?_ ?_ ?_
  · simp only [push_cast, ↓branch_true, ↓branch_false, Nat.reduceBEq, Nat.reduceAdd, Nat.reduceMul, Nat.reduceSub, Int.reduceToNat, reduceCtorEq, branch_decide, branch_not, branch_beq, branch_bne]
  · simp only [push_cast, ↓branch_true, ↓branch_false, Nat.reduceBEq, Nat.reduceAdd, Nat.reduceMul, Nat.reduceSub, Int.reduceToNat, reduceCtorEq, branch_decide, branch_not, branch_beq, branch_bne]
  rintro _ _ ⟨cap2, hcap2, rfl, rfl⟩
  simp only [push_cast, ↓branch_true, ↓branch_false, Nat.reduceBEq, Nat.reduceAdd, Nat.reduceMul, Nat.reduceSub, Int.reduceToNat, reduceCtorEq, branch_decide, branch_not, branch_beq, branch_bne]
  refine sp_call (rgiven_pu l c hl) rfl [0] rfl (by simp only [push_cast, ↓branch_true, ↓branch_false, Nat.reduceBEq, Nat.reduceAdd, Nat.reduceMul, Nat.reduceSub, Int.reduceToNat, reduceCtorEq, branch_decide, branch_not, branch_beq, branch_bne]) (by simp only [push_cast, ↓branch_true, ↓branch_false, Nat.reduceBEq, Nat.reduceAdd, Nat.reduceMul, Nat.reduceSub, Int.reduceToNat, reduceCtorEq, branch_decide, branch_not, branch_beq, branch_bne]) ?_
  simp only [push_cast, ↓branch_true, ↓branch_false, Nat.reduceBEq, Nat.reduceAdd, Nat.reduceMul, Nat.reduceSub, Int.reduceToNat, reduceCtorEq, branch_decide, branch_not, branch_beq, branch_bne]
  have hfs := find_same l sum 0
  have hzs := find_same l 0 1
  have hfl := find_len l sum 0
  have hzl := find_len l 0 1
  by_cases hg : givE l = 0
  rotate_left
  · refine ⟨fun h => absurd h hg, fun _ => ?_⟩
    have e1 : findE l sum 0 = givE l := if_pos hg
    have e2 : findL l sum 0 = [] := if_pos hg
    have e3 : findE l 0 1 = givE l := if_pos hg
    have e4 : findL l 0 1 = [] := if_pos hg
    rw [e1, e2, e3, e4]
    simp only [push_cast, ↓branch_true, ↓branch_false, Nat.reduceBEq, Nat.reduceAdd, Nat.reduceMul, Nat.reduceSub, Int.reduceToNat, reduceCtorEq, branch_decide, branch_not, branch_beq, branch_bne]
  refine ⟨fun _ => ?_, fun h => absurd hg h⟩
  obtain ⟨h1, h2⟩ := given_0 hg
  have hfs := hfs hg
  have hzs := hzs hg
  refine sp_call (rfirst_pu l sum 0 c h1 h2) rfl [0] rfl (by simp only [push_cast, ↓branch_true, ↓branch_false, Nat.reduceBEq, Nat.reduceAdd, Nat.reduceMul, Nat.reduceSub, Int.reduceToNat, reduceCtorEq, branch_decide, branch_not, branch_beq, branch_bne]) (by simp only [push_cast, ↓branch_true, ↓branch_false, Nat.reduceBEq, Nat.reduceAdd, Nat.reduceMul, Nat.reduceSub, Int.reduceToNat, reduceCtorEq, branch_decide, branch_not, branch_beq, branch_bne]) ?_
  simp only [push_cast, ↓branch_true, ↓branch_false, Nat.reduceBEq, Nat.reduceAdd, Nat.reduceMul, Nat.reduceSub, Int.reduceToNat, reduceCtorEq, branch_decide, branch_not, branch_beq, branch_bne]
  refine sp_call (same1_pu (findL l sum 0) l (findE l sum 0) (fstV (firstO l sum 0)) cap c (by omega) h1 (fstV_lt l sum 0)) rfl [2, 0, 1] rfl ?_ ?_ ?_
  · simp only [push_cast, ↓branch_true, ↓branch_false, Nat.reduceBEq, Nat.reduceAdd, Nat.reduceMul, Nat.reduceSub, Int.reduceToNat, reduceCtorEq, branch_decide, branch_not, branch_beq, branch_bne]
  · simp only [push_cast, ↓branch_true, ↓branch_false, Nat.reduceBEq, Nat.reduceAdd, Nat.reduceMul, Nat.reduceSub, Int.reduceToNat, reduceCtorEq, branch_decide, branch_not, branch_beq, branch_bne]
  rw [hfs]
  simp only [push_cast, ↓branch_true, ↓branch_false, Nat.reduceBEq, Nat.reduceAdd, Nat.reduceMul, Nat.reduceSub, Int.reduceToNat, reduceCtorEq, branch_decide, branch_not, branch_beq, branch_bne]
  refine sp_call (rfirst_pu l 0 1 c h1 h2) rfl [0] rfl (by simp only [push_cast, ↓branch_true, ↓branch_false, Nat.reduceBEq, Nat.reduceAdd, Nat.reduceMul, Nat.reduceSub, Int.reduceToNat, reduceCtorEq, branch_decide, branch_not, branch_beq, branch_bne]) (by simp only [push_cast, ↓branch_true, ↓branch_false, Nat.reduceBEq, Nat.reduceAdd, Nat.reduceMul, Nat.reduceSub, Int.reduceToNat, reduceCtorEq, branch_decide, branch_not, branch_beq, branch_bne]) ?_
  simp only [push_cast, ↓branch_true, ↓branch_false, Nat.reduceBEq, Nat.reduceAdd, Nat.reduceMul, Nat.reduceSub, Int.reduceToNat, reduceCtorEq, branch_decide, branch_not, branch_beq, branch_bne]
  refine sp_call (same1_pu (findL l 0 1) l (findE l 0 1) (fstV (firstO l 0 1)) cap2 c (by omega) h1 (fstV_lt l 0 1)) rfl [3, 0, 1] rfl ?_ ?_ ?_
  · simp only [push_cast, ↓branch_true, ↓branch_false, Nat.reduceBEq, Nat.reduceAdd, Nat.reduceMul, Nat.reduceSub, Int.reduceToNat, reduceCtorEq, branch_decide, branch_not, branch_beq, branch_bne]
  · simp only [push_cast, ↓branch_true, ↓branch_false, Nat.reduceBEq, Nat.reduceAdd, Nat.reduceMul, Nat.reduceSub, Int.reduceToNat, reduceCtorEq, branch_decide, branch_not, branch_beq, branch_bne]
  rw [hzs]
  simp only [push_cast, ↓branch_true, ↓branch_false, Nat.reduceBEq, Nat.reduceAdd, Nat.reduceMul, Nat.reduceSub, Int.reduceToNat, reduceCtorEq, branch_decide, branch_not, branch_beq, branch_bne]
end Go.Proofs.YtapbhppfecfobaaDoor
