/- Contracts: the indices of a subset. -/
import Derived.Test.YtapbhppfecfobaaDoorB
set_option maxRecDepth 100000
set_option linter.unusedSimpArgs false
set_option linter.unusedVariables false
namespace Go.Proofs.YtapbhppfecfobaaDoor
open Go.RowKit
theorem ix_app_last {α : Type} [Inhabited α] (l : List α) (x : α) : ix (l ++ [x]) l.length = x := by
  rw [ix_eq (by simp)]; simp
theorem ix_app_ne {α : Type} [Inhabited α] {l : List α} {q : Nat} (h : q ≠ l.length) (x : α) : ix (l ++ [x]) q = ix l q := by
  unfold ix
  rcases Nat.lt_or_ge q l.length with h1 | h1
  · rw [List.getD_eq_getElem?_getD, List.getD_eq_getElem?_getD, List.getElem?_append_left h1]
  · rw [List.getD_eq_getElem?_getD, List.getD_eq_getElem?_getD, List.getElem?_eq_none (by simp; omega), List.getElem?_eq_none h1]
/-- The indices as numbers of the program. -/
def bL (s : Nat) : List Int := (bitsL s).map fun (i : Nat) => (i : Int)
theorem bL_len (s : Nat) : (bL s).length = (bitsL s).length := by simp [bL]
/-- What is left of a subset without its first indices. -/
def remN (s : Nat) : Nat → Nat
  | 0 => s
  | k + 1 => remN s k &&& (remN s k - 1)
theorem remN_lt {s n : Nat} (h : s < n) : ∀ k, remN s k < n
  | 0 => h
  | k + 1 => Nat.lt_of_le_of_lt Nat.and_le_left (remN_lt h k)
theorem remN_bits {s : Nat} (h : s < 4294967296) : ∀ k, k ≤ (bitsL s).length → bitsL (remN s k) = (bitsL s).drop k
  | 0, _ => rfl
  | k + 1, hk => by
    have ih := remN_bits h k (by omega)
    have hlt := remN_lt h k
    have h0 : 0 < remN s k := Nat.pos_of_ne_zero fun e => by
      rw [e, bits_zero] at ih
      have := congrArg List.length ih
      simp at this
      omega
    have := bits_cons h0 (show remN s k < 2 ^ 32 from hlt)
    rw [ih] at this
    show bitsL (remN s k &&& (remN s k - 1)) = _
    rw [← List.tail_drop, this]
    rfl
theorem remN_pos {s : Nat} (h : s < 4294967296) {k : Nat} (hk : k < (bitsL s).length) : 0 < remN s k ∧ ((tzN (remN s k) : Nat) : Int) = ix (bL s) k := by
  have ih := remN_bits h k (by omega)
  have h0 : 0 < remN s k := Nat.pos_of_ne_zero fun e => by
    rw [e, bits_zero] at ih
    have := congrArg List.length ih
    simp at this
    omega
  refine ⟨h0, ?_⟩
  rw [tzN, ih, ix_eq (by rw [bL_len]; exact hk)]
  simp [bL, List.headD_eq_head?_getD, List.head?_drop, hk]
theorem bits_nil {x : Nat} (h : x < 4294967296) (e : bitsL x = []) : x = 0 := by
  rcases Nat.eq_zero_or_pos x with h0 | h0
  · exact h0
  · rw [bits_cons h0 (show x < 2 ^ 32 from h)] at e; cases e
set_option maxHeartbeats 1000000 in
theorem list_sp (s : Nat) (h : s < 65536) : Sp Tryd.prog 45 [.v (.int .u32 s)] [] (fun r H => ∃ cap, (bL s).length ≤ cap ∧ r = .s 0 0 0 (bL s).length cap 1 ∧ H = [rIO (bL s) cap]) := by
  have hbl := bits_len s
  have hbL := bL_len s
  refine sp_weak ?_
  refine sp_of_ex true [] mixed Tryd.call45 Tryd.func45 rfl Tryd.ntmps45 Tryd.results45 (by decide +kernel) rfl ?_
  simp only [push_cast, ↓branch_true, ↓branch_false, Nat.reduceBEq, Nat.reduceAdd, Nat.reduceMul, Nat.reduceSub, Int.reduceToNat, reduceCtorEq, branch_decide, branch_not, branch_beq, branch_bne]
  refine tr_loop mixed (by kernel_rfl) (fun (x : Nat × Nat) => [(0, .v (.int .u32 (remN s x.1))), (3, .s 0 0 0 x.1 x.2 1)])
    (fun x => [rIO ((bL s).take x.1) x.2]) (fun x => x.1 ≤ (bL s).length ∧ x.1 ≤ x.2) (fun x => (bL s).length - x.1) (0, 0) ⟨Nat.zero_le _, Nat.le_refl _⟩ (Mt.wk (rl := [1000]) ⟨by kernel_rfl, ?_, ?_⟩) ?_
  · simp only [push_cast, ↓branch_true, ↓branch_false, Nat.reduceBEq, Nat.reduceAdd, Nat.reduceMul, Nat.reduceSub, Int.reduceToNat, reduceCtorEq, branch_decide, branch_not, branch_beq, branch_bne]
    try exact rfl
  · simp only [push_cast, ↓branch_true, ↓branch_false, Nat.reduceBEq, Nat.reduceAdd, Nat.reduceMul, Nat.reduceSub, Int.reduceToNat, reduceCtorEq, branch_decide, branch_not, branch_beq, branch_bne]
    omega
  rintro ⟨k, oc⟩ ⟨h1, h2⟩
  simp only at h1 h2
  have hlt : ((bL s).take k).length = k := by simp; omega
  have hrl := remN_lt h k
  simp only [push_cast, ↓branch_true, ↓branch_false, Nat.reduceBEq, Nat.reduceAdd, Nat.reduceMul, Nat.reduceSub, Int.reduceToNat, reduceCtorEq, branch_decide, branch_not, branch_beq, branch_bne]
  refine ⟨fun h0 => ?_, fun h0 => ?_⟩
  · have hb := remN_bits (show s < 4294967296 by omega) k (by omega)
    rw [show remN s k = 0 by omega, bits_zero] at hb
    have hlen := congrArg List.length hb
    simp at hlen
    obtain rfl : k = (bL s).length := by omega
    rw [List.take_length]
    refine ⟨_, _, [0], ?_, by kernel_rfl, ?_, oc, h2, rfl, rfl⟩
    · simp only [push_cast, ↓branch_true, ↓branch_false, Nat.reduceBEq, Nat.reduceAdd, Nat.reduceMul, Nat.reduceSub, Int.reduceToNat, reduceCtorEq, branch_decide, branch_not, branch_beq, branch_bne]
    · simp only [push_cast, ↓branch_true, ↓branch_false, Nat.reduceBEq, Nat.reduceAdd, Nat.reduceMul, Nat.reduceSub, Int.reduceToNat, reduceCtorEq, branch_decide, branch_not, branch_beq, branch_bne]
  have hk : k < (bL s).length := by
    refine Nat.lt_of_not_le fun h3 => h0 ?_
    have hb := remN_bits (show s < 4294967296 by omega) k (by omega)
    rw [List.drop_eq_nil_of_le (by omega)] at hb
    rw [bits_nil (by omega) hb]
    rfl
  obtain ⟨p1, p2⟩ := remN_pos (show s < 4294967296 by omega) (k := k) (by omega)
  refine sp_call (tz32_pu (remN s k) (by omega)) rfl [] rfl ?_ ?_ ?_
  · simp only [push_cast, ↓branch_true, ↓branch_false, Nat.reduceBEq, Nat.reduceAdd, Nat.reduceMul, Nat.reduceSub, Int.reduceToNat, reduceCtorEq, branch_decide, branch_not, branch_beq, branch_bne]
  · simp only [push_cast, ↓branch_true, ↓branch_false, Nat.reduceBEq, Nat.reduceAdd, Nat.reduceMul, Nat.reduceSub, Int.reduceToNat, reduceCtorEq, branch_decide, branch_not, branch_beq, branch_bne]
  rw [if_neg (by omega), p2]
  simp only [push_cast, ↓branch_true, ↓branch_false, Nat.reduceBEq, Nat.reduceAdd, Nat.reduceMul, Nat.reduceSub, Int.reduceToNat, reduceCtorEq, branch_decide, branch_not, branch_beq, branch_bne]
  refine ⟨by omega, ?_⟩
  have hX := take_snoc hk
  have hrem : remN s (k + 1) = remN s k &&& (remN s k - 1) := rfl
  have hand : IntKind.u32.wrap (((BitVec.ofInt IntKind.u32.bits (remN s k : Int) &&& BitVec.ofInt IntKind.u32.bits ((remN s k : Int) - 1)).toNat : Nat) : Int) = ((remN s (k + 1) : Nat) : Int) := by
    rw [show ((remN s k : Int) - 1) = ((remN s k - 1 : Nat) : Int) by omega, u32_and (by omega) (by omega)]
    rfl
  generalize hx : (bL s).take k = X at *
  refine ⟨by omega, Or.inr ⟨hlt, by decide, by omega, by omega, fun cap hcap => ⟨by omega, ?_⟩⟩⟩
  rw [hand]
  refine lpK_normal (k + 1, cap) [2] ⟨by simp only; omega, by simp only; omega⟩ (by simp only; omega) (by kernel_rfl) ?_ ?_
  · simp only [push_cast, ↓branch_true, ↓branch_false, Nat.reduceBEq, Nat.reduceAdd, Nat.reduceMul, Nat.reduceSub, Int.reduceToNat, reduceCtorEq, branch_decide, branch_not, branch_beq, branch_bne]
    try omega
  · simp only [push_cast, ↓branch_true, ↓branch_false, Nat.reduceBEq, Nat.reduceAdd, Nat.reduceMul, Nat.reduceSub, Int.reduceToNat, reduceCtorEq, branch_decide, branch_not, branch_beq, branch_bne, hX, List.length_append, hlt]
    intro i hi q hq
    by_cases e : q < k
    · have hb2 : decide (q < k) = true := by simpa using e
      rw [ix_app_ne (by omega), hb2]
      simp only [push_cast, ↓branch_true, ↓branch_false, Nat.reduceBEq, Nat.reduceAdd, Nat.reduceMul, Nat.reduceSub, Int.reduceToNat, reduceCtorEq, branch_decide, branch_not, branch_beq, branch_bne]
    · obtain rfl : q = k := by omega
      have hb2 : decide (q < q) = false := by simp
      rw [show ix (X ++ [ix (bL s) q]) q = ix (bL s) q by rw [← hlt, ix_app_last], hb2]
      simp only [push_cast, ↓branch_true, ↓branch_false, Nat.reduceBEq, Nat.reduceAdd, Nat.reduceMul, Nat.reduceSub, Int.reduceToNat, reduceCtorEq, branch_decide, branch_not, branch_beq, branch_bne]
end Go.Proofs.YtapbhppfecfobaaDoor
