/- Contracts: the first subset with a sum. -/
import Derived.Test.YtapbhppfecfobaaDoorE
set_option maxRecDepth 100000
set_option linter.unusedSimpArgs false
set_option linter.unusedVariables false
namespace Go.Proofs.YtapbhppfecfobaaDoor
open Go.RowKit
def szS (s : Nat) : Int := (bitsL s).length
/-- Whether a subset comes before another one. -/
def lessS (s t : Nat) : Bool := decide (szS s < szS t) || (decide (szS s = szS t) && bef s t)
/-- The first one of the first k subsets with a sum, and so many indices at least. -/
def firstT (f : Nat → Int) (sum least : Int) : Nat → Option Nat
  | 0 => none
  | k + 1 => if f k = sum ∧ least ≤ szS k then (match firstT f sum least k with
      | none => some k
      | some b => bif lessS k b then some k else some b) else firstT f sum least k
theorem firstT_lt {f : Nat → Int} {sum least : Int} : ∀ {k b : Nat}, firstT f sum least k = some b → b < k
  | 0, b, h => by cases h
  | k + 1, b, h => by
    unfold firstT at h
    split at h
    · split at h
      · obtain rfl : k = b := by simpa using h
        omega
      · rename_i b' hb'
        have := firstT_lt hb'
        cases hl : lessS k b' with
        | true =>
          rw [hl] at h
          obtain rfl : k = b := by simpa using h
          omega
        | false =>
          rw [hl] at h
          obtain rfl : b' = b := by simpa using h
          omega
    · have := firstT_lt h
      omega
def bestV (o : Option Nat) : SV := .v (.int .u32 (o.getD 0 : Nat))
set_option maxHeartbeats 2000000 in
theorem first_pu (a : List Int) (sum least : Int) (c : Nat) (hl : a.length ≤ 65536) : Pu Tryd.prog 48 [.s 0 0 0 a.length c 1, .v (.int .i64 sum), .v (.int .i64 least)] [rR a]
    (.t [.v (.int .u32 ((firstT (ix a) sum least a.length).getD 0 : Nat)), .v (.bool (firstT (ix a) sum least a.length).isSome)]) := by
  refine pu_of_ex true [] mixed Tryd.call48 Tryd.func48 rfl Tryd.ntmps48 Tryd.results48 (by decide +kernel) rfl rfl rfl ?_
  simp only [push_cast, ↓branch_true, ↓branch_false, Nat.reduceBEq, Nat.reduceAdd, Nat.reduceMul, Nat.reduceSub, Int.reduceToNat, reduceCtorEq, branch_decide, branch_not, branch_beq, branch_bne]
  refine tr_loop0 mixed (by kernel_rfl) (fun (k : Nat) => [(15, .v (.int .i64 k)), (14, .v (.int .i64 a.length)), (13, .s 0 0 0 a.length c 1), (1, .v (.int .i64 sum)), (2, .v (.int .i64 least)), (8, .v (.int .u32 ((firstT (ix a) sum least k).getD 0 : Nat))), (9, .v (.bool (firstT (ix a) sum least k).isSome))]) (fun k => k ≤ a.length) (fun k => a.length - k) 0 (Nat.zero_le _) ?_ ?_
  · simp only [push_cast, ↓branch_true, ↓branch_false, Nat.reduceBEq, Nat.reduceAdd, Nat.reduceMul, Nat.reduceSub, Int.reduceToNat, reduceCtorEq, branch_decide, branch_not, branch_beq, branch_bne]
    try exact ⟨rfl, rfl⟩
  intro k hk
  simp only [push_cast, ↓branch_true, ↓branch_false, Nat.reduceBEq, Nat.reduceAdd, Nat.reduceMul, Nat.reduceSub, Int.reduceToNat, reduceCtorEq, branch_decide, branch_not, branch_beq, branch_bne]
  refine ⟨fun h => ?_, fun h => ?_⟩
  rotate_left
  · obtain rfl : k = a.length := by omega
    rfl
  have hk2 : k < a.length := by omega
  repeat (with_reducible refine And.intro (by omega) ?_)
  have hk3 : k < 65536 := by omega
  have hlt := @firstT_lt (ix a) sum least k
  have e1 : firstT (ix a) sum least (k + 1) = if ix a k = sum ∧ least ≤ szS k then (match firstT (ix a) sum least k with
      | none => some k
      | some b => bif lessS k b then some k else some b) else firstT (ix a) sum least k := rfl
  generalize firstT (ix a) sum least k = o at *
  refine ⟨fun h5 => ?_, fun h5 => ?_⟩
  rotate_left
  · rw [if_neg (fun h => h5 h.1)] at e1
    repeat (with_reducible refine And.intro (by omega) ?_)
    refine lp0_normal (k + 1) (by omega) (by omega) ?_
    simp only [push_cast, ↓branch_true, ↓branch_false, Nat.reduceBEq, Nat.reduceAdd, Nat.reduceMul, Nat.reduceSub, Int.reduceToNat, reduceCtorEq, branch_decide, branch_not, branch_beq, branch_bne, e1]
  refine sp_call (size_pu k hk3) rfl [] rfl ?_ ?_ ?_
  · simp only [push_cast, ↓branch_true, ↓branch_false, Nat.reduceBEq, Nat.reduceAdd, Nat.reduceMul, Nat.reduceSub, Int.reduceToNat, reduceCtorEq, branch_decide, branch_not, branch_beq, branch_bne]
  · simp only [push_cast, ↓branch_true, ↓branch_false, Nat.reduceBEq, Nat.reduceAdd, Nat.reduceMul, Nat.reduceSub, Int.reduceToNat, reduceCtorEq, branch_decide, branch_not, branch_beq, branch_bne]
  simp only [push_cast, ↓branch_true, ↓branch_false, Nat.reduceBEq, Nat.reduceAdd, Nat.reduceMul, Nat.reduceSub, Int.reduceToNat, reduceCtorEq, branch_decide, branch_not, branch_beq, branch_bne]
  refine ⟨fun h6 => ?_, fun h6 => ?_⟩
  · rw [if_neg (fun h => by have := h.2; unfold szS at this; omega)] at e1
    repeat (with_reducible refine And.intro (by omega) ?_)
    refine lp0_normal (k + 1) (by omega) (by omega) ?_
    simp only [push_cast, ↓branch_true, ↓branch_false, Nat.reduceBEq, Nat.reduceAdd, Nat.reduceMul, Nat.reduceSub, Int.reduceToNat, reduceCtorEq, branch_decide, branch_not, branch_beq, branch_bne, e1]
  rw [if_pos ⟨h5, by unfold szS; omega⟩] at e1
  cases o with
  | none =>
    simp only at e1
    simp only [push_cast, ↓branch_true, ↓branch_false, Nat.reduceBEq, Nat.reduceAdd, Nat.reduceMul, Nat.reduceSub, Int.reduceToNat, reduceCtorEq, branch_decide, branch_not, branch_beq, branch_bne]
    repeat (with_reducible refine And.intro (by omega) ?_)
    refine lp0_normal (k + 1) (by omega) (by omega) ?_
    simp only [push_cast, ↓branch_true, ↓branch_false, Nat.reduceBEq, Nat.reduceAdd, Nat.reduceMul, Nat.reduceSub, Int.reduceToNat, reduceCtorEq, branch_decide, branch_not, branch_beq, branch_bne, e1, Option.getD_some]
  | some b =>
  simp only at e1
  have hb : b < 65536 := by have := hlt rfl; omega
  simp only [push_cast, ↓branch_true, ↓branch_false, Nat.reduceBEq, Nat.reduceAdd, Nat.reduceMul, Nat.reduceSub, Int.reduceToNat, reduceCtorEq, branch_decide, branch_not, branch_beq, branch_bne]
  have hl2 : lessS k b = (decide (((bitsL k).length : Int) < (bitsL b).length) || (decide (((bitsL k).length : Int) = (bitsL b).length) && bef k b)) := rfl
  have hbk : b < k := hlt rfl
  refine sp_call (size_pu k hk3) rfl [] rfl ?_ ?_ ?_
  · simp only [push_cast, ↓branch_true, ↓branch_false, Nat.reduceBEq, Nat.reduceAdd, Nat.reduceMul, Nat.reduceSub, Int.reduceToNat, reduceCtorEq, branch_decide, branch_not, branch_beq, branch_bne]
  · simp only [push_cast, ↓branch_true, ↓branch_false, Nat.reduceBEq, Nat.reduceAdd, Nat.reduceMul, Nat.reduceSub, Int.reduceToNat, reduceCtorEq, branch_decide, branch_not, branch_beq, branch_bne]
  simp only [push_cast, ↓branch_true, ↓branch_false, Nat.reduceBEq, Nat.reduceAdd, Nat.reduceMul, Nat.reduceSub, Int.reduceToNat, reduceCtorEq, branch_decide, branch_not, branch_beq, branch_bne, Option.getD_some]
  refine sp_call (size_pu b hb) rfl [] rfl ?_ ?_ ?_
  · simp only [push_cast, ↓branch_true, ↓branch_false, Nat.reduceBEq, Nat.reduceAdd, Nat.reduceMul, Nat.reduceSub, Int.reduceToNat, reduceCtorEq, branch_decide, branch_not, branch_beq, branch_bne]
  · simp only [push_cast, ↓branch_true, ↓branch_false, Nat.reduceBEq, Nat.reduceAdd, Nat.reduceMul, Nat.reduceSub, Int.reduceToNat, reduceCtorEq, branch_decide, branch_not, branch_beq, branch_bne]
  simp only [push_cast, ↓branch_true, ↓branch_false, Nat.reduceBEq, Nat.reduceAdd, Nat.reduceMul, Nat.reduceSub, Int.reduceToNat, reduceCtorEq, branch_decide, branch_not, branch_beq, branch_bne]
  refine ⟨fun h7 => ?_, fun h7 => ?_⟩
  · rw [hl2, decide_eq_true h7, Bool.true_or, cond_true] at e1
    repeat (with_reducible refine And.intro (by omega) ?_)
    refine lp0_normal (k + 1) (by omega) (by omega) ?_
    simp only [push_cast, ↓branch_true, ↓branch_false, Nat.reduceBEq, Nat.reduceAdd, Nat.reduceMul, Nat.reduceSub, Int.reduceToNat, reduceCtorEq, branch_decide, branch_not, branch_beq, branch_bne, e1, Option.getD_some]
  rw [decide_eq_false h7] at hl2
  refine sp_call (size_pu k hk3) rfl [] rfl ?_ ?_ ?_
  · simp only [push_cast, ↓branch_true, ↓branch_false, Nat.reduceBEq, Nat.reduceAdd, Nat.reduceMul, Nat.reduceSub, Int.reduceToNat, reduceCtorEq, branch_decide, branch_not, branch_beq, branch_bne]
  · simp only [push_cast, ↓branch_true, ↓branch_false, Nat.reduceBEq, Nat.reduceAdd, Nat.reduceMul, Nat.reduceSub, Int.reduceToNat, reduceCtorEq, branch_decide, branch_not, branch_beq, branch_bne]
  simp only [push_cast, ↓branch_true, ↓branch_false, Nat.reduceBEq, Nat.reduceAdd, Nat.reduceMul, Nat.reduceSub, Int.reduceToNat, reduceCtorEq, branch_decide, branch_not, branch_beq, branch_bne, Option.getD_some]
  refine sp_call (size_pu b hb) rfl [] rfl ?_ ?_ ?_
  · simp only [push_cast, ↓branch_true, ↓branch_false, Nat.reduceBEq, Nat.reduceAdd, Nat.reduceMul, Nat.reduceSub, Int.reduceToNat, reduceCtorEq, branch_decide, branch_not, branch_beq, branch_bne]
  · simp only [push_cast, ↓branch_true, ↓branch_false, Nat.reduceBEq, Nat.reduceAdd, Nat.reduceMul, Nat.reduceSub, Int.reduceToNat, reduceCtorEq, branch_decide, branch_not, branch_beq, branch_bne]
  simp only [push_cast, ↓branch_true, ↓branch_false, Nat.reduceBEq, Nat.reduceAdd, Nat.reduceMul, Nat.reduceSub, Int.reduceToNat, reduceCtorEq, branch_decide, branch_not, branch_beq, branch_bne]
  refine ⟨fun h8 => ?_, fun h8 => ?_⟩
  rotate_left
  · rw [hl2, decide_eq_false h8, Bool.false_and, Bool.or_false, cond_false] at e1
    repeat (with_reducible refine And.intro (by omega) ?_)
    refine lp0_normal (k + 1) (by omega) (by omega) ?_
    simp only [push_cast, ↓branch_true, ↓branch_false, Nat.reduceBEq, Nat.reduceAdd, Nat.reduceMul, Nat.reduceSub, Int.reduceToNat, reduceCtorEq, branch_decide, branch_not, branch_beq, branch_bne, e1, Option.getD_some]
  rw [decide_eq_true h8] at hl2
  refine sp_call (before_pu k b hk3 hb (by omega)) rfl [] rfl ?_ ?_ ?_
  · simp only [push_cast, ↓branch_true, ↓branch_false, Nat.reduceBEq, Nat.reduceAdd, Nat.reduceMul, Nat.reduceSub, Int.reduceToNat, reduceCtorEq, branch_decide, branch_not, branch_beq, branch_bne, Option.getD_some]
  · simp only [push_cast, ↓branch_true, ↓branch_false, Nat.reduceBEq, Nat.reduceAdd, Nat.reduceMul, Nat.reduceSub, Int.reduceToNat, reduceCtorEq, branch_decide, branch_not, branch_beq, branch_bne]
  rw [hl2] at e1
  cases hbf : bef k b with
  | true =>
    rw [hbf] at e1
    simp only [Bool.and_self, Bool.and_true, Bool.and_false, Bool.or_true, Bool.or_false, Bool.false_or, cond_true, cond_false] at e1
    simp only [push_cast, ↓branch_true, ↓branch_false, Nat.reduceBEq, Nat.reduceAdd, Nat.reduceMul, Nat.reduceSub, Int.reduceToNat, reduceCtorEq, branch_decide, branch_not, branch_beq, branch_bne]
    repeat (with_reducible refine And.intro (by omega) ?_)
    refine lp0_normal (k + 1) (by omega) (by omega) ?_
    simp only [push_cast, ↓branch_true, ↓branch_false, Nat.reduceBEq, Nat.reduceAdd, Nat.reduceMul, Nat.reduceSub, Int.reduceToNat, reduceCtorEq, branch_decide, branch_not, branch_beq, branch_bne, e1, Option.getD_some]
  | false =>
    rw [hbf] at e1
    simp only [Bool.and_self, Bool.and_true, Bool.and_false, Bool.or_true, Bool.or_false, Bool.false_or, cond_true, cond_false] at e1
    simp only [push_cast, ↓branch_true, ↓branch_false, Nat.reduceBEq, Nat.reduceAdd, Nat.reduceMul, Nat.reduceSub, Int.reduceToNat, reduceCtorEq, branch_decide, branch_not, branch_beq, branch_bne]
    repeat (with_reducible refine And.intro (by omega) ?_)
    refine lp0_normal (k + 1) (by omega) (by omega) ?_
    simp only [push_cast, ↓branch_true, ↓branch_false, Nat.reduceBEq, Nat.reduceAdd, Nat.reduceMul, Nat.reduceSub, Int.reduceToNat, reduceCtorEq, branch_decide, branch_not, branch_beq, branch_bne, e1, Option.getD_some]
end Go.Proofs.YtapbhppfecfobaaDoor
