/- Contracts: Clone; the search for all. -/
import Derived.Test.YtdeaaonppokgkaaC9
set_option maxRecDepth 100000
set_option linter.unusedSimpArgs false
set_option linter.unusedVariables false
-- 
namespace Go.Proofs.Ytdeaaonppokgkaa.Pat
open Go.RowKit
/-- A row of ints by its elements, read or owned. -/
def rF (ro : Bool) (n cap : Nat) (f : Nat → Int) : Ob := ⟨3, ro, .row 1 1 (fun _ => n) (fun _ => cap) (fun _ k => [.v (.int .i64 (f k))])⟩
attribute [push_cast] rF
theorem clone_sp (ro : Bool) (n c cc : Nat) (f : Nat → Int) (hc : n ≤ c) (hn : n ≤ 1000000) : Sp Try.prog 83 [.s 0 0 0 n c 1] [rF ro n cc f] (fun r H => ∃ cap, n ≤ cap ∧ r = .s 1 0 0 n cap 1 ∧ H = [rF ro n cc f, rOwn 3 n cap f]) := by
  refine sp_weak ?_
  refine sp_of_ex true [] mixed Try.call83 Try.func83 rfl Try.ntmps83 Try.results83 (by decide +kernel) rfl ?_
  simp only [push_cast, ↓branch_true, ↓branch_false, Nat.reduceBEq, Nat.reduceAdd, Nat.reduceMul, Nat.reduceSub, Int.reduceToNat, reduceCtorEq, branch_decide, branch_not, branch_beq, branch_bne]
  intro b hb
  cases b
  · simp only [branch_false]
    refine ⟨by omega, by omega, ?_, appZ_of (fun h => ?_) fun _ => .inl ⟨by omega, by omega, fun cap hcap => ?_⟩⟩
    · unfold srcOk
      split <;> simp [lenP, lenIs, ones, one1]
    · subst h
      refine ⟨_, _, [0, 1], ?_, ?_, ?_, 0, Nat.le_refl _, rfl, rfl⟩
      · simp only [push_cast, ↓branch_true, ↓branch_false, Nat.reduceBEq, Nat.reduceAdd, Nat.reduceMul, Nat.reduceSub, Int.reduceToNat, reduceCtorEq, branch_decide, branch_not, branch_beq, branch_bne]
      · kernel_rfl
      · simp only [push_cast, ↓branch_true, ↓branch_false, Nat.reduceBEq, Nat.reduceAdd, Nat.reduceMul, Nat.reduceSub, Int.reduceToNat, reduceCtorEq, branch_decide, branch_not, branch_beq, branch_bne]
        cases ro <;> simp [rowM]
    · refine ⟨_, _, [0, 2], ?_, ?_, ?_, cap, hcap, rfl, rfl⟩
      · simp only [push_cast, ↓branch_true, ↓branch_false, Nat.reduceBEq, Nat.reduceAdd, Nat.reduceMul, Nat.reduceSub, Int.reduceToNat, reduceCtorEq, branch_decide, branch_not, branch_beq, branch_bne]
      · kernel_rfl
      · simp only [push_cast, ↓branch_true, ↓branch_false, Nat.reduceBEq, Nat.reduceAdd, Nat.reduceMul, Nat.reduceSub, Int.reduceToNat, reduceCtorEq, branch_decide, branch_not, branch_beq, branch_bne]
        cases ro <;> simp
  · simp only [branch_true]
    have hc0 : c = 0 := by
      rcases Nat.eq_zero_or_pos c with h | h
      · exact h
      · have := hb h; cases this
    obtain rfl : n = 0 := by omega
    refine ⟨_, _, [0, 1], ?_, ?_, ?_, 0, Nat.le_refl _, rfl, rfl⟩
    · simp only [push_cast, ↓branch_true, ↓branch_false, Nat.reduceBEq, Nat.reduceAdd, Nat.reduceMul, Nat.reduceSub, Int.reduceToNat, reduceCtorEq, branch_decide, branch_not, branch_beq, branch_bne]
    · kernel_rfl
    · simp only [push_cast, ↓branch_true, ↓branch_false, Nat.reduceBEq, Nat.reduceAdd, Nat.reduceMul, Nat.reduceSub, Int.reduceToNat, reduceCtorEq, branch_decide, branch_not, branch_beq, branch_bne]
      cases ro <;> simp [rowM]
end Go.Proofs.Ytdeaaonppokgkaa.Pat
