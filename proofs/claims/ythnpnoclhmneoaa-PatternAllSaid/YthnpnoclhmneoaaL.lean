/- Contracts: the example. -/
import Derived.Test.YthnpnoclhmneoaaK
set_option maxRecDepth 100000
set_option linter.unusedSimpArgs false
set_option linter.unusedVariables false
namespace Go.Proofs.Ythnpnoclhmneoaa
open Go.RowKit
def exL : List Pc := [⟨450, 2⟩, ⟨200, 5⟩]
theorem example_sp : Sp Try.prog 34 [] [] (fun r H => r = .s 0 0 0 2 2 2 ∧ H = [rPc exL]) := by
  refine sp_weak ?_
  refine sp_of_ex true [] mixed Try.call34 Try.func34 rfl Try.ntmps34 Try.results34 (by decide +kernel) rfl ?_
  simp only [push_cast, ↓branch_true, ↓branch_false, Nat.reduceBEq, Nat.reduceAdd, Nat.reduceMul, Nat.reduceSub, Int.reduceToNat, reduceCtorEq, branch_decide, branch_not, branch_beq, branch_bne]
  refine ⟨by omega, _, _, [0], ?_, ?_, ?_, rfl, rfl⟩
  · simp only [push_cast, ↓branch_true, ↓branch_false, Nat.reduceBEq, Nat.reduceAdd, Nat.reduceMul, Nat.reduceSub, Int.reduceToNat, reduceCtorEq, branch_decide, branch_not, branch_beq, branch_bne]
  · kernel_rfl
  · simp only [push_cast, ↓branch_true, ↓branch_false, Nat.reduceBEq, Nat.reduceAdd, Nat.reduceMul, Nat.reduceSub, Int.reduceToNat, reduceCtorEq, branch_decide, branch_not, branch_beq, branch_bne]
    intro j hj
    refine ⟨Nat.le_refl _, fun k hk => ?_⟩
    have hk : k < 2 := hk
    have : k = 0 ∨ k = 1 := by omega
    rcases this with rfl | rfl
    · exact ⟨rfl, rfl, trivial⟩
    · exact ⟨rfl, rfl, trivial⟩
end Go.Proofs.Ythnpnoclhmneoaa
