/- Contracts: Equal of lists of ints. -/
import Derived.Test.YthnpnoclhmneoaaI
set_option maxRecDepth 100000
set_option linter.unusedSimpArgs false
set_option linter.unusedVariables false
namespace Go.Proofs.Ythnpnoclhmneoaa
open Go.RowKit
/-- Rows of ints that are only read, by a list of lists. -/
def rLL (P : List (List Int)) : Ob := ⟨3, true, .row 1 P.length (fun i => (ix P i).length) (fun _ => 0) (fun i k => [.v (.int .i64 (ix (ix P i) k))])⟩
attribute [push_cast] rLL
theorem list_eq_ix : ∀ {l m : List Int}, l.length = m.length → (∀ k, k < l.length → ix l k = ix m k) → l = m := fun {l m} hl h =>
  List.ext_getElem hl fun k h1 h2 => by rw [← ix_eq h1, ← ix_eq h2]; exact h k h1
theorem equal_pu (P Q : List (List Int)) (a b c d : Nat) (ha : a < P.length) (hb : b < Q.length) (h1 : (ix P a).length ≤ 9223372036854775806) (h2 : (ix Q b).length ≤ 9223372036854775806) :
    Pu Try.prog 14 [.s 0 a 0 (ix P a).length c 1, .s 1 b 0 (ix Q b).length d 1] [rLL P, rLL Q] (.v (.bool (decide (ix P a = ix Q b)))) := by
  refine pu_of_ex true [] mixed Try.call14 Try.func14 rfl Try.ntmps14 Try.results14 (by decide +kernel) rfl rfl rfl ?_
  simp only [push_cast, ↓branch_true, ↓branch_false, Nat.reduceBEq, Nat.reduceAdd, Nat.reduceMul, Nat.reduceSub, Int.reduceToNat, reduceCtorEq, branch_decide, branch_not, branch_beq, branch_bne]
  refine ⟨fun h => ?_, fun h => ?_⟩
  · refine tr_loop0 mixed (by kernel_rfl) (fun (k : Nat) => [(13, .v (.int .i64 k)), (12, .v (.int .i64 (ix P a).length)), (0, .s 0 a 0 (ix P a).length c 1), (1, .s 1 b 0 (ix Q b).length d 1)]) (fun k => k ≤ (ix P a).length ∧ ∀ j, j < k → ix (ix P a) j = ix (ix Q b) j) (fun k => (ix P a).length - k) 0 ⟨Nat.zero_le _, fun j h => by omega⟩ ?_ ?_
    · simp only [push_cast, ↓branch_true, ↓branch_false, Nat.reduceBEq, Nat.reduceAdd, Nat.reduceMul, Nat.reduceSub, Int.reduceToNat, reduceCtorEq, branch_decide, branch_not, branch_beq, branch_bne]
    · rintro k ⟨hk, hn⟩
      simp only [push_cast, ↓branch_true, ↓branch_false, Nat.reduceBEq, Nat.reduceAdd, Nat.reduceMul, Nat.reduceSub, Int.reduceToNat, reduceCtorEq, branch_decide, branch_not, branch_beq, branch_bne]
      refine ⟨fun h3 => ?_, fun h3 => ?_⟩
      · repeat (with_reducible refine And.intro (by omega) ?_)
        refine ⟨fun h4 => ?_, fun h4 => ?_⟩
        · repeat (with_reducible refine And.intro (by omega) ?_)
          refine lp0_normal (k + 1) ⟨by omega, fun j hj => ?_⟩ (by omega) ?_
          · by_cases e : j = k
            · subst e; exact h4
            · exact hn j (by omega)
          · simp only [push_cast, ↓branch_true, ↓branch_false, Nat.reduceBEq, Nat.reduceAdd, Nat.reduceMul, Nat.reduceSub, Int.reduceToNat, reduceCtorEq, branch_decide, branch_not, branch_beq, branch_bne]
        · have : ¬ ix P a = ix Q b := fun e => h4 (by rw [e])
          simp [this]
      · have : ix P a = ix Q b := list_eq_ix (by omega) fun j hj => hn j (by omega)
        simp [this]
  · have hn : ¬ (ix P a).length = (ix Q b).length := by omega
    have : ¬ ix P a = ix Q b := fun e => hn (by rw [e])
    simp [this]
end Go.Proofs.Ythnpnoclhmneoaa
