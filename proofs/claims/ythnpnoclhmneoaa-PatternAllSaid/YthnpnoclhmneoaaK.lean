/- Contracts: EqualFunc of lists of patterns. -/
import Derived.Test.YthnpnoclhmneoaaJ
set_option maxRecDepth 100000
set_option linter.unusedSimpArgs false
set_option linter.unusedVariables false
namespace Go.Proofs.Ythnpnoclhmneoaa
open Go.RowKit
/-- A list of rows, by the number of the rows' object. -/
def rOut (j : Nat) (P : List (List Int)) (caps : Nat → Nat) : Ob := ⟨32, true, .row 1 1 (fun _ => P.length) (fun _ => 0) (fun _ k => [.s j k 0 (ix P k).length (caps k) 1])⟩
attribute [push_cast] rOut
theorem lists_eq_ix : ∀ {l m : List (List Int)}, l.length = m.length → (∀ k, k < l.length → ix l k = ix m k) → l = m := fun {l m} hl h =>
  List.ext_getElem hl fun k h1 h2 => by rw [← ix_eq h1, ← ix_eq h2]; exact h k h1
theorem equalFunc_pu (P Q : List (List Int)) (p q : Nat → Nat) (c d : Nat) (hP : P.length ≤ 9223372036854775806) (hQ : Q.length ≤ 9223372036854775806) (hp : ∀ x ∈ P, x.length ≤ 9223372036854775806) (hq : ∀ x ∈ Q, x.length ≤ 9223372036854775806) :
    Pu Try.prog 13 [.s 1 0 0 P.length c 1, .s 3 0 0 Q.length d 1, .f (.func 14) [] []] [rLL P, rOut 0 P p, rLL Q, rOut 2 Q q] (.v (.bool (decide (P = Q)))) := by
  refine pu_of_ex true [] mixed Try.call13 Try.func13 rfl Try.ntmps13 Try.results13 (by decide +kernel) rfl rfl rfl ?_
  simp only [push_cast, ↓branch_true, ↓branch_false, Nat.reduceBEq, Nat.reduceAdd, Nat.reduceMul, Nat.reduceSub, Int.reduceToNat, reduceCtorEq, branch_decide, branch_not, branch_beq, branch_bne]
  refine ⟨fun h => ?_, fun h => ?_⟩
  · refine tr_loop0 mixed (by kernel_rfl) (fun (k : Nat) => [(17, .v (.int .i64 k)), (16, .v (.int .i64 P.length)), (15, .s 1 0 0 P.length c 1), (1, .s 3 0 0 Q.length d 1), (2, .f (.func 14) [] [])]) (fun k => k ≤ P.length ∧ ∀ j, j < k → ix P j = ix Q j) (fun k => P.length - k) 0 ⟨Nat.zero_le _, fun j h => by omega⟩ ?_ ?_
    · simp only [push_cast, ↓branch_true, ↓branch_false, Nat.reduceBEq, Nat.reduceAdd, Nat.reduceMul, Nat.reduceSub, Int.reduceToNat, reduceCtorEq, branch_decide, branch_not, branch_beq, branch_bne]
    · rintro k ⟨hk, hn⟩
      simp only [push_cast, ↓branch_true, ↓branch_false, Nat.reduceBEq, Nat.reduceAdd, Nat.reduceMul, Nat.reduceSub, Int.reduceToNat, reduceCtorEq, branch_decide, branch_not, branch_beq, branch_bne]
      refine ⟨fun h3 => ?_, fun h3 => ?_⟩
      · repeat (with_reducible refine And.intro (by omega) ?_)
        refine sp_call (equal_pu P Q k k (p k) (q k) (by omega) (by omega) (hp _ (ix_mem (by omega))) (hq _ (ix_mem (by omega)))) rfl [0, 2] rfl ?_ ?_ ?_
        · simp only [push_cast, ↓branch_true, ↓branch_false, Nat.reduceBEq, Nat.reduceAdd, Nat.reduceMul, Nat.reduceSub, Int.reduceToNat, reduceCtorEq, branch_decide, branch_not, branch_beq, branch_bne]
        · simp only [push_cast, ↓branch_true, ↓branch_false, Nat.reduceBEq, Nat.reduceAdd, Nat.reduceMul, Nat.reduceSub, Int.reduceToNat, reduceCtorEq, branch_decide, branch_not, branch_beq, branch_bne]
        · simp only [push_cast, ↓branch_true, ↓branch_false, Nat.reduceBEq, Nat.reduceAdd, Nat.reduceMul, Nat.reduceSub, Int.reduceToNat, reduceCtorEq, branch_decide, branch_not, branch_beq, branch_bne]
          refine ⟨fun h4 => ?_, fun h4 => ?_⟩
          · repeat (with_reducible refine And.intro (by omega) ?_)
            refine lp0_normal (k + 1) ⟨by omega, fun j hj => ?_⟩ (by omega) ?_
            · by_cases e : j = k
              · subst e; exact h4
              · exact hn j (by omega)
            · simp only [push_cast, ↓branch_true, ↓branch_false, Nat.reduceBEq, Nat.reduceAdd, Nat.reduceMul, Nat.reduceSub, Int.reduceToNat, reduceCtorEq, branch_decide, branch_not, branch_beq, branch_bne]
          · have : ¬ P = Q := fun e => h4 (by rw [e])
            simp [this]
      · have : P = Q := lists_eq_ix (by omega) fun j hj => hn j (by omega)
        simp [this]
  · have hn : ¬ P.length = Q.length := by omega
    have : ¬ P = Q := fun e => hn (by rw [e])
    simp [this]
end Go.Proofs.Ythnpnoclhmneoaa
