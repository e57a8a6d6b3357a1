/- Contracts: Equal, Same, the laws' small functions. -/
import Derived.Test.YtapbhppfecfobaaDoorT
set_option maxRecDepth 100000
set_option linter.unusedSimpArgs false
set_option linter.unusedVariables false
namespace Go.Proofs.YtapbhppfecfobaaDoor
open Go.RowKit
theorem equal_pu (a b : List Int) (c c2 : Nat) (ha : a.length ≤ 1000000) (hb : b.length ≤ 1000000) : Pu Tryd.prog 15 [.s 0 0 0 a.length c 1, .s 1 0 0 b.length c2 1] [rR a, rR b] (.v (.bool (decide (a = b)))) := by
  refine pu_of_ex true [] mixed Tryd.call15 Tryd.func15 rfl Tryd.ntmps15 Tryd.results15 (by decide +kernel) rfl rfl rfl ?_
  simp only [push_cast, ↓branch_true, ↓branch_false, Nat.reduceBEq, Nat.reduceAdd, Nat.reduceMul, Nat.reduceSub, Int.reduceToNat, reduceCtorEq, branch_decide, branch_not, branch_beq, branch_bne]
  refine ⟨fun h0 => ?_, fun h0 => ?_⟩
  rotate_right
  · rw [decide_eq_false fun e => h0 (by rw [e])]
  refine tr_loop0 mixed (by kernel_rfl) (fun (k : Nat) => [(13, .v (.int .i64 k)), (12, .v (.int .i64 a.length)), (0, .s 0 0 0 a.length c 1), (1, .s 1 0 0 b.length c2 1)]) (fun k => k ≤ a.length ∧ ∀ j, j < k → ix a j = ix b j) (fun k => a.length - k) 0 ⟨Nat.zero_le _, fun j h => by omega⟩ ?_ ?_
  · simp only [push_cast, ↓branch_true, ↓branch_false, Nat.reduceBEq, Nat.reduceAdd, Nat.reduceMul, Nat.reduceSub, Int.reduceToNat, reduceCtorEq, branch_decide, branch_not, branch_beq, branch_bne]
    try rfl
  rintro k ⟨h1, h2⟩
  simp only [push_cast, ↓branch_true, ↓branch_false, Nat.reduceBEq, Nat.reduceAdd, Nat.reduceMul, Nat.reduceSub, Int.reduceToNat, reduceCtorEq, branch_decide, branch_not, branch_beq, branch_bne]
  refine ⟨fun h => ?_, fun h => ?_⟩
  rotate_left
  · obtain rfl : k = a.length := by omega
    have e : a = b := List.ext_getElem (by omega) fun q p1 p2 => by
      have := h2 q p1
      rwa [ix_eq p1, ix_eq p2] at this
    rw [decide_eq_true e]
  · repeat (with_reducible refine And.intro (by omega) ?_)
    refine ⟨fun h5 => ?_, fun h5 => ?_⟩
    · repeat (with_reducible refine And.intro (by omega) ?_)
      refine lp0_normal (k + 1) ⟨by omega, fun j hj => by
        rcases Nat.lt_or_eq_of_le (Nat.le_of_lt_succ hj) with h3 | h3
        · exact h2 j h3
        · subst h3; exact h5⟩ (by omega) ?_
      simp only [push_cast, ↓branch_true, ↓branch_false, Nat.reduceBEq, Nat.reduceAdd, Nat.reduceMul, Nat.reduceSub, Int.reduceToNat, reduceCtorEq, branch_decide, branch_not, branch_beq, branch_bne]
    · rw [decide_eq_false fun e => h5 (by rw [e])]
theorem long_pu (l : List Int) (c : Nat) (hl : l.length ≤ 9223372036854775807) : Pu Tryd.prog 10 [.s 0 0 0 l.length c 1] [rR l] (.v (.bool ((decide (8 < l.length) && decide (l.length ≤ 16)) || decide (100 < l.length)))) := by
  refine pu_of_ex true [] mixed Tryd.call10 Tryd.func10 rfl Tryd.ntmps10 Tryd.results10 (by decide +kernel) rfl rfl rfl ?_
  simp only [push_cast, ↓branch_true, ↓branch_false, Nat.reduceBEq, Nat.reduceAdd, Nat.reduceMul, Nat.reduceSub, Int.reduceToNat, reduceCtorEq, branch_decide, branch_not, branch_beq, branch_bne]
  by_cases h1 : 8 < l.length
  · by_cases h2 : l.length ≤ 16
    · refine ⟨fun _ => ⟨fun _ => by simp [h1, h2], fun h => absurd (by omega) h⟩, fun h => absurd (by omega) h⟩
    · have e : decide ((100 : Int) < (l.length : Int)) = decide (100 < l.length) := by rw [decide_eq_decide]; omega
      refine ⟨fun _ => ⟨fun h => by omega, fun _ => by rw [e]; simp [h2]⟩, fun h => absurd (by omega) h⟩
  · have e : decide ((100 : Int) < (l.length : Int)) = decide (100 < l.length) := by rw [decide_eq_decide]; omega
    refine ⟨fun h => by omega, fun _ => by rw [e]; simp [h1]⟩
def oLi (F : Nat) (a : List (List Int)) (cp : Nat → Nat) : Ob := ⟨22, true, .row 1 1 (fun _ => a.length) (fun _ => 0) (fun _ k => [.s F k 0 (ix a k).length (cp k) 1])⟩
def oLf (a : List (List Int)) : Ob := ⟨3, true, .row 1 (big + 2) (fun k => (ix a k).length) (fun _ => 0) (fun k q => [.v (.int .i64 (ix (ix a k) q))])⟩
attribute [push_cast] oLi oLf
theorem earlierM_pu (a b : List (List Int)) (k c c2 : Nat) (hk : k < big + 2) (ha : (ix a k).length ≤ 100000) (hb : (ix b k).length ≤ 100000) :
    Pu Tryd.prog 41 [.s 0 k 0 (ix a k).length c 1, .s 1 k 0 (ix b k).length c2 1] [oLf a, oLf b] (.v (.bool (lexL (ix a k) (ix b k)))) := by
  refine pu_member (args' := [.s 1 0 0 (ix a k).length c 1, .s 0 k 0 (ix b k).length c2 1]) (H' := [oLf b, rR (ix a k)]) 0 k [1, 2] rfl ⟨rfl, hk⟩ ?_ (by kernel_rfl) ?_ ?_
  · simp only [push_cast, ↓branch_true, ↓branch_false, Nat.reduceBEq, Nat.reduceAdd, Nat.reduceMul, Nat.reduceSub, Int.reduceToNat, reduceCtorEq, branch_decide, branch_not, branch_beq, branch_bne]
  · simp only [push_cast, ↓branch_true, ↓branch_false, Nat.reduceBEq, Nat.reduceAdd, Nat.reduceMul, Nat.reduceSub, Int.reduceToNat, reduceCtorEq, branch_decide, branch_not, branch_beq, branch_bne]
  refine pu_member 0 k [1, 2] rfl ⟨rfl, hk⟩ ?_ (by kernel_rfl) ?_ (earlier_pu (ix a k) (ix b k) c c2 ha hb)
  · simp only [push_cast, ↓branch_true, ↓branch_false, Nat.reduceBEq, Nat.reduceAdd, Nat.reduceMul, Nat.reduceSub, Int.reduceToNat, reduceCtorEq, branch_decide, branch_not, branch_beq, branch_bne]
  · simp only [push_cast, ↓branch_true, ↓branch_false, Nat.reduceBEq, Nat.reduceAdd, Nat.reduceMul, Nat.reduceSub, Int.reduceToNat, reduceCtorEq, branch_decide, branch_not, branch_beq, branch_bne]
theorem same_pu (a b : List (List Int)) (c c2 : Nat) (cp cp2 : Nat → Nat) (ha : a.length ≤ 1000000) (hb : b.length ≤ 1000000) (ha2 : ∀ k, (ix a k).length ≤ 100000) (hb2 : ∀ k, (ix b k).length ≤ 100000) :
    Pu Tryd.prog 22 [.s 0 0 0 a.length c 1, .s 2 0 0 b.length c2 1] [oLi 1 a cp, oLf a, oLi 3 b cp2, oLf b] (.v (.bool (decide (a = b)))) := by
  have hbig := big_eq
  refine pu_of_ex true [] mixed Tryd.call22 Tryd.func22 rfl Tryd.ntmps22 Tryd.results22 (by decide +kernel) rfl rfl rfl ?_
  simp only [push_cast, ↓branch_true, ↓branch_false, Nat.reduceBEq, Nat.reduceAdd, Nat.reduceMul, Nat.reduceSub, Int.reduceToNat, reduceCtorEq, branch_decide, branch_not, branch_beq, branch_bne]
  refine ⟨fun h0 => ?_, fun h0 => ?_⟩
  rotate_right
  · rw [decide_eq_false fun e => h0 (by rw [e])]
  refine tr_loop0 mixed (by kernel_rfl) (fun (k : Nat) => [(5, .v (.int .i64 k)), (0, .s 0 0 0 a.length c 1), (1, .s 2 0 0 b.length c2 1)]) (fun k => k ≤ a.length ∧ ∀ j, j < k → ix a j = ix b j) (fun k => a.length - k) 0 ⟨Nat.zero_le _, fun j h => by omega⟩ ?_ ?_
  · simp only [push_cast, ↓branch_true, ↓branch_false, Nat.reduceBEq, Nat.reduceAdd, Nat.reduceMul, Nat.reduceSub, Int.reduceToNat, reduceCtorEq, branch_decide, branch_not, branch_beq, branch_bne]
    try rfl
  rintro k ⟨h1, h2⟩
  simp only [push_cast, ↓branch_true, ↓branch_false, Nat.reduceBEq, Nat.reduceAdd, Nat.reduceMul, Nat.reduceSub, Int.reduceToNat, reduceCtorEq, branch_decide, branch_not, branch_beq, branch_bne]
  refine ⟨fun h => ?_, fun h => ?_⟩
  rotate_left
  · obtain rfl : k = a.length := by omega
    have e : a = b := List.ext_getElem (by omega) fun q p1 p2 => by
      have := h2 q p1
      rwa [ix_eq p1, ix_eq p2] at this
    rw [decide_eq_true e]
  · have hka : k < a.length := by omega
    repeat (with_reducible refine And.intro (by omega) ?_)
    refine qc_call (earlierM_pu a b k (cp k) (cp2 k) (by omega) (ha2 k) (hb2 k)) rfl [1, 3] rfl (by simp only [push_cast, ↓branch_true, ↓branch_false, Nat.reduceBEq, Nat.reduceAdd, Nat.reduceMul, Nat.reduceSub, Int.reduceToNat, reduceCtorEq, branch_decide, branch_not, branch_beq, branch_bne]) (by simp only [push_cast, ↓branch_true, ↓branch_false, Nat.reduceBEq, Nat.reduceAdd, Nat.reduceMul, Nat.reduceSub, Int.reduceToNat, reduceCtorEq, branch_decide, branch_not, branch_beq, branch_bne]) ?_
    simp only [push_cast, ↓branch_true, ↓branch_false, Nat.reduceBEq, Nat.reduceAdd, Nat.reduceMul, Nat.reduceSub, Int.reduceToNat, reduceCtorEq, branch_decide, branch_not, branch_beq, branch_bne]
    have hne : ∀ x y : List (List Int), ix x k ≠ ix y k → x ≠ y := fun x y h e => h (by rw [e])
    cases h5 : lexL (ix a k) (ix b k) with
    | true =>
      rw [decide_eq_false (hne _ _ fun e => by rw [e, lex_irr] at h5; cases h5)]
      simp only [push_cast, ↓branch_true, ↓branch_false, Nat.reduceBEq, Nat.reduceAdd, Nat.reduceMul, Nat.reduceSub, Int.reduceToNat, reduceCtorEq, branch_decide, branch_not, branch_beq, branch_bne]
    | false =>
      simp only [push_cast, ↓branch_true, ↓branch_false, Nat.reduceBEq, Nat.reduceAdd, Nat.reduceMul, Nat.reduceSub, Int.reduceToNat, reduceCtorEq, branch_decide, branch_not, branch_beq, branch_bne]
      repeat (with_reducible refine And.intro (by omega) ?_)
      refine qc_call (earlierM_pu b a k (cp2 k) (cp k) (by omega) (hb2 k) (ha2 k)) rfl [3, 1] rfl (by simp only [push_cast, ↓branch_true, ↓branch_false, Nat.reduceBEq, Nat.reduceAdd, Nat.reduceMul, Nat.reduceSub, Int.reduceToNat, reduceCtorEq, branch_decide, branch_not, branch_beq, branch_bne]) (by simp only [push_cast, ↓branch_true, ↓branch_false, Nat.reduceBEq, Nat.reduceAdd, Nat.reduceMul, Nat.reduceSub, Int.reduceToNat, reduceCtorEq, branch_decide, branch_not, branch_beq, branch_bne]) ?_
      simp only [push_cast, ↓branch_true, ↓branch_false, Nat.reduceBEq, Nat.reduceAdd, Nat.reduceMul, Nat.reduceSub, Int.reduceToNat, reduceCtorEq, branch_decide, branch_not, branch_beq, branch_bne]
      cases h6 : lexL (ix b k) (ix a k) with
      | true =>
        rw [decide_eq_false (hne _ _ fun e => by rw [e, lex_irr] at h6; cases h6)]
        simp only [push_cast, ↓branch_true, ↓branch_false, Nat.reduceBEq, Nat.reduceAdd, Nat.reduceMul, Nat.reduceSub, Int.reduceToNat, reduceCtorEq, branch_decide, branch_not, branch_beq, branch_bne]
      | false =>
        simp only [push_cast, ↓branch_true, ↓branch_false, Nat.reduceBEq, Nat.reduceAdd, Nat.reduceMul, Nat.reduceSub, Int.reduceToNat, reduceCtorEq, branch_decide, branch_not, branch_beq, branch_bne]
        repeat (with_reducible refine And.intro (by omega) ?_)
        have e := lex_same _ _ h5 h6
        refine lp0_normal (k + 1) ⟨by omega, fun j hj => by
          rcases Nat.lt_or_eq_of_le (Nat.le_of_lt_succ hj) with h3 | h3
          · exact h2 j h3
          · subst h3; exact e⟩ (by omega) ?_
        simp only [push_cast, ↓branch_true, ↓branch_false, Nat.reduceBEq, Nat.reduceAdd, Nat.reduceMul, Nat.reduceSub, Int.reduceToNat, reduceCtorEq, branch_decide, branch_not, branch_beq, branch_bne]
end Go.Proofs.YtapbhppfecfobaaDoor
