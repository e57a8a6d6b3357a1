/- Contracts: Compare; Parts. -/
import Derived.Test.YtapbhppfecfobaaDoorJ
set_option maxRecDepth 100000
set_option linter.unusedSimpArgs false
set_option linter.unusedVariables false
namespace Go.Proofs.YtapbhppfecfobaaDoor
open Go.RowKit
def cmpI : List Int → List Int → Int
  | [], [] => 0
  | [], _ :: _ => -1
  | _ :: _, [] => 1
  | x :: a, y :: b => if x < y then -1 else if y < x then 1 else cmpI a b
theorem cmpI_lex : ∀ a b : List Int, decide (cmpI a b < 0) = lexL a b
  | [], [] => rfl
  | [], _ :: _ => rfl
  | _ :: _, [] => rfl
  | x :: a, y :: b => by
    have ih := cmpI_lex a b
    have e : lexL (x :: a) (y :: b) = (decide (x < y) || decide (x = y) && lexL a b) := rfl
    rw [e]
    rcases Int.lt_trichotomy x y with h | h | h
    · have f : cmpI (x :: a) (y :: b) = -1 := by simp only [cmpI, if_pos h]
      rw [decide_eq_true h, decide_eq_true (by omega)]; rfl
    · have f : cmpI (x :: a) (y :: b) = cmpI a b := by simp only [cmpI]; rw [if_neg (by omega), if_neg (by omega)]
      simp only [f, ih]
      simp [h]
    · have f : cmpI (x :: a) (y :: b) = 1 := by simp only [cmpI]; rw [if_neg (by omega), if_pos h]
      rw [decide_eq_false (show ¬ x < y by omega), decide_eq_false (show ¬ x = y by omega), decide_eq_false (by omega)]; rfl
theorem drop_cons {l : List Int} {k : Nat} (h : k < l.length) : l.drop k = ix l k :: l.drop (k + 1) := by
  rw [ix_eq h]; exact List.drop_eq_getElem_cons h
theorem drop_all {l : List Int} {k : Nat} (h : l.length ≤ k) : l.drop k = [] := List.drop_eq_nil_of_le h
theorem cmp_pu (x y : Int) : Pu Tryd.prog 61 [.v (.int .i64 x), .v (.int .i64 y)] [] (.v (.int .i64 (if x < y then -1 else if y < x then 1 else 0))) := by
  have nan : ∀ n : Int, Pu Tryd.prog 64 [.v (.int .i64 n)] [] (.v (.bool false)) := fun n => by
    refine pu_of_ex true [] mixed Tryd.call64 Tryd.func64 rfl Tryd.ntmps64 Tryd.results64 (by decide +kernel) rfl rfl rfl ?_
    simp only [push_cast, ↓branch_true, ↓branch_false, Nat.reduceBEq, Nat.reduceAdd, Nat.reduceMul, Nat.reduceSub, Int.reduceToNat, reduceCtorEq, branch_decide, branch_not, branch_beq, branch_bne]
    try simp
  refine pu_of_ex true [] mixed Tryd.call61 Tryd.func61 rfl Tryd.ntmps61 Tryd.results61 (by decide +kernel) rfl rfl rfl ?_
  simp only [push_cast, ↓branch_true, ↓branch_false, Nat.reduceBEq, Nat.reduceAdd, Nat.reduceMul, Nat.reduceSub, Int.reduceToNat, reduceCtorEq, branch_decide, branch_not, branch_beq, branch_bne]
  refine sp_call (nan x) rfl [] rfl (by simp only [push_cast, ↓branch_true, ↓branch_false, Nat.reduceBEq, Nat.reduceAdd, Nat.reduceMul, Nat.reduceSub, Int.reduceToNat, reduceCtorEq, branch_decide, branch_not, branch_beq, branch_bne]) (by simp only [push_cast, ↓branch_true, ↓branch_false, Nat.reduceBEq, Nat.reduceAdd, Nat.reduceMul, Nat.reduceSub, Int.reduceToNat, reduceCtorEq, branch_decide, branch_not, branch_beq, branch_bne]) ?_
  simp only [push_cast, ↓branch_true, ↓branch_false, Nat.reduceBEq, Nat.reduceAdd, Nat.reduceMul, Nat.reduceSub, Int.reduceToNat, reduceCtorEq, branch_decide, branch_not, branch_beq, branch_bne]
  refine sp_call (nan y) rfl [] rfl (by simp only [push_cast, ↓branch_true, ↓branch_false, Nat.reduceBEq, Nat.reduceAdd, Nat.reduceMul, Nat.reduceSub, Int.reduceToNat, reduceCtorEq, branch_decide, branch_not, branch_beq, branch_bne]) (by simp only [push_cast, ↓branch_true, ↓branch_false, Nat.reduceBEq, Nat.reduceAdd, Nat.reduceMul, Nat.reduceSub, Int.reduceToNat, reduceCtorEq, branch_decide, branch_not, branch_beq, branch_bne]) ?_
  simp only [push_cast, ↓branch_true, ↓branch_false, Nat.reduceBEq, Nat.reduceAdd, Nat.reduceMul, Nat.reduceSub, Int.reduceToNat, reduceCtorEq, branch_decide, branch_not, branch_beq, branch_bne]
  refine ⟨fun h => by rw [if_pos h], fun h => ⟨fun h2 => by rw [if_neg h, if_pos h2], fun h2 => by rw [if_neg h, if_neg h2]⟩⟩
theorem compare_pu (a b : List Int) (c c2 : Nat) (ha : a.length ≤ 100000) (hb : b.length ≤ 100000) : Pu Tryd.prog 46 [.s 0 0 0 a.length c 1, .s 1 0 0 b.length c2 1] [rR a, rR b] (.v (.int .i64 (cmpI a b))) := by
  refine pu_of_ex true [] mixed Tryd.call46 Tryd.func46 rfl Tryd.ntmps46 Tryd.results46 (by decide +kernel) rfl rfl rfl ?_
  simp only [push_cast, ↓branch_true, ↓branch_false, Nat.reduceBEq, Nat.reduceAdd, Nat.reduceMul, Nat.reduceSub, Int.reduceToNat, reduceCtorEq, branch_decide, branch_not, branch_beq, branch_bne]
  refine tr_loop0 mixed (by kernel_rfl) (fun (k : Nat) => [(11, .v (.int .i64 k)), (10, .v (.int .i64 a.length)), (9, .s 0 0 0 a.length c 1), (0, .s 0 0 0 a.length c 1), (1, .s 1 0 0 b.length c2 1)]) (fun k => k ≤ a.length ∧ k ≤ b.length ∧ cmpI a b = cmpI (a.drop k) (b.drop k)) (fun k => a.length - k) 0 ⟨Nat.zero_le _, Nat.zero_le _, rfl⟩ ?_ ?_
  · simp only [push_cast, ↓branch_true, ↓branch_false, Nat.reduceBEq, Nat.reduceAdd, Nat.reduceMul, Nat.reduceSub, Int.reduceToNat, reduceCtorEq, branch_decide, branch_not, branch_beq, branch_bne]
  rintro k ⟨h1, h2, h3⟩
  simp only [push_cast, ↓branch_true, ↓branch_false, Nat.reduceBEq, Nat.reduceAdd, Nat.reduceMul, Nat.reduceSub, Int.reduceToNat, reduceCtorEq, branch_decide, branch_not, branch_beq, branch_bne]
  refine ⟨fun h => ?_, fun h => ?_⟩
  · have hk : k < a.length := by omega
    rw [drop_cons hk] at h3
    repeat (with_reducible refine And.intro (by omega) ?_)
    refine ⟨fun h5 => ?_, fun h5 => ?_⟩
    · rw [drop_all (l := b) (by omega)] at h3
      rw [h3]; rfl
    have hk2 : k < b.length := by omega
    rw [drop_cons hk2] at h3
    simp only [cmpI] at h3
    repeat (with_reducible refine And.intro (by omega) ?_)
    refine sp_call (cmp_pu (ix a k) (ix b k)) rfl [] rfl (by simp only [push_cast, ↓branch_true, ↓branch_false, Nat.reduceBEq, Nat.reduceAdd, Nat.reduceMul, Nat.reduceSub, Int.reduceToNat, reduceCtorEq, branch_decide, branch_not, branch_beq, branch_bne]) (by simp only [push_cast, ↓branch_true, ↓branch_false, Nat.reduceBEq, Nat.reduceAdd, Nat.reduceMul, Nat.reduceSub, Int.reduceToNat, reduceCtorEq, branch_decide, branch_not, branch_beq, branch_bne]) ?_
    simp only [push_cast, ↓branch_true, ↓branch_false, Nat.reduceBEq, Nat.reduceAdd, Nat.reduceMul, Nat.reduceSub, Int.reduceToNat, reduceCtorEq, branch_decide, branch_not, branch_beq, branch_bne]
    rcases Int.lt_trichotomy (ix a k) (ix b k) with g | g | g
    · rw [if_pos g] at h3 ⊢
      simp only [push_cast, ↓branch_true, ↓branch_false, Nat.reduceBEq, Nat.reduceAdd, Nat.reduceMul, Nat.reduceSub, Int.reduceToNat, reduceCtorEq, branch_decide, branch_not, branch_beq, branch_bne]
      intros
      rw [h3]
    · rw [if_neg (by omega), if_neg (by omega)] at h3 ⊢
      refine ⟨fun _ => ⟨by omega, ?_⟩, fun h => absurd rfl h⟩
      refine lp0_normal (k + 1) ⟨by omega, by omega, h3⟩ (by omega) ?_
      simp only [push_cast, ↓branch_true, ↓branch_false, Nat.reduceBEq, Nat.reduceAdd, Nat.reduceMul, Nat.reduceSub, Int.reduceToNat, reduceCtorEq, branch_decide, branch_not, branch_beq, branch_bne]
    · rw [if_neg (by omega), if_pos g] at h3 ⊢
      exact ⟨fun h => absurd h (by decide), fun _ => by rw [h3]⟩
  · obtain rfl : k = a.length := by omega
    rw [List.drop_length] at h3
    refine ⟨fun h5 => ?_, fun h5 => ?_⟩
    · rw [drop_cons (by omega)] at h3
      rw [h3]; rfl
    · rw [drop_all (l := b) (by omega)] at h3
      rw [h3]; rfl
end Go.Proofs.YtapbhppfecfobaaDoor
