/- Contracts: the bound, and equality of lists. -/
import Derived.Test.YtgbldceimdjblaaM
set_option maxRecDepth 100000
set_option linter.unusedSimpArgs false
set_option linter.unusedVariables false
namespace Go.Proofs.Ytgbldceimdjblaa
open Go.RowKit
theorem johnson_no (l : List Jb) (c : Nat) (hlc : l.length ≤ c) (hl : l.length ≤ 9223372036854775806) (hv : validB l = false) :
    Sp Try.prog 12 [.s 0 0 0 l.length c 3] [rJb l] (fun r H => r = .t [.s 1 0 0 0 0 1, .v (.int .i64 0), .v (.int .i64 1)] ∧ H = [rJb l, rInt 3 []]) := by
  refine sp_weak ?_
  refine sp_of_ex true [] mixed Try.call12 Try.func12 rfl Try.ntmps12 Try.results12 (by decide +kernel) rfl ?_
  simp only [push_cast, ↓branch_true, ↓branch_false, Nat.reduceBEq, Nat.reduceAdd, Nat.reduceMul, Nat.reduceSub, Int.reduceToNat, reduceCtorEq, branch_decide, branch_not, branch_beq, branch_bne]
  refine sp_call (valid_pu l c hlc (by omega)) rfl [0] rfl (by simp only [push_cast, ↓branch_true, ↓branch_false, Nat.reduceBEq, Nat.reduceAdd, Nat.reduceMul, Nat.reduceSub, Int.reduceToNat, reduceCtorEq, branch_decide, branch_not, branch_beq, branch_bne]) (by simp only [push_cast, ↓branch_true, ↓branch_false, Nat.reduceBEq, Nat.reduceAdd, Nat.reduceMul, Nat.reduceSub, Int.reduceToNat, reduceCtorEq, branch_decide, branch_not, branch_beq, branch_bne]) ?_
  simp only [push_cast, ↓branch_true, ↓branch_false, Nat.reduceBEq, Nat.reduceAdd, Nat.reduceMul, Nat.reduceSub, Int.reduceToNat, reduceCtorEq, branch_decide, branch_not, branch_beq, branch_bne]
  rw [hv]
  simp only [push_cast, ↓branch_true, ↓branch_false, Nat.reduceBEq, Nat.reduceAdd, Nat.reduceMul, Nat.reduceSub, Int.reduceToNat, reduceCtorEq, branch_decide, branch_not, branch_beq, branch_bne]
  refine ⟨_, _, [0, 2], ?_, ?_, ?_, rfl, rfl⟩
  · simp only [push_cast, ↓branch_true, ↓branch_false, Nat.reduceBEq, Nat.reduceAdd, Nat.reduceMul, Nat.reduceSub, Int.reduceToNat, reduceCtorEq, branch_decide, branch_not, branch_beq, branch_bne]
  · kernel_rfl
  · simp only [push_cast, ↓branch_true, ↓branch_false, Nat.reduceBEq, Nat.reduceAdd, Nat.reduceMul, Nat.reduceSub, Int.reduceToNat, reduceCtorEq, branch_decide, branch_not, branch_beq, branch_bne]
def cutsN (l : List Jb) : Nat → Int
  | 0 => 0
  | k + 1 => cutsN l k + (ix l k).cut
def bendsN (l : List Jb) : Nat → Int
  | 0 => 0
  | k + 1 => bendsN l k + (ix l k).bend
def leastC (l : List Jb) : Nat → Int
  | 0 => (ix l 0).cut
  | k + 1 => min (leastC l k) (ix l k).cut
def leastB (l : List Jb) : Nat → Int
  | 0 => (ix l 0).bend
  | k + 1 => min (leastB l k) (ix l k).bend
def bothN (l : List Jb) : Nat → Int
  | 0 => 0
  | k + 1 => max (bothN l k) ((ix l k).cut + (ix l k).bend)
def boundE (l : List Jb) : Int := if l.length = 0 then 0 else max (max (cutsN l l.length + leastB l l.length) (leastC l l.length + bendsN l l.length)) (bothN l l.length)
theorem bound_in {l : List Jb} (hv : validB l = true) (h0 : 0 < l.length) : ∀ k, k ≤ l.length → (0 ≤ cutsN l k ∧ cutsN l k ≤ 10000 * k) ∧ (0 ≤ bendsN l k ∧ bendsN l k ≤ 10000 * k) ∧ (0 ≤ leastC l k ∧ leastC l k ≤ 10000) ∧ (0 ≤ leastB l k ∧ leastB l k ≤ 10000) ∧ 0 ≤ bothN l k ∧ bothN l k ≤ 20000
  | 0, _ => by
    have := validB_at hv h0
    simp only [cutsN, bendsN, leastC, leastB, bothN]
    omega
  | k + 1, hk => by
    have h1 := bound_in hv h0 k (by omega)
    have h2 := validB_at hv (show k < l.length by omega)
    simp only [cutsN, bendsN, leastC, leastB, bothN]
    omega
theorem bound_pu (l : List Jb) (c : Nat) (hlc : l.length ≤ c) (hl : l.length ≤ 9223372036854775806) :
    Sp Try.prog 13 [.s 0 0 0 l.length c 3] [rJb l] (fun r H => r = .t [.v (.int .i64 (if validB l = true then boundE l else 0)), .v (.int .i64 (if validB l = true then 0 else 1))] ∧ H = [rJb l]) := by
  refine sp_weak ?_
  refine sp_of_ex true [] mixed Try.call13 Try.func13 rfl Try.ntmps13 Try.results13 (by decide +kernel) rfl ?_
  simp only [push_cast, ↓branch_true, ↓branch_false, Nat.reduceBEq, Nat.reduceAdd, Nat.reduceMul, Nat.reduceSub, Int.reduceToNat, reduceCtorEq, branch_decide, branch_not, branch_beq, branch_bne]
  refine sp_call (valid_pu l c hlc (by omega)) rfl [0] rfl (by simp only [push_cast, ↓branch_true, ↓branch_false, Nat.reduceBEq, Nat.reduceAdd, Nat.reduceMul, Nat.reduceSub, Int.reduceToNat, reduceCtorEq, branch_decide, branch_not, branch_beq, branch_bne]) (by simp only [push_cast, ↓branch_true, ↓branch_false, Nat.reduceBEq, Nat.reduceAdd, Nat.reduceMul, Nat.reduceSub, Int.reduceToNat, reduceCtorEq, branch_decide, branch_not, branch_beq, branch_bne]) ?_
  simp only [push_cast, ↓branch_true, ↓branch_false, Nat.reduceBEq, Nat.reduceAdd, Nat.reduceMul, Nat.reduceSub, Int.reduceToNat, reduceCtorEq, branch_decide, branch_not, branch_beq, branch_bne]
  cases hv : validB l
  · simp only [push_cast, ↓branch_true, ↓branch_false, Nat.reduceBEq, Nat.reduceAdd, Nat.reduceMul, Nat.reduceSub, Int.reduceToNat, reduceCtorEq, branch_decide, branch_not, branch_beq, branch_bne]
    refine ⟨_, _, [0], ?_, ?_, ?_, rfl, rfl⟩
    · simp only [push_cast, ↓branch_true, ↓branch_false, Nat.reduceBEq, Nat.reduceAdd, Nat.reduceMul, Nat.reduceSub, Int.reduceToNat, reduceCtorEq, branch_decide, branch_not, branch_beq, branch_bne]
    · kernel_rfl
    · simp only [push_cast, ↓branch_true, ↓branch_false, Nat.reduceBEq, Nat.reduceAdd, Nat.reduceMul, Nat.reduceSub, Int.reduceToNat, reduceCtorEq, branch_decide, branch_not, branch_beq, branch_bne]
  have hl60 := validB_len hv
  simp only [push_cast, ↓branch_true, ↓branch_false, Nat.reduceBEq, Nat.reduceAdd, Nat.reduceMul, Nat.reduceSub, Int.reduceToNat, reduceCtorEq, branch_decide, branch_not, branch_beq, branch_bne]
  refine ⟨fun h0 => ?_, fun h0 => ?_⟩
  · refine ⟨_, _, [0], ?_, ?_, ?_, rfl, rfl⟩
    · simp only [push_cast, ↓branch_true, ↓branch_false, Nat.reduceBEq, Nat.reduceAdd, Nat.reduceMul, Nat.reduceSub, Int.reduceToNat, reduceCtorEq, branch_decide, branch_not, branch_beq, branch_bne]
      simp [boundE, show l.length = 0 by omega]
    · kernel_rfl
    · simp only [push_cast, ↓branch_true, ↓branch_false, Nat.reduceBEq, Nat.reduceAdd, Nat.reduceMul, Nat.reduceSub, Int.reduceToNat, reduceCtorEq, branch_decide, branch_not, branch_beq, branch_bne]
  · have h1 : 0 < l.length := by omega
    repeat (with_reducible refine And.intro (by omega) ?_)
    refine tr_loop mixed (by kernel_rfl) (fun (k : Nat) => [(27, .v (.int .i64 k)), (26, .v (.int .i64 l.length)), (25, .s 0 0 0 l.length c 3), (4, .v (.int .i64 (cutsN l k))), (5, .v (.int .i64 (bendsN l k))), (6, .v (.int .i64 (bothN l k))), (7, .v (.int .i64 (leastC l k))), (8, .v (.int .i64 (leastB l k)))])
      (fun _ => [rJb l]) (fun k => k ≤ l.length) (fun k => l.length - k) 0 (Nat.zero_le _) (Mt.wk (rl := [0]) ⟨by kernel_rfl, ?_, ?_⟩) ?_
    · simp only [push_cast, ↓branch_true, ↓branch_false, Nat.reduceBEq, Nat.reduceAdd, Nat.reduceMul, Nat.reduceSub, Int.reduceToNat, reduceCtorEq, branch_decide, branch_not, branch_beq, branch_bne]
      exact ⟨rfl, rfl, rfl, rfl, rfl⟩
    · simp only [push_cast, ↓branch_true, ↓branch_false, Nat.reduceBEq, Nat.reduceAdd, Nat.reduceMul, Nat.reduceSub, Int.reduceToNat, reduceCtorEq, branch_decide, branch_not, branch_beq, branch_bne]
    intro k hk
    have hb := bound_in hv h1 k hk
    simp only [push_cast, ↓branch_true, ↓branch_false, Nat.reduceBEq, Nat.reduceAdd, Nat.reduceMul, Nat.reduceSub, Int.reduceToNat, reduceCtorEq, branch_decide, branch_not, branch_beq, branch_bne]
    refine ⟨fun h => ?_, fun h => ?_⟩
    · have hb2 := validB_at hv (show k < l.length by omega)
      have hst : cutsN l (k + 1) = cutsN l k + (ix l k).cut ∧ bendsN l (k + 1) = bendsN l k + (ix l k).bend ∧ leastC l (k + 1) = min (leastC l k) (ix l k).cut ∧ leastB l (k + 1) = min (leastB l k) (ix l k).bend ∧ bothN l (k + 1) = max (bothN l k) ((ix l k).cut + (ix l k).bend) := ⟨rfl, rfl, rfl, rfl, rfl⟩
      repeat (with_reducible refine And.intro (by omega) ?_)
      refine lpK_normal (k + 1) [0] (by omega) (by omega) (by kernel_rfl) ?_ ?_
      · simp only [push_cast, ↓branch_true, ↓branch_false, Nat.reduceBEq, Nat.reduceAdd, Nat.reduceMul, Nat.reduceSub, Int.reduceToNat, reduceCtorEq, branch_decide, branch_not, branch_beq, branch_bne]
        simp [hst]
      · simp only [push_cast, ↓branch_true, ↓branch_false, Nat.reduceBEq, Nat.reduceAdd, Nat.reduceMul, Nat.reduceSub, Int.reduceToNat, reduceCtorEq, branch_decide, branch_not, branch_beq, branch_bne]
    · obtain rfl : k = l.length := by omega
      repeat (with_reducible refine And.intro (by omega) ?_)
      refine ⟨_, _, [0], ?_, ?_, ?_, rfl, rfl⟩
      · simp only [push_cast, ↓branch_true, ↓branch_false, Nat.reduceBEq, Nat.reduceAdd, Nat.reduceMul, Nat.reduceSub, Int.reduceToNat, reduceCtorEq, branch_decide, branch_not, branch_beq, branch_bne]
        simp [boundE, show l.length ≠ 0 by omega]
      · kernel_rfl
      · simp only [push_cast, ↓branch_true, ↓branch_false, Nat.reduceBEq, Nat.reduceAdd, Nat.reduceMul, Nat.reduceSub, Int.reduceToNat, reduceCtorEq, branch_decide, branch_not, branch_beq, branch_bne]
theorem list_ext_ix {a b : List Int} (h : a.length = b.length) (hi : ∀ k, k < a.length → ix a k = ix b k) : a = b := by
  apply List.ext_getElem h
  intro k h1 h2
  have := hi k h1
  rwa [ix_eq h1, ix_eq h2] at this
theorem equal_pu (a b : List Int) (c d : Nat) (h1 : a.length ≤ 9223372036854775806) (h2 : b.length ≤ 9223372036854775806) :
    Pu Try.prog 16 [.s 0 0 0 a.length c 1, .s 1 0 0 b.length d 1] [rInt 3 a, rInt 3 b] (.v (.bool (decide (a = b)))) := by
  refine pu_of_ex true [] mixed Try.call16 Try.func16 rfl Try.ntmps16 Try.results16 (by decide +kernel) rfl rfl rfl ?_
  simp only [push_cast, ↓branch_true, ↓branch_false, Nat.reduceBEq, Nat.reduceAdd, Nat.reduceMul, Nat.reduceSub, Int.reduceToNat, reduceCtorEq, branch_decide, branch_not, branch_beq, branch_bne]
  refine ⟨fun h => ?_, fun h => ?_⟩
  · refine tr_loop0 mixed (by kernel_rfl) (fun (k : Nat) => [(13, .v (.int .i64 k)), (12, .v (.int .i64 a.length)), (0, .s 0 0 0 a.length c 1), (1, .s 1 0 0 b.length d 1)]) (fun k => k ≤ a.length ∧ ∀ j, j < k → ix a j = ix b j) (fun k => a.length - k) 0 ⟨Nat.zero_le _, fun j h => by omega⟩ ?_ ?_
    · simp only [push_cast, ↓branch_true, ↓branch_false, Nat.reduceBEq, Nat.reduceAdd, Nat.reduceMul, Nat.reduceSub, Int.reduceToNat, reduceCtorEq, branch_decide, branch_not, branch_beq, branch_bne]
    rintro k ⟨r1, r2⟩
    simp only [push_cast, ↓branch_true, ↓branch_false, Nat.reduceBEq, Nat.reduceAdd, Nat.reduceMul, Nat.reduceSub, Int.reduceToNat, reduceCtorEq, branch_decide, branch_not, branch_beq, branch_bne]
    refine ⟨fun h3 => ?_, fun h3 => ?_⟩
    · repeat (with_reducible refine And.intro (by omega) ?_)
      refine ⟨fun h4 => ?_, fun h4 => ?_⟩
      · repeat (with_reducible refine And.intro (by omega) ?_)
        refine lp0_normal (k + 1) ⟨by omega, fun j hj => ?_⟩ (by omega) ?_
        · by_cases e : j = k
          · subst e; exact h4
          · exact r2 j (by omega)
        · simp only [push_cast, ↓branch_true, ↓branch_false, Nat.reduceBEq, Nat.reduceAdd, Nat.reduceMul, Nat.reduceSub, Int.reduceToNat, reduceCtorEq, branch_decide, branch_not, branch_beq, branch_bne]
      · have : a ≠ b := fun e => h4 (by rw [e])
        simp [this]
    · obtain rfl : k = a.length := by omega
      have : a = b := list_ext_ix (by omega) r2
      simp [this]
  · have : a ≠ b := fun e => h (by rw [e])
    simp [this]
end Go.Proofs.Ytgbldceimdjblaa
