/- CuttingAltered: Delete. -/
import Derived.Test.YthlpfjcjfhdmaaaX
set_option maxRecDepth 100000
set_option linter.unusedSimpArgs false
set_option linter.unusedVariables false
namespace Go.Proofs.Ythlpfjcjfhdmaaa
open Go.RowKit
/-- Where the patterns lie, but for one of them. -/
def oDl (F : Nat) (p : List Pt) (cp : Nat → Nat) (c i : Nat) : Ob := ⟨50, false, .row 3 1 (fun _ => p.length - 1) (fun _ => c) (fun _ k => cPt F p cp (if k < i then k else k + 1))⟩
attribute [push_cast] oDl
set_option maxHeartbeats 4000000 in
theorem delete_sp (p : List Pt) (cp : Nat → Nat) (c : Nat) (i : Nat) (hi : i < p.length) (ho : p.length ≤ 100000) (hc : p.length ≤ c) :
    Sp Try.prog 25 [.s 0 0 0 p.length c 3, .v (.int .i64 i), .v (.int .i64 (i + 1))] [oPt 1 p cp c, oFm cp (fmP p)] (fun r H => r = .s 0 0 0 (p.length - 1) c 3 ∧ H = [oDl 1 p cp c i, oFm cp (fmP p)]) := by
  refine sp_weak ?_
  refine sp_of_exa true true [] mixed Try.call25 Try.func25 rfl Try.ntmps25 Try.results25 (by decide +kernel) rfl ?_
  simp only [push_cast, ↓branch_true, ↓branch_false, Nat.reduceBEq, Nat.reduceAdd, Nat.reduceMul, Nat.reduceSub, Int.reduceToNat, reduceCtorEq, branch_decide, branch_not, branch_beq, branch_bne]
  repeat (with_reducible refine And.intro (by omega) ?_)
  have e1 : ((i : Int) + 1).toNat = i + 1 := by omega
  rw [e1]
  intro _
  repeat (with_reducible refine And.intro (by omega) ?_)
  refine ⟨?_, appZ_of (fun h => ?_) fun h => ?_⟩
  · unfold srcOk
    split <;> simp [lenP, lenIs, ones, one1]
  · repeat (with_reducible refine And.intro (by omega) ?_)
    refine ⟨_, _, [0, 1], ?_, by kernel_rfl, ?_, rfl, rfl⟩
    · simp only [push_cast, ↓branch_true, ↓branch_false, Nat.reduceBEq, Nat.reduceAdd, Nat.reduceMul, Nat.reduceSub, Int.reduceToNat, reduceCtorEq, branch_decide, branch_not, branch_beq, branch_bne]
      omega
    · simp only [push_cast, ↓branch_true, ↓branch_false, Nat.reduceBEq, Nat.reduceAdd, Nat.reduceMul, Nat.reduceSub, Int.reduceToNat, reduceCtorEq, branch_decide, branch_not, branch_beq, branch_bne]
      intro i9 hi9
      refine ⟨by omega, fun k hk => ?_⟩
      obtain rfl : i9 = 0 := by omega
      have hk2 : k < i := by omega
      have hb : (decide (i - 0 ≤ k) && decide (k < i - 0 + (p.length - (i - 0)))) = false := by simp; omega
      rw [hb, if_pos hk2]
      simp only [push_cast, ↓branch_true, ↓branch_false, Nat.reduceBEq, Nat.reduceAdd, Nat.reduceMul, Nat.reduceSub, Int.reduceToNat, reduceCtorEq, branch_decide, branch_not, branch_beq, branch_bne]
  · refine Or.inr (Or.inr (Or.inl ⟨fun h1 => ?_, fun h1 => by omega⟩))
    repeat (with_reducible refine And.intro (by omega) ?_)
    refine ⟨_, _, [0, 1], ?_, by kernel_rfl, ?_, rfl, rfl⟩
    · simp only [push_cast, ↓branch_true, ↓branch_false, Nat.reduceBEq, Nat.reduceAdd, Nat.reduceMul, Nat.reduceSub, Int.reduceToNat, reduceCtorEq, branch_decide, branch_not, branch_beq, branch_bne]
      omega
    · simp only [push_cast, ↓branch_true, ↓branch_false, Nat.reduceBEq, Nat.reduceAdd, Nat.reduceMul, Nat.reduceSub, Int.reduceToNat, reduceCtorEq, branch_decide, branch_not, branch_beq, branch_bne]
      intro i9 hi9
      obtain rfl : i9 = 0 := by omega
      refine ⟨by simp; omega, fun k hk => ?_⟩
      have hb : (decide ((((i - 0 : Nat) : Int) + ((p.length - (i + 1) : Nat) : Int)).toNat ≤ k) && decide (k < (((i - 0 : Nat) : Int) + ((p.length - (i + 1) : Nat) : Int)).toNat + (p.length - (((i - 0 : Nat) : Int) + ((p.length - (i + 1) : Nat) : Int)).toNat))) = false := by simp; omega
      rw [hb, appF_val (sz := 3) (fun k _ => rfl) (by omega) (by omega) (fun _ => rfl)]
      by_cases hk2 : k < i
      · rw [if_pos hk2, if_pos (by omega)]
        simp only [push_cast, ↓branch_true, ↓branch_false, Nat.reduceBEq, Nat.reduceAdd, Nat.reduceMul, Nat.reduceSub, Int.reduceToNat, reduceCtorEq, branch_decide, branch_not, branch_beq, branch_bne]
      · rw [if_neg hk2, if_neg (by omega), show i + 1 + (k - (i - 0)) = k + 1 by omega]
        simp only [push_cast, ↓branch_true, ↓branch_false, Nat.reduceBEq, Nat.reduceAdd, Nat.reduceMul, Nat.reduceSub, Int.reduceToNat, reduceCtorEq, branch_decide, branch_not, branch_beq, branch_bne]
end Go.Proofs.Ythlpfjcjfhdmaaa
