/- Contracts: Proved. -/
import Derived.Test.YthlpfjcjfhdmaaaZE
import Derived.Test.YthlpfjcjfhdmaaaP
set_option maxRecDepth 100000
set_option linter.unusedSimpArgs false
set_option linter.unusedVariables false
namespace Go.Proofs.Ythlpfjcjfhdmaaa
open Go.RowKit
theorem beq_dec (a b : Int) : (a == b) = decide (a = b) := by
  by_cases h : a = b <;> simp [h]
theorem stB_lots {lim : Int} (h1 : 1 ≤ lim) (h2 : lim ≤ 1048576) : stB (lotS lim) = true := by
  refine stB_yes.2 ⟨by simp [lotS], fun k hk => ?_⟩
  obtain rfl : k = 0 := by simp [lotS] at hk; omega
  have e : ix (lotS lim) 0 = ⟨lim, -1⟩ := rfl
  unfold okS lenB
  rw [e]
  simp [h1, h2, lensL, hasI]
/-- Whether a plan is right, and uses as few lengths as the bound. -/
def provB (lim : Int) (l : List Pc) (p : List Pt) : Bool := rightB (lotS lim) l p && decide (timesT p p.length = bestR lim l)
theorem proved_pu (lim : Int) (l : List Pc) (p : List Pt) (cp : Nat → Nat) (N c c3 : Nat) (G : Nat → List Int) (hl : l.length ≤ 9223372036854775807) (hN : p.length ≤ N) (hG : ∀ k, k < p.length → G k = (ix p k).ps) (hg : ∀ k, k < p.length → (ix p k).ps.length ≤ 9223372036854775806) (hpl : p.length ≤ 9223372036854775807) :
    Pu Try.prog 38 [.v (.int .i64 lim), .s 0 0 0 l.length c 2, .s 1 0 0 p.length c3 3] [rPc l, rPt 2 p cp, rFm N G] (.t [.v (.bool (decide (givE lim l = 0) && provB lim l p)), .v (.int .i64 (givE lim l))]) := by
  refine pu_of_ex true [] mixed Try.call38 Try.func38 rfl Try.ntmps38 Try.results38 (by decide +kernel) rfl rfl rfl ?_
  simp only [push_cast, ↓branch_true, ↓branch_false, Nat.reduceBEq, Nat.reduceAdd, Nat.reduceMul, Nat.reduceSub, Int.reduceToNat, reduceCtorEq, branch_decide, branch_not, branch_beq, branch_bne]
  refine sp_call (bbest_pu lim l c hl) rfl [0] rfl (by simp only [push_cast, ↓branch_true, ↓branch_false, Nat.reduceBEq, Nat.reduceAdd, Nat.reduceMul, Nat.reduceSub, Int.reduceToNat, reduceCtorEq, branch_decide, branch_not, branch_beq, branch_bne]) (by simp only [push_cast, ↓branch_true, ↓branch_false, Nat.reduceBEq, Nat.reduceAdd, Nat.reduceMul, Nat.reduceSub, Int.reduceToNat, reduceCtorEq, branch_decide, branch_not, branch_beq, branch_bne]) ?_
  simp only [push_cast, ↓branch_true, ↓branch_false, Nat.reduceBEq, Nat.reduceAdd, Nat.reduceMul, Nat.reduceSub, Int.reduceToNat, reduceCtorEq, branch_decide, branch_not, branch_beq, branch_bne]
  by_cases hg0 : givE lim l = 0
  rotate_left
  · rw [if_neg hg0, decide_eq_false hg0]
    simp only [push_cast, ↓branch_true, ↓branch_false, Nat.reduceBEq, Nat.reduceAdd, Nat.reduceMul, Nat.reduceSub, Int.reduceToNat, reduceCtorEq, branch_decide, branch_not, branch_beq, branch_bne]
    exact fun h => absurd h hg0
  rw [if_pos hg0, hg0]
  obtain ⟨ho, h1, h2, _⟩ := givE_0 hg0
  simp only [push_cast, ↓branch_true, ↓branch_false, Nat.reduceBEq, Nat.reduceAdd, Nat.reduceMul, Nat.reduceSub, Int.reduceToNat, reduceCtorEq, branch_decide, branch_not, branch_beq, branch_bne]
  intro _
  repeat (with_reducible refine And.intro (by omega) ?_)
  have hs := stB_lots h1 h2
  rw [show decide True = true from rfl, Bool.true_and]
  refine sp_call (right_pu (lotS lim) l p cp N 1 c c3 G hs ho hN hG hg hpl) rfl [3, 0, 1, 2] rfl ?_ ?_ ?_
  · simp only [push_cast, ↓branch_true, ↓branch_false, Nat.reduceBEq, Nat.reduceAdd, Nat.reduceMul, Nat.reduceSub, Int.reduceToNat, reduceCtorEq, branch_decide, branch_not, branch_beq, branch_bne]
    rfl
  · simp only [push_cast, ↓branch_true, ↓branch_false, Nat.reduceBEq, Nat.reduceAdd, Nat.reduceMul, Nat.reduceSub, Int.reduceToNat, reduceCtorEq, branch_decide, branch_not, branch_beq, branch_bne]
    intro _ _
    refine ⟨Nat.le_refl _, fun k hk => ?_⟩
    obtain rfl : k = 0 := by simp [lotS] at hk; omega
    exact ⟨rfl, rfl, trivial⟩
  unfold provB
  cases hR : rightB (lotS lim) l p with
  | false =>
    simp only [push_cast, ↓branch_true, ↓branch_false, Nat.reduceBEq, Nat.reduceAdd, Nat.reduceMul, Nat.reduceSub, Int.reduceToNat, reduceCtorEq, branch_decide, branch_not, branch_beq, branch_bne]
  | true =>
  simp only [push_cast, ↓branch_true, ↓branch_false, Nat.reduceBEq, Nat.reduceAdd, Nat.reduceMul, Nat.reduceSub, Int.reduceToNat, reduceCtorEq, branch_decide, branch_not, branch_beq, branch_bne]
  refine sp_call (used_pu (lotS lim) p cp N 1 c3 G (show (1 : Nat) ≤ _ by decide) hpl) rfl [3, 1, 2] rfl ?_ ?_ ?_
  · simp only [push_cast, ↓branch_true, ↓branch_false, Nat.reduceBEq, Nat.reduceAdd, Nat.reduceMul, Nat.reduceSub, Int.reduceToNat, reduceCtorEq, branch_decide, branch_not, branch_beq, branch_bne]
    rfl
  · simp only [push_cast, ↓branch_true, ↓branch_false, Nat.reduceBEq, Nat.reduceAdd, Nat.reduceMul, Nat.reduceSub, Int.reduceToNat, reduceCtorEq, branch_decide, branch_not, branch_beq, branch_bne]
    intro _ _
    refine ⟨Nat.le_refl _, fun k hk => ?_⟩
    obtain rfl : k = 0 := by simp [lotS] at hk; omega
    exact ⟨rfl, rfl, trivial⟩
  have hE : usedE (lotS lim) p = 0 := by
    rw [usedE, if_neg (by simp [hs]), if_neg (by simp [(right_yes.1 hR).1])]
  have hn : usedN (lotS lim) p = timesT p p.length := if_pos hE
  rw [hE, hn]
  simp only [push_cast, ↓branch_true, ↓branch_false, Nat.reduceBEq, Nat.reduceAdd, Nat.reduceMul, Nat.reduceSub, Int.reduceToNat, reduceCtorEq, branch_decide, branch_not, branch_beq, branch_bne]
  rw [beq_dec]
end Go.Proofs.Ythlpfjcjfhdmaaa
