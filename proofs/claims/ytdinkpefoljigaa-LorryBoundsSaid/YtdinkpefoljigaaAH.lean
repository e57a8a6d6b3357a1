/- Contracts: Clone and Reverse of loads. -/
import Derived.Test.YtdinkpefoljigaaAG
import Derived.Test.YtdinkpefoljigaaX
set_option maxRecDepth 100000
set_option linter.unusedSimpArgs false
set_option linter.unusedVariables false
namespace Go.Proofs.Ytdinkpefoljigaa
open Go.RowKit
/-- Loads in another order. -/
def oEl (F : Nat) (G : List (List Int)) (cp : Nat → Nat) (cap : Nat) (p : Nat → Nat) : Ob := ⟨36, false, .row 1 1 (fun _ => G.length) (fun _ => cap) (fun _ k => [.s F (p k) 0 (ix G (p k)).length (cp (p k)) 1])⟩
attribute [push_cast] oEl
theorem cloneL_sp (G : List (List Int)) (cp : Nat → Nat) (oc : Nat) (h0 : 0 < G.length) (hoc : G.length ≤ oc) (hn : G.length ≤ 2000) : Sp Try.prog 18 [.s 0 0 0 G.length oc 1] [oOut 1 G cp oc, oFa G cp] (fun r H => ∃ cap, G.length ≤ cap ∧ r = .s 2 0 0 G.length cap 1 ∧ H = [oOut 1 G cp oc, oFa G cp, oEl 1 G cp cap (fun k => k)]) := by
  refine sp_weak ?_
  refine sp_of_ex true [] mixed Try.call18 Try.func18 rfl Try.ntmps18 Try.results18 (by decide +kernel) rfl ?_
  simp only [push_cast, ↓branch_true, ↓branch_false, Nat.reduceBEq, Nat.reduceAdd, Nat.reduceMul, Nat.reduceSub, Int.reduceToNat, reduceCtorEq, branch_decide, branch_not, branch_beq, branch_bne]
  intro b hb
  rw [hb (by omega)]
  simp only [push_cast, ↓branch_true, ↓branch_false, Nat.reduceBEq, Nat.reduceAdd, Nat.reduceMul, Nat.reduceSub, Int.reduceToNat, reduceCtorEq, branch_decide, branch_not, branch_beq, branch_bne]
  refine ⟨by omega, by omega, ?_, appZ_of (fun h => by omega) fun _ => .inl ⟨by omega, by omega, fun cap hcap => ?_⟩⟩
  · unfold srcOk
    split <;> simp [lenP, lenIs, ones, one1]
  · refine ⟨_, _, [0, 1, 3], ?_, by kernel_rfl, ?_, cap, hcap, rfl, rfl⟩
    · simp only [push_cast, ↓branch_true, ↓branch_false, Nat.reduceBEq, Nat.reduceAdd, Nat.reduceMul, Nat.reduceSub, Int.reduceToNat, reduceCtorEq, branch_decide, branch_not, branch_beq, branch_bne]
    · simp only [push_cast, ↓branch_true, ↓branch_false, Nat.reduceBEq, Nat.reduceAdd, Nat.reduceMul, Nat.reduceSub, Int.reduceToNat, reduceCtorEq, branch_decide, branch_not, branch_beq, branch_bne]
theorem upd_twoS {f : Nat → SV} {p q x k : Nat} {u v : SV} (hpq : p ≠ q) (hx : x < 1) : updF (updF (fun _ k => [f k]) 0 p [u]) 0 q (v :: bif q == p then [] else []) x k = [if k = q then v else if k = p then u else f k] := by
  obtain rfl : x = 0 := by omega
  have e : (q == p) = false := by simp; omega
  simp only [updF, e]
  by_cases e1 : k = q
  · subst e1
    simp [mrgL, mrg1_eq, e]
  · have e4 : (k == q) = false := by simpa using e1
    by_cases e2 : k = p
    · subst e2
      simp [mrgL, mrg1_eq, e1, e4]
    · have e5 : (k == p) = false := by simpa using e2
      simp [mrgL, mrg1_eq, e1, e2, e4, e5]
/-- Half way of a reversal. -/
def revP (n i k : Nat) : Nat := if k < i ∨ n ≤ k + i then n - 1 - k else k
theorem revP_0 {n k : Nat} (h : k < n) : revP n 0 k = k := by
  unfold revP
  rw [if_neg (by omega)]
theorem revP_in {n i k : Nat} (h : i ≤ k) (h2 : k + i < n) : revP n i k = k := by
  unfold revP
  rw [if_neg (by omega)]
theorem revP_end {n i k : Nat} (h : n ≤ i + i + 1) (hk : k < n) : revP n i k = n - 1 - k := by
  unfold revP
  split <;> omega
theorem revP_1 {n i k : Nat} (h : i < n - 1 - i) (hk : k < n) : revP n (i + 1) k = if k = n - 1 - i then i else if k = i then n - 1 - i else revP n i k := by
  unfold revP
  repeat' split
  all_goals omega
set_option maxHeartbeats 1000000 in
theorem revL_sp (G : List (List Int)) (cp : Nat → Nat) (cap : Nat) (hn : G.length ≤ 2000) (hc : G.length ≤ cap) : Sp Try.prog 19 [.s 0 0 0 G.length cap 1] [oEl 1 G cp cap (fun k => k), oFa G cp] (fun r H => r = .t [] ∧ H = [oEl 1 G cp cap (fun k => G.length - 1 - k), oFa G cp]) := by
  refine sp_weak ?_
  refine sp_of_ex true [(3, .one 0 (.one 1 (.one 2 (.one 3 (.one 4 (.one 5 (.one 6 (.one 8 (.one 9 (.one 10 (.alt [(7, .one 11 (.one 12 (.one 13 (.one 14 (.one 15 .fin))))), (11, .one 7 (.one 12 (.one 13 (.one 14 (.one 15 .fin)))))])))))))))))] mixed Try.call19 Try.func19 rfl Try.ntmps19 Try.results19 (by decide +kernel) rfl ?_
  simp only [push_cast, ↓branch_true, ↓branch_false, Nat.reduceBEq, Nat.reduceAdd, Nat.reduceMul, Nat.reduceSub, Int.reduceToNat, reduceCtorEq, branch_decide, branch_not, branch_beq, branch_bne]
  repeat (with_reducible refine And.intro (by omega) ?_)
  refine tr_loop mixed (by kernel_rfl) (fun (i : Nat) => [(2, .v (.int .i64 i)), (3, .v (.int .i64 (G.length - 1 - i))), (0, .s 0 0 0 G.length cap 1)])
    (fun i => [oEl 1 G cp cap (revP G.length i), oFa G cp]) (fun i => i ≤ G.length) (fun i => G.length - i) 0 (Nat.zero_le _) (Mt.wk (rl := [0, 1]) ⟨by kernel_rfl, ?_, ?_⟩) ?_
  · simp only [push_cast, ↓branch_true, ↓branch_false, Nat.reduceBEq, Nat.reduceAdd, Nat.reduceMul, Nat.reduceSub, Int.reduceToNat, reduceCtorEq, branch_decide, branch_not, branch_beq, branch_bne]
    simp
  · simp only [push_cast, ↓branch_true, ↓branch_false, Nat.reduceBEq, Nat.reduceAdd, Nat.reduceMul, Nat.reduceSub, Int.reduceToNat, reduceCtorEq, branch_decide, branch_not, branch_beq, branch_bne]
    intro x hx k hk
    rw [revP_0 hk]
    exact ⟨rfl, rfl, .inr rfl⟩
  intro i h1
  simp only [push_cast, ↓branch_true, ↓branch_false, Nat.reduceBEq, Nat.reduceAdd, Nat.reduceMul, Nat.reduceSub, Int.reduceToNat, reduceCtorEq, branch_decide, branch_not, branch_beq, branch_bne]
  refine ⟨fun h => ?_, fun h => ?_⟩
  · have e1 : ((G.length : Int) - 1 - i).toNat = G.length - 1 - i := by omega
    have e2 : revP G.length i i = i := revP_in (Nat.le_refl _) (by omega)
    have e3 : revP G.length i (G.length - 1 - i) = G.length - 1 - i := revP_in (by omega) (by omega)
    repeat' (with_reducible (first | apply And.intro | intro _))
    all_goals try omega
    all_goals
      simp only [e1, e2, e3]
      refine lpK_normal (i + 1) [0, 1] (by omega) (by omega) (by kernel_rfl) ?_ ?_
      · simp only [push_cast, ↓branch_true, ↓branch_false, Nat.reduceBEq, Nat.reduceAdd, Nat.reduceMul, Nat.reduceSub, Int.reduceToNat, reduceCtorEq, branch_decide, branch_not, branch_beq, branch_bne]
        rw [show (G.length : Int) - 1 - (i + 1) = G.length - 1 - i - 1 by omega]
      · simp only [push_cast, ↓branch_true, ↓branch_false, Nat.reduceBEq, Nat.reduceAdd, Nat.reduceMul, Nat.reduceSub, Int.reduceToNat, reduceCtorEq, branch_decide, branch_not, branch_beq, branch_bne]
        refine fun x hx k hk => ?_
        obtain rfl : x = 0 := by omega
        have f1 : (G.length - 1 - i == i) = false := by simp; omega
        refine ⟨?_, by simp [mrgL, mtL, f1]⟩
        rw [revP_1 (by omega) hk]
        by_cases e4 : k = G.length - 1 - i
        · have f2 : (k == G.length - 1 - i) = true := by simpa using e4
          rw [if_pos e4, f2]
          simp [mt]
          exact .inr rfl
        · have f2 : (k == G.length - 1 - i) = false := by simpa using e4
          rw [if_neg e4, f2]
          by_cases e5 : k = i
          · have f3 : (k == i) = true := by simpa using e5
            rw [if_pos e5, f3]
            simp [mt]
            exact .inr rfl
          · have f3 : (k == i) = false := by simpa using e5
            rw [if_neg e5, f3]
            simp [mt]
            exact .inr rfl
  · refine ⟨_, _, [0, 1], ?_, by kernel_rfl, ?_, rfl, rfl⟩
    · simp only [push_cast, ↓branch_true, ↓branch_false, Nat.reduceBEq, Nat.reduceAdd, Nat.reduceMul, Nat.reduceSub, Int.reduceToNat, reduceCtorEq, branch_decide, branch_not, branch_beq, branch_bne]
    · simp only [push_cast, ↓branch_true, ↓branch_false, Nat.reduceBEq, Nat.reduceAdd, Nat.reduceMul, Nat.reduceSub, Int.reduceToNat, reduceCtorEq, branch_decide, branch_not, branch_beq, branch_bne]
      intro x hx k hk
      rw [revP_end (by omega) hk]
      exact ⟨rfl, rfl, .inr rfl⟩
end Go.Proofs.Ytdinkpefoljigaa
