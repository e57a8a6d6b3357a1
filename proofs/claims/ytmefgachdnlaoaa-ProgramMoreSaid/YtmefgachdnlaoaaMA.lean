/- Contracts: Reverse of numbers, Clone of rows. -/
import Derived.Test.YtmefgachdnlaoaaS
set_option maxRecDepth 100000
set_option linter.unusedSimpArgs false
set_option linter.unusedVariables false
namespace Go.Proofs.Ytmefgachdnlaoaa
open Go.RowKit Lp
def revP (n i k : Nat) : Nat := if k < i ∨ n ≤ k + i then n - 1 - k else k
theorem revP_0 {n k : Nat} (h : k < n) : revP n 0 k = k := by
  unfold revP
  rw [if_neg (by omega)]
theorem revP_in {n i k : Nat} (h : i ≤ k) (h2 : k + i < n) : revP n i k = k := by
  unfold revP
  rw [if_neg (by omega)]
theorem revP_end {n i k : Nat} (h : n ≤ i + i + 1) (hk : k < n) : revP n i k = n - 1 - k := by
  unfold revP
  split <;> omega
theorem revP_1 {n i k : Nat} (h : i < n - 1 - i) (hk : k < n) : revP n (i + 1) k = if k = n - 1 - i then i else if k = i then n - 1 - i else revP n i k := by
  unfold revP
  repeat' split
  all_goals omega
set_option maxHeartbeats 1000000 in
theorem reverse_sp (n c : Nat) (f : Nat → Int) (hn : n ≤ 1000000) (hc : n ≤ c) : Sp Try.prog 23 [.s 0 0 0 n c 1] [oI n c f] (fun r H => r = .t [] ∧ H = [oI n c fun k => f (n - 1 - k)]) := by
  refine sp_weak ?_
  refine sp_of_ex true [(3, .one 0 (.one 1 (.one 2 (.one 3 (.one 4 (.one 5 (.one 6 (.one 8 (.one 9 (.one 10 (.alt [(7, .one 11 (.one 12 (.one 13 (.one 14 (.one 15 .fin))))), (11, .one 7 (.one 12 (.one 13 (.one 14 (.one 15 .fin)))))])))))))))))] mixed Try.call23 Try.func23 rfl Try.ntmps23 Try.results23 (by decide +kernel) rfl ?_
  simp only [push_cast, ↓branch_true, ↓branch_false, Nat.reduceBEq, Nat.reduceAdd, Nat.reduceMul, Nat.reduceSub, Int.reduceToNat, reduceCtorEq, Int.reduceAdd, Int.reduceEq, Int.reduceLE, Int.reduceLT, Nat.reduceLT, Nat.reduceLeDiff]
  repeat (with_reducible refine And.intro (by omega) ?_)
  refine tr_loop mixed (by kernel_rfl) (fun (i : Nat) => [(2, .v (.int .i64 i)), (3, .v (.int .i64 (n - 1 - i))), (0, .s 0 0 0 n c 1)])
    (fun i => [oI n c fun k => f (revP n i k)]) (fun i => i ≤ n) (fun i => n - i) 0 (Nat.zero_le _) (Mt.wk (rl := [0]) ⟨by kernel_rfl, ?_, ?_⟩) ?_
  · simp only [push_cast, ↓branch_true, ↓branch_false, Nat.reduceBEq, Nat.reduceAdd, Nat.reduceMul, Nat.reduceSub, Int.reduceToNat, reduceCtorEq, Int.reduceAdd, Int.reduceEq, Int.reduceLE, Int.reduceLT, Nat.reduceLT, Nat.reduceLeDiff]
    simp
  · simp only [push_cast, ↓branch_true, ↓branch_false, Nat.reduceBEq, Nat.reduceAdd, Nat.reduceMul, Nat.reduceSub, Int.reduceToNat, reduceCtorEq, Int.reduceAdd, Int.reduceEq, Int.reduceLE, Int.reduceLT, Nat.reduceLT, Nat.reduceLeDiff]
    intro x hx k hk
    rw [revP_0 hk]
  intro i h1
  simp only [push_cast, ↓branch_true, ↓branch_false, Nat.reduceBEq, Nat.reduceAdd, Nat.reduceMul, Nat.reduceSub, Int.reduceToNat, reduceCtorEq, Int.reduceAdd, Int.reduceEq, Int.reduceLE, Int.reduceLT, Nat.reduceLT, Nat.reduceLeDiff]
  refine ⟨fun h => ?_, fun h => ?_⟩
  · have e1 : ((n : Int) - 1 - i).toNat = n - 1 - i := by omega
    have e2 : revP n i i = i := revP_in (Nat.le_refl _) (by omega)
    have e3 : revP n i (n - 1 - i) = n - 1 - i := revP_in (by omega) (by omega)
    repeat' (with_reducible (first | apply And.intro | intro _))
    all_goals try omega
    all_goals
      simp only [e1, e2, e3]
      refine lpK_normal (i + 1) [0] (by omega) (by omega) (by kernel_rfl) ?_ ?_
      · simp only [push_cast, ↓branch_true, ↓branch_false, Nat.reduceBEq, Nat.reduceAdd, Nat.reduceMul, Nat.reduceSub, Int.reduceToNat, reduceCtorEq, Int.reduceAdd, Int.reduceEq, Int.reduceLE, Int.reduceLT, Nat.reduceLT, Nat.reduceLeDiff]
        rw [show (n : Int) - 1 - (i + 1) = n - 1 - i - 1 by omega]
      · simp only [push_cast, ↓branch_true, ↓branch_false, Nat.reduceBEq, Nat.reduceAdd, Nat.reduceMul, Nat.reduceSub, Int.reduceToNat, reduceCtorEq, Int.reduceAdd, Int.reduceEq, Int.reduceLE, Int.reduceLT, Nat.reduceLT, Nat.reduceLeDiff]
        refine fun x hx k hk => ?_
        obtain rfl : x = 0 := by omega
        rw [revP_1 (by omega) hk]
        by_cases e4 : k = n - 1 - i
        · have f2 : (k == n - 1 - i) = true := by simpa using e4
          rw [if_pos e4, f2]
          simp [mrgL, mtL]
        · have f2 : (k == n - 1 - i) = false := by simpa using e4
          rw [if_neg e4, f2]
          by_cases e5 : k = i
          · have f3 : (k == i) = true := by simpa using e5
            rw [if_pos e5, f3]
            simp [mrgL, mtL]
          · have f3 : (k == i) = false := by simpa using e5
            rw [if_neg e5, f3]
            simp [mrgL, mtL]
  · refine ⟨_, _, [0], ?_, by kernel_rfl, ?_, rfl, rfl⟩
    · simp only [push_cast, ↓branch_true, ↓branch_false, Nat.reduceBEq, Nat.reduceAdd, Nat.reduceMul, Nat.reduceSub, Int.reduceToNat, reduceCtorEq, Int.reduceAdd, Int.reduceEq, Int.reduceLE, Int.reduceLT, Nat.reduceLT, Nat.reduceLeDiff]
    · simp only [push_cast, ↓branch_true, ↓branch_false, Nat.reduceBEq, Nat.reduceAdd, Nat.reduceMul, Nat.reduceSub, Int.reduceToNat, reduceCtorEq, Int.reduceAdd, Int.reduceEq, Int.reduceLE, Int.reduceLT, Nat.reduceLT, Nat.reduceLeDiff]
      intro x hx k hk
      rw [revP_end (by omega) hk]
/-- Rows in a list of its own. -/
def oRw (p : Pm) (cap : Nat) : Ob := ⟨45, false, .row 3 1 (fun _ => p.m) (fun _ => cap) (fun _ t => [.s 1 t 0 (p.ln t) (p.cp t) 1, .v (.int .i64 (p.kd t)), .v (.int .i64 (p.b t))])⟩
def rRw1 (p : Pm) : Ob := ⟨45, true, .row 3 1 (fun _ => p.m) (fun _ => p.mc) (fun _ t => [.s 1 t 0 (p.ln t) (p.cp t) 1, .v (.int .i64 (p.kd t)), .v (.int .i64 (p.b t))])⟩
attribute [push_cast] oRw rRw1
set_option maxHeartbeats 1000000 in
theorem cloneR_sp (p : Pm) (hm : p.m ≤ 1000000) (hc : p.m ≤ p.mc) : Sp Try.prog 24 [.s 0 0 0 p.m p.mc 3] [rRw1 p, rAf p] (fun r H => ∃ cap, p.m ≤ cap ∧ r = .s 2 0 0 p.m cap 3 ∧ H = [rRw1 p, rAf p, oRw p cap]) := by
  refine sp_weak ?_
  refine sp_of_ex true [] mixed Try.call24 Try.func24 rfl Try.ntmps24 Try.results24 (by decide +kernel) rfl ?_
  simp only [push_cast, ↓branch_true, ↓branch_false, Nat.reduceBEq, Nat.reduceAdd, Nat.reduceMul, Nat.reduceSub, Int.reduceToNat, reduceCtorEq, Int.reduceAdd, Int.reduceEq, Int.reduceLE, Int.reduceLT, Nat.reduceLT, Nat.reduceLeDiff]
  intro b hb
  cases b with
  | true =>
    have h0 : p.m = 0 := by
      rcases Nat.eq_zero_or_pos p.mc with h | h
      · omega
      · cases hb h
    simp only [push_cast, ↓branch_true, ↓branch_false, Nat.reduceBEq, Nat.reduceAdd, Nat.reduceMul, Nat.reduceSub, Int.reduceToNat, reduceCtorEq, Int.reduceAdd, Int.reduceEq, Int.reduceLE, Int.reduceLT, Nat.reduceLT, Nat.reduceLeDiff]
    refine ⟨_, _, [0, 1, 1000], ?_, by kernel_rfl, ?_, 0, by omega, rfl, rfl⟩
    · simp only [push_cast, ↓branch_true, ↓branch_false, Nat.reduceBEq, Nat.reduceAdd, Nat.reduceMul, Nat.reduceSub, Int.reduceToNat, reduceCtorEq, Int.reduceAdd, Int.reduceEq, Int.reduceLE, Int.reduceLT, Nat.reduceLT, Nat.reduceLeDiff]
      exact h0
    · simp only [push_cast, ↓branch_true, ↓branch_false, Nat.reduceBEq, Nat.reduceAdd, Nat.reduceMul, Nat.reduceSub, Int.reduceToNat, reduceCtorEq, Int.reduceAdd, Int.reduceEq, Int.reduceLE, Int.reduceLT, Nat.reduceLT, Nat.reduceLeDiff]
      omega
  | false =>
    simp only [push_cast, ↓branch_true, ↓branch_false, Nat.reduceBEq, Nat.reduceAdd, Nat.reduceMul, Nat.reduceSub, Int.reduceToNat, reduceCtorEq, Int.reduceAdd, Int.reduceEq, Int.reduceLE, Int.reduceLT, Nat.reduceLT, Nat.reduceLeDiff]
    repeat (with_reducible refine And.intro (by omega) ?_)
    refine ⟨?_, appZ_of (fun h => ?_) fun _ => .inl ⟨by omega, by omega, fun cap hcap => ?_⟩⟩
    · unfold srcOk
      split <;> simp [lenP, lenIs, ones, one1]
    · refine ⟨_, _, [0, 1, 2], ?_, by kernel_rfl, ?_, 0, by omega, rfl, rfl⟩
      · simp only [push_cast, ↓branch_true, ↓branch_false, Nat.reduceBEq, Nat.reduceAdd, Nat.reduceMul, Nat.reduceSub, Int.reduceToNat, reduceCtorEq, Int.reduceAdd, Int.reduceEq, Int.reduceLE, Int.reduceLT, Nat.reduceLT, Nat.reduceLeDiff]
        exact h
      · simp only [push_cast, ↓branch_true, ↓branch_false, Nat.reduceBEq, Nat.reduceAdd, Nat.reduceMul, Nat.reduceSub, Int.reduceToNat, reduceCtorEq, Int.reduceAdd, Int.reduceEq, Int.reduceLE, Int.reduceLT, Nat.reduceLT, Nat.reduceLeDiff]
        exact fun _ _ => ⟨by omega, fun k hk => by omega⟩
    · refine ⟨_, _, [0, 1, 3], ?_, by kernel_rfl, ?_, cap, by omega, rfl, rfl⟩
      · simp only [push_cast, ↓branch_true, ↓branch_false, Nat.reduceBEq, Nat.reduceAdd, Nat.reduceMul, Nat.reduceSub, Int.reduceToNat, reduceCtorEq, Int.reduceAdd, Int.reduceEq, Int.reduceLE, Int.reduceLT, Nat.reduceLT, Nat.reduceLeDiff]
      · simp only [push_cast, ↓branch_true, ↓branch_false, Nat.reduceBEq, Nat.reduceAdd, Nat.reduceMul, Nat.reduceSub, Int.reduceToNat, reduceCtorEq, Int.reduceAdd, Int.reduceEq, Int.reduceLE, Int.reduceLT, Nat.reduceLT, Nat.reduceLeDiff]
end Go.Proofs.Ytmefgachdnlaoaa
