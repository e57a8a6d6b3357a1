/- Contracts: copies of bundles, and their reversal. -/
import Derived.Test.YtdinkpefoljigaaAR
set_option maxRecDepth 100000
set_option linter.unusedSimpArgs false
set_option linter.unusedVariables false
namespace Go.Proofs.Ytdinkpefoljigaa
open Go.RowKit
def rBO (l : List Bun) (cap : Nat) : Ob := ⟨48, false, .row 4 1 (fun _ => l.length) (fun _ => cap) (fun _ k => cB (ix l k))⟩
attribute [push_cast] rBO
theorem src_buns (f : Nat → Bun) (n : Nat) : srcOk (fun k => cB (f k)) 4 n := by
  unfold srcOk
  split <;> simp [cB, lenP, lenIs, ones, one1]
theorem cloneB_sp (l : List Bun) (c : Nat) (hl : l.length ≤ 2000) : Sp Try.prog 25 [.s 0 0 0 l.length c 4] [rB l] (fun r H => ∃ cap, l.length ≤ cap ∧ r = .s 1 0 0 l.length cap 4 ∧ H = [rB l, rBO l cap]) := by
  refine sp_know (p := l.length ≤ c) Try.call25 (fun β w vals _ ha => ?_) fun hd => ?_
  · simp only [OkL, Ok] at ha
    obtain ⟨u, us, _, ⟨A, _, h, _⟩, _⟩ := ha
    exact h
  refine sp_weak ?_
  refine sp_of_ex true [] mixed Try.call25 Try.func25 rfl Try.ntmps25 Try.results25 (by decide +kernel) rfl ?_
  simp only [push_cast, ↓branch_true, ↓branch_false, Nat.reduceBEq, Nat.reduceAdd, Nat.reduceMul, Nat.reduceSub, Int.reduceToNat, reduceCtorEq, branch_decide, branch_not, branch_beq, branch_bne]
  intro b hb
  cases b with
  | true =>
    have hc : ¬ 0 < c := fun h => by have := hb h; cases this
    have e : l = [] := List.length_eq_zero_iff.1 (by omega)
    subst e
    simp only [push_cast, ↓branch_true, ↓branch_false, Nat.reduceBEq, Nat.reduceAdd, Nat.reduceMul, Nat.reduceSub, Int.reduceToNat, reduceCtorEq, branch_decide, branch_not, branch_beq, branch_bne]
    refine ⟨_, _, [0, 1], ?_, by kernel_rfl, ?_, 0, Nat.le_refl _, rfl, rfl⟩
    · simp only [push_cast, ↓branch_true, ↓branch_false, Nat.reduceBEq, Nat.reduceAdd, Nat.reduceMul, Nat.reduceSub, Int.reduceToNat, reduceCtorEq, branch_decide, branch_not, branch_beq, branch_bne]
    · simp only [push_cast, ↓branch_true, ↓branch_false, Nat.reduceBEq, Nat.reduceAdd, Nat.reduceMul, Nat.reduceSub, Int.reduceToNat, reduceCtorEq, branch_decide, branch_not, branch_beq, branch_bne]
  | false =>
    simp only [push_cast, ↓branch_true, ↓branch_false, Nat.reduceBEq, Nat.reduceAdd, Nat.reduceMul, Nat.reduceSub, Int.reduceToNat, reduceCtorEq, branch_decide, branch_not, branch_beq, branch_bne]
    refine ⟨by omega, by omega, src_buns _ _, appZ_of (fun h => ?_) fun _ => .inl ⟨by omega, by omega, fun cap hcap => ?_⟩⟩
    · have e : l = [] := List.length_eq_zero_iff.1 h
      subst e
      refine ⟨_, _, [0, 1], ?_, by kernel_rfl, ?_, 0, Nat.le_refl _, rfl, rfl⟩
      · simp only [push_cast, ↓branch_true, ↓branch_false, Nat.reduceBEq, Nat.reduceAdd, Nat.reduceMul, Nat.reduceSub, Int.reduceToNat, reduceCtorEq, branch_decide, branch_not, branch_beq, branch_bne]
      · simp only [push_cast, ↓branch_true, ↓branch_false, Nat.reduceBEq, Nat.reduceAdd, Nat.reduceMul, Nat.reduceSub, Int.reduceToNat, reduceCtorEq, branch_decide, branch_not, branch_beq, branch_bne]
        exact fun _ _ k hk => absurd hk (by omega)
    · refine ⟨_, _, [0, 2], ?_, by kernel_rfl, ?_, cap, hcap, rfl, rfl⟩
      · simp only [push_cast, ↓branch_true, ↓branch_false, Nat.reduceBEq, Nat.reduceAdd, Nat.reduceMul, Nat.reduceSub, Int.reduceToNat, reduceCtorEq, branch_decide, branch_not, branch_beq, branch_bne]
      · simp only [push_cast, ↓branch_true, ↓branch_false, Nat.reduceBEq, Nat.reduceAdd, Nat.reduceMul, Nat.reduceSub, Int.reduceToNat, reduceCtorEq, branch_decide, branch_not, branch_beq, branch_bne]
theorem mrg_cB (b : Bool) (x y : Bun) : mrgL b (cB x) (cB y) = cB (bif b then x else y) := by
  cases b <;> simp [cB, mrgL, mrg1_eq]
/-- Half way of a reversal. -/
def rvL (l : List Bun) (i : Nat) : List Bun := (List.range l.length).map fun k => ix l (revP l.length i k)
theorem rvL_len (l : List Bun) (i : Nat) : (rvL l i).length = l.length := by simp [rvL]
theorem rvL_ix {l : List Bun} {i k : Nat} (h : k < l.length) : ix (rvL l i) k = ix l (revP l.length i k) := by
  rw [ix_eq (by rw [rvL_len]; exact h)]; simp [rvL]
theorem ix_revB {l : List Bun} {k : Nat} (hk : k < l.length) : ix l.reverse k = ix l (l.length - 1 - k) := by
  rw [ix_eq (by simpa using hk), ix_eq (by omega), List.getElem_reverse]
theorem mtL_cB {rl : List Nat} {x y : Bun} (h : x = y) : mtL rl (cB x) (cB y) := by
  subst h; simp [cB, mtL, mt]
set_option maxHeartbeats 1000000 in
theorem revB_sp (l : List Bun) (cap : Nat) (hn : l.length ≤ 2000) (hc : l.length ≤ cap) : Sp Try.prog 26 [.s 0 0 0 l.length cap 4] [rBO l cap] (fun r H => r = .t [] ∧ H = [rBO l.reverse cap]) := by
  refine sp_weak ?_
  refine sp_of_ex true [(3, .one 0 (.one 1 (.one 2 (.one 3 (.one 4 (.one 5 (.one 6 (.one 8 (.one 9 (.one 10 (.alt [(7, .one 11 (.one 12 (.one 13 (.one 14 (.one 15 .fin))))), (11, .one 7 (.one 12 (.one 13 (.one 14 (.one 15 .fin)))))])))))))))))] mixed Try.call26 Try.func26 rfl Try.ntmps26 Try.results26 (by decide +kernel) rfl ?_
  simp only [push_cast, ↓branch_true, ↓branch_false, Nat.reduceBEq, Nat.reduceAdd, Nat.reduceMul, Nat.reduceSub, Int.reduceToNat, reduceCtorEq, branch_decide, branch_not, branch_beq, branch_bne]
  repeat (with_reducible refine And.intro (by omega) ?_)
  refine tr_loop mixed (by kernel_rfl) (fun (i : Nat) => [(2, .v (.int .i64 i)), (3, .v (.int .i64 (l.length - 1 - i))), (0, .s 0 0 0 l.length cap 4)])
    (fun i => [rBO (rvL l i) cap]) (fun i => i ≤ l.length) (fun i => l.length - i) 0 (Nat.zero_le _) (Mt.wk (rl := [0]) ⟨by kernel_rfl, ?_, ?_⟩) ?_
  · simp only [push_cast, ↓branch_true, ↓branch_false, Nat.reduceBEq, Nat.reduceAdd, Nat.reduceMul, Nat.reduceSub, Int.reduceToNat, reduceCtorEq, branch_decide, branch_not, branch_beq, branch_bne]
    simp
  · simp only [push_cast, ↓branch_true, ↓branch_false, Nat.reduceBEq, Nat.reduceAdd, Nat.reduceMul, Nat.reduceSub, Int.reduceToNat, reduceCtorEq, branch_decide, branch_not, branch_beq, branch_bne, rvL_len]
    intro x hx k hk
    rw [rvL_ix hk, revP_0 hk]
    exact ⟨rfl, rfl, rfl, rfl⟩
  intro i h1
  simp only [push_cast, ↓branch_true, ↓branch_false, Nat.reduceBEq, Nat.reduceAdd, Nat.reduceMul, Nat.reduceSub, Int.reduceToNat, reduceCtorEq, branch_decide, branch_not, branch_beq, branch_bne, rvL_len]
  refine ⟨fun h => ?_, fun h => ?_⟩
  · have e1 : ((l.length : Int) - 1 - i).toNat = l.length - 1 - i := by omega
    have e2 : ix (rvL l i) i = ix l i := by rw [rvL_ix (by omega), revP_in (Nat.le_refl _) (by omega)]
    have e3 : ix (rvL l i) (l.length - 1 - i) = ix l (l.length - 1 - i) := by rw [rvL_ix (by omega), revP_in (by omega) (by omega)]
    repeat' (with_reducible (first | apply And.intro | intro _))
    all_goals try omega
    all_goals
      simp only [e1, e2, e3]
      refine lpK_normal (i + 1) [0] (by omega) (by omega) (by kernel_rfl) ?_ ?_
      · simp only [push_cast, ↓branch_true, ↓branch_false, Nat.reduceBEq, Nat.reduceAdd, Nat.reduceMul, Nat.reduceSub, Int.reduceToNat, reduceCtorEq, branch_decide, branch_not, branch_beq, branch_bne]
        rw [show (l.length : Int) - 1 - (i + 1) = l.length - 1 - i - 1 by omega]
      · simp only [push_cast, ↓branch_true, ↓branch_false, Nat.reduceBEq, Nat.reduceAdd, Nat.reduceMul, Nat.reduceSub, Int.reduceToNat, reduceCtorEq, branch_decide, branch_not, branch_beq, branch_bne, rvL_len]
        refine fun x hx k hk => ?_
        obtain rfl : x = 0 := by omega
        rw [rvL_ix hk, rvL_ix hk, revP_1 (by omega) hk]
        by_cases e4 : k = l.length - 1 - i
        · have f2 : (k == l.length - 1 - i) = true := by simpa using e4
          rw [if_pos e4, f2]
          simp [mrgL, mtL]
        · have f2 : (k == l.length - 1 - i) = false := by simpa using e4
          rw [if_neg e4, f2]
          by_cases e5 : k = i
          · have f3 : (k == i) = true := by simpa using e5
            rw [if_pos e5, f3]
            simp [mrgL, mtL]
          · have f3 : (k == i) = false := by simpa using e5
            rw [if_neg e5, f3]
            simp [mrgL, mtL]
  · refine ⟨_, _, [0], ?_, by kernel_rfl, ?_, rfl, rfl⟩
    · simp only [push_cast, ↓branch_true, ↓branch_false, Nat.reduceBEq, Nat.reduceAdd, Nat.reduceMul, Nat.reduceSub, Int.reduceToNat, reduceCtorEq, branch_decide, branch_not, branch_beq, branch_bne]
    · simp only [push_cast, ↓branch_true, ↓branch_false, Nat.reduceBEq, Nat.reduceAdd, Nat.reduceMul, Nat.reduceSub, Int.reduceToNat, reduceCtorEq, branch_decide, branch_not, branch_beq, branch_bne, rvL_len, List.length_reverse]
      intro x hx k hk
      rw [rvL_ix hk, revP_end (by omega) hk, ix_revB hk]
      exact ⟨rfl, rfl, rfl, rfl⟩
end Go.Proofs.Ytdinkpefoljigaa
