/- Contracts: copies of pieces, and their reversal. -/
import Derived.Test.YtdeaaonppokgkaaBF
set_option maxRecDepth 100000
set_option linter.unusedSimpArgs false
set_option linter.unusedVariables false
-- 
namespace Go.Proofs.Ytdeaaonppokgkaa.Pat
open Go.RowKit
theorem sp_know {P : Program} {p : Prop} {f : FuncId} {args : List SV} {H : List Ob} {K : SV → List Ob → Prop} (h1 : ∀ vs w, (callFunc f vs).run P w = .ok (.enter f vs) w) (hf : ∀ β w vals, Inv β H w → OkL β args vals → p) (hs : p → Sp P f args H K) : Sp P f args H K :=
  ⟨h1, fun β w vals hI ha => (hs (hf β w vals hI ha)).2 β w vals hI ha⟩
def revP (n i k : Nat) : Nat := if k < i ∨ n ≤ k + i then n - 1 - k else k
theorem revP_0 {n k : Nat} (h : k < n) : revP n 0 k = k := by
  unfold revP
  rw [if_neg (by omega)]
theorem revP_in {n i k : Nat} (h : i ≤ k) (h2 : k + i < n) : revP n i k = k := by
  unfold revP
  rw [if_neg (by omega)]
theorem revP_end {n i k : Nat} (h : n ≤ i + i + 1) (hk : k < n) : revP n i k = n - 1 - k := by
  unfold revP
  split <;> omega
theorem revP_1 {n i k : Nat} (h : i < n - 1 - i) (hk : k < n) : revP n (i + 1) k = if k = n - 1 - i then i else if k = i then n - 1 - i else revP n i k := by
  unfold revP
  repeat' split
  all_goals omega
def rPO (l : List Pc) (cap : Nat) : Ob := ⟨45, false, .row 2 1 (fun _ => l.length) (fun _ => cap) (fun _ k => cPc (ix l k))⟩
attribute [push_cast] rPO
theorem src_pcs (f : Nat → Pc) (n : Nat) : srcOk (fun k => cPc (f k)) 2 n := by
  unfold srcOk
  split <;> simp [cPc, lenP, lenIs, ones, one1]
theorem cloneP_sp (l : List Pc) (c : Nat) (hl : l.length ≤ 2000) : Sp Try.prog 26 [.s 0 0 0 l.length c 2] [rPc l] (fun r H => ∃ cap, l.length ≤ cap ∧ r = .s 1 0 0 l.length cap 2 ∧ H = [rPc l, rPO l cap]) := by
  refine sp_know (p := l.length ≤ c) Try.call26 (fun β w vals _ ha => ?_) fun hd => ?_
  · simp only [OkL, Ok] at ha
    obtain ⟨u, us, _, ⟨A, _, h, _⟩, _⟩ := ha
    exact h
  refine sp_weak ?_
  refine sp_of_ex true [] mixed Try.call26 Try.func26 rfl Try.ntmps26 Try.results26 (by decide +kernel) rfl ?_
  simp only [push_cast, ↓branch_true, ↓branch_false, Nat.reduceBEq, Nat.reduceAdd, Nat.reduceMul, Nat.reduceSub, Int.reduceToNat, reduceCtorEq, branch_decide, branch_not, branch_beq, branch_bne]
  intro b hb
  cases b with
  | true =>
    have hc : ¬ 0 < c := fun h => by have := hb h; cases this
    have e : l = [] := List.length_eq_zero_iff.1 (by omega)
    subst e
    simp only [push_cast, ↓branch_true, ↓branch_false, Nat.reduceBEq, Nat.reduceAdd, Nat.reduceMul, Nat.reduceSub, Int.reduceToNat, reduceCtorEq, branch_decide, branch_not, branch_beq, branch_bne]
    refine ⟨_, _, [0, 1], ?_, by kernel_rfl, ?_, 0, Nat.le_refl _, rfl, rfl⟩
    · simp only [push_cast, ↓branch_true, ↓branch_false, Nat.reduceBEq, Nat.reduceAdd, Nat.reduceMul, Nat.reduceSub, Int.reduceToNat, reduceCtorEq, branch_decide, branch_not, branch_beq, branch_bne]
    · simp only [push_cast, ↓branch_true, ↓branch_false, Nat.reduceBEq, Nat.reduceAdd, Nat.reduceMul, Nat.reduceSub, Int.reduceToNat, reduceCtorEq, branch_decide, branch_not, branch_beq, branch_bne]
  | false =>
    simp only [push_cast, ↓branch_true, ↓branch_false, Nat.reduceBEq, Nat.reduceAdd, Nat.reduceMul, Nat.reduceSub, Int.reduceToNat, reduceCtorEq, branch_decide, branch_not, branch_beq, branch_bne]
    refine ⟨by omega, by omega, src_pcs _ _, appZ_of (fun h => ?_) fun _ => .inl ⟨by omega, by omega, fun cap hcap => ?_⟩⟩
    · have e : l = [] := List.length_eq_zero_iff.1 h
      subst e
      refine ⟨_, _, [0, 1], ?_, by kernel_rfl, ?_, 0, Nat.le_refl _, rfl, rfl⟩
      · simp only [push_cast, ↓branch_true, ↓branch_false, Nat.reduceBEq, Nat.reduceAdd, Nat.reduceMul, Nat.reduceSub, Int.reduceToNat, reduceCtorEq, branch_decide, branch_not, branch_beq, branch_bne]
      · simp only [push_cast, ↓branch_true, ↓branch_false, Nat.reduceBEq, Nat.reduceAdd, Nat.reduceMul, Nat.reduceSub, Int.reduceToNat, reduceCtorEq, branch_decide, branch_not, branch_beq, branch_bne]
        exact fun _ _ k hk => absurd hk (by omega)
    · refine ⟨_, _, [0, 2], ?_, by kernel_rfl, ?_, cap, hcap, rfl, rfl⟩
      · simp only [push_cast, ↓branch_true, ↓branch_false, Nat.reduceBEq, Nat.reduceAdd, Nat.reduceMul, Nat.reduceSub, Int.reduceToNat, reduceCtorEq, branch_decide, branch_not, branch_beq, branch_bne]
      · simp only [push_cast, ↓branch_true, ↓branch_false, Nat.reduceBEq, Nat.reduceAdd, Nat.reduceMul, Nat.reduceSub, Int.reduceToNat, reduceCtorEq, branch_decide, branch_not, branch_beq, branch_bne]
theorem mrg_cPc (b : Bool) (x y : Pc) : mrgL b (cPc x) (cPc y) = cPc (bif b then x else y) := by
  cases b <;> simp [cPc, mrgL, mrg1_eq]
/-- Half way of a reversal. -/
def rvL (l : List Pc) (i : Nat) : List Pc := (List.range l.length).map fun k => ix l (revP l.length i k)
theorem rvL_len (l : List Pc) (i : Nat) : (rvL l i).length = l.length := by simp [rvL]
theorem rvL_ix {l : List Pc} {i k : Nat} (h : k < l.length) : ix (rvL l i) k = ix l (revP l.length i k) := by
  rw [ix_eq (by rw [rvL_len]; exact h)]; simp [rvL]
theorem ix_revP {l : List Pc} {k : Nat} (hk : k < l.length) : ix l.reverse k = ix l (l.length - 1 - k) := by
  rw [ix_eq (by simpa using hk), ix_eq (by omega), List.getElem_reverse]
theorem mtL_cPc {rl : List Nat} {x y : Pc} (h : x = y) : mtL rl (cPc x) (cPc y) := by
  subst h; simp [cPc, mtL, mt]
set_option maxHeartbeats 1000000 in
theorem revPc_sp (l : List Pc) (cap : Nat) (hn : l.length ≤ 2000) (hc : l.length ≤ cap) : Sp Try.prog 27 [.s 0 0 0 l.length cap 2] [rPO l cap] (fun r H => r = .t [] ∧ H = [rPO l.reverse cap]) := by
  refine sp_weak ?_
  refine sp_of_ex true [(3, .one 0 (.one 1 (.one 2 (.one 3 (.one 4 (.one 5 (.one 6 (.one 8 (.one 9 (.one 10 (.alt [(7, .one 11 (.one 12 (.one 13 (.one 14 (.one 15 .fin))))), (11, .one 7 (.one 12 (.one 13 (.one 14 (.one 15 .fin)))))])))))))))))] mixed Try.call27 Try.func27 rfl Try.ntmps27 Try.results27 (by decide +kernel) rfl ?_
  simp only [push_cast, ↓branch_true, ↓branch_false, Nat.reduceBEq, Nat.reduceAdd, Nat.reduceMul, Nat.reduceSub, Int.reduceToNat, reduceCtorEq, branch_decide, branch_not, branch_beq, branch_bne]
  repeat (with_reducible refine And.intro (by omega) ?_)
  refine tr_loop mixed (by kernel_rfl) (fun (i : Nat) => [(2, .v (.int .i64 i)), (3, .v (.int .i64 (l.length - 1 - i))), (0, .s 0 0 0 l.length cap 2)])
    (fun i => [rPO (rvL l i) cap]) (fun i => i ≤ l.length) (fun i => l.length - i) 0 (Nat.zero_le _) (Mt.wk (rl := [0]) ⟨by kernel_rfl, ?_, ?_⟩) ?_
  · simp only [push_cast, ↓branch_true, ↓branch_false, Nat.reduceBEq, Nat.reduceAdd, Nat.reduceMul, Nat.reduceSub, Int.reduceToNat, reduceCtorEq, branch_decide, branch_not, branch_beq, branch_bne]
    simp
  · simp only [push_cast, ↓branch_true, ↓branch_false, Nat.reduceBEq, Nat.reduceAdd, Nat.reduceMul, Nat.reduceSub, Int.reduceToNat, reduceCtorEq, branch_decide, branch_not, branch_beq, branch_bne, rvL_len]
    intro x hx k hk
    rw [rvL_ix hk, revP_0 hk]
    exact ⟨rfl, rfl⟩
  intro i h1
  simp only [push_cast, ↓branch_true, ↓branch_false, Nat.reduceBEq, Nat.reduceAdd, Nat.reduceMul, Nat.reduceSub, Int.reduceToNat, reduceCtorEq, branch_decide, branch_not, branch_beq, branch_bne, rvL_len]
  refine ⟨fun h => ?_, fun h => ?_⟩
  · have e1 : ((l.length : Int) - 1 - i).toNat = l.length - 1 - i := by omega
    have e2 : ix (rvL l i) i = ix l i := by rw [rvL_ix (by omega), revP_in (Nat.le_refl _) (by omega)]
    have e3 : ix (rvL l i) (l.length - 1 - i) = ix l (l.length - 1 - i) := by rw [rvL_ix (by omega), revP_in (by omega) (by omega)]
    repeat' (with_reducible (first | apply And.intro | intro _))
    all_goals try omega
    all_goals
      simp only [e1, e2, e3]
      refine lpK_normal (i + 1) [0] (by omega) (by omega) (by kernel_rfl) ?_ ?_
      · simp only [push_cast, ↓branch_true, ↓branch_false, Nat.reduceBEq, Nat.reduceAdd, Nat.reduceMul, Nat.reduceSub, Int.reduceToNat, reduceCtorEq, branch_decide, branch_not, branch_beq, branch_bne]
        rw [show (l.length : Int) - 1 - (i + 1) = l.length - 1 - i - 1 by omega]
      · simp only [push_cast, ↓branch_true, ↓branch_false, Nat.reduceBEq, Nat.reduceAdd, Nat.reduceMul, Nat.reduceSub, Int.reduceToNat, reduceCtorEq, branch_decide, branch_not, branch_beq, branch_bne, rvL_len]
        refine fun x hx k hk => ?_
        obtain rfl : x = 0 := by omega
        rw [rvL_ix hk, rvL_ix hk, revP_1 (by omega) hk]
        by_cases e4 : k = l.length - 1 - i
        · have f2 : (k == l.length - 1 - i) = true := by simpa using e4
          rw [if_pos e4, f2]
          simp [mrgL, mtL]
        · have f2 : (k == l.length - 1 - i) = false := by simpa using e4
          rw [if_neg e4, f2]
          by_cases e5 : k = i
          · have f3 : (k == i) = true := by simpa using e5
            rw [if_pos e5, f3]
            simp [mrgL, mtL]
          · have f3 : (k == i) = false := by simpa using e5
            rw [if_neg e5, f3]
            simp [mrgL, mtL]
  · refine ⟨_, _, [0], ?_, by kernel_rfl, ?_, rfl, rfl⟩
    · simp only [push_cast, ↓branch_true, ↓branch_false, Nat.reduceBEq, Nat.reduceAdd, Nat.reduceMul, Nat.reduceSub, Int.reduceToNat, reduceCtorEq, branch_decide, branch_not, branch_beq, branch_bne]
    · simp only [push_cast, ↓branch_true, ↓branch_false, Nat.reduceBEq, Nat.reduceAdd, Nat.reduceMul, Nat.reduceSub, Int.reduceToNat, reduceCtorEq, branch_decide, branch_not, branch_beq, branch_bne, rvL_len, List.length_reverse]
      intro x hx k hk
      rw [rvL_ix hk, revP_end (by omega) hk, ix_revP hk]
      exact ⟨rfl, rfl⟩
end Go.Proofs.Ytdeaaonppokgkaa.Pat
