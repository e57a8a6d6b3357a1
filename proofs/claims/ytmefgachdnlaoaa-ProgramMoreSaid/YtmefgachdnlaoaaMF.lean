/- The law: a further row never lowers the least value. -/
import Derived.Test.YtmefgachdnlaoaaME
import Derived.Test.YtmefgachdnlaoaaV
set_option maxRecDepth 100000
set_option linter.unusedSimpArgs false
set_option linter.unusedVariables false
namespace Go.Proofs.Ytmefgachdnlaoaa
open Go.RowKit Lp
def bP (p : Pm) : Ob := ⟨25, false, .st [.s 0 0 0 p.n p.nc 1, .s 1 0 0 p.m p.mc 3]⟩
def bR (rl rc : Nat) (rk rb : Int) : Ob := ⟨45, false, .st [.s 3 0 0 rl rc 1, .v (.int .i64 rk), .v (.int .i64 rb)]⟩
def bT (n cc i oc : Nat) : Ob := ⟨25, false, .st [.s 9 0 0 n cc 1, .s 11 0 0 i oc 3]⟩
/-- The rows so far, the last one first. -/
def oRT (p : Pm) (i oc : Nat) (cps : Nat → Nat) : Ob := ⟨45, false, .row 3 1 (fun _ => i) (fun _ => oc) (fun _ k => [.s 12 (p.m - i + k) 0 (p.ln (i - 1 - k)) (cps (p.m - i + k)) 1, .v (.int .i64 (p.kd (i - 1 - k))), .v (.int .i64 (p.b (i - 1 - k)))])⟩
def oFT (p : Pm) (i : Nat) (cps : Nat → Nat) : Ob := ⟨3, false, .row 1 (big + 2) (fun s => bif decide (p.m ≤ s + i) && decide (s < p.m) then p.ln (p.m - 1 - s) else 0) cps (fun s k => [.v (.int .i64 (p.a (p.m - 1 - s) (p.ln (p.m - 1 - s) - 1 - k)))])⟩
attribute [push_cast] bP bR bT oRT oFT
theorem fam_len (m i s : Nat) (ln : Nat → Nat) (hi : i < m) : (bif decide (m ≤ s + (i + 1)) && decide (s < m) then ln (m - 1 - s) else 0) ≤ bif s == m - 1 - i then ln i else bif decide (m ≤ s + i) && decide (s < m) then ln (m - 1 - s) else 0 := by
  by_cases e : s = m - 1 - i
  · subst e
    rw [show m - 1 - (m - 1 - i) = i by omega, beq_self_eq_true, decide_eq_true (show m ≤ m - 1 - i + (i + 1) by omega), decide_eq_true (show m - 1 - i < m by omega)]
    exact Nat.le_refl _
  · have eb : (s == m - 1 - i) = false := by simpa using e
    rw [eb]
    by_cases h : m ≤ s + i
    · rw [decide_eq_true h, decide_eq_true (show m ≤ s + (i + 1) by omega)]
      exact Nat.le_refl _
    · rw [decide_eq_false (show ¬ m ≤ s + (i + 1) by omega), decide_eq_false h]
      exact Nat.le_refl _
theorem fam_cell {rl : List Nat} (m i s k F c : Nat) (a : Nat → Nat → Int) (ln : Nat → Nat) (hi : i < m) : mtL rl [.v (.int .i64 (a (m - 1 - s) (ln (m - 1 - s) - 1 - k)))] (plL F (m - 1 - i) c (bif s == m - 1 - i then [.v (.int .i64 (a i (ln i - 1 - k)))] else [.v (.int .i64 (a (m - 1 - s) (ln (m - 1 - s) - 1 - k)))])) := by
  by_cases e : s = m - 1 - i
  · subst e
    rw [show m - 1 - (m - 1 - i) = i by omega, beq_self_eq_true]
    simp only [push_cast, ↓branch_true, ↓branch_false, Nat.reduceBEq, Nat.reduceAdd, Nat.reduceMul, Nat.reduceSub, Int.reduceToNat, reduceCtorEq, Int.reduceAdd, Int.reduceEq, Int.reduceLE, Int.reduceLT, Nat.reduceLT, Nat.reduceLeDiff]
  · have eb : (s == m - 1 - i) = false := by simpa using e
    rw [eb]
    simp only [push_cast, ↓branch_true, ↓branch_false, Nat.reduceBEq, Nat.reduceAdd, Nat.reduceMul, Nat.reduceSub, Int.reduceToNat, reduceCtorEq, Int.reduceAdd, Int.reduceEq, Int.reduceLE, Int.reduceLT, Nat.reduceLT, Nat.reduceLeDiff]
theorem out_zero {p : Pm} {e N D : Int} (h : OutP p e N D) (he : e = 0) : ∃ s, vPm p = true ∧ fitB p = true ∧ Last p s ∧ N = rn (valP p s) s.d.toNat ∧ D = (rd (valP p s) s.d.toNat : Nat) := by
  cases h with
  | ok s hv hf hL => exact ⟨s, hv, hf, hL, rfl, rfl⟩
  | arg _ => exact absurd he (by decide)
  | big _ _ => exact absurd he (by decide)
  | gap _ _ _ _ => exact absurd he (by decide)
  | free _ _ _ => exact absurd he (by decide)
theorem mtL_bif {rl : List Nat} {b : Bool} {x y x' y' : List SV} (h1 : b = true → mtL rl x x') (h2 : b = false → mtL rl y y') : mtL rl (bif b then x else y) (bif b then x' else y') := by
  cases b
  · exact h2 rfl
  · exact h1 rfl
set_option maxHeartbeats 16000000 in
theorem lmore_sp (p : Pm) (hnc : p.n ≤ p.nc) (hmc : p.m ≤ p.mc) (hlc : ∀ t, t < p.m → p.ln t ≤ p.cp t) (hl : ∀ t, t < p.m → p.ln t ≤ 9223372036854775807) (hm : p.m ≤ 9223372036854775807) (hn : p.n ≤ 9223372036854775807)
    (rl rc : Nat) (rf : Nat → Int) (rk rb : Int) (hrl : rl ≤ 9223372036854775807) :
    Sp Try.prog 4 [svP p, .a [.s 3 0 0 rl rc 1, .v (.int .i64 rk), .v (.int .i64 rb)]] (obP p ++ [rI rl rc rf]) (isK (.v (.bool true))) := by
  have hfw := few_pu p hl hm hn
  have hin : vPm p = true → PmOk p := pmok_of hnc hmc
  have hbig := big_eq
  have hfz := p.fzm
  refine sp_of_ex true [(19, .jx (.pre [4, 5] [0, 1, 3] (.alt [(2, .one 4 (.one 5 (.one 6 (.one 7 .fin)))), (4, .one 2 (.one 5 (.one 6 (.one 7 .fin))))])))] mixed Try.call4 Try.func4 rfl Try.ntmps4 Try.results4 (by decide +kernel) rfl ?_
  simp only [push_cast, ↓branch_true, ↓branch_false, Nat.reduceBEq, Nat.reduceAdd, Nat.reduceMul, Nat.reduceSub, Int.reduceToNat, reduceCtorEq, Int.reduceAdd, Int.reduceEq, Int.reduceLE, Int.reduceLT, Nat.reduceLT, Nat.reduceLeDiff]
  refine sp_at awake_sp [] rfl ?_ ?_ ?_
  · simp only [push_cast, ↓branch_true, ↓branch_false, Nat.reduceBEq, Nat.reduceAdd, Nat.reduceMul, Nat.reduceSub, Int.reduceToNat, reduceCtorEq, Int.reduceAdd, Int.reduceEq, Int.reduceLE, Int.reduceLT, Nat.reduceLT, Nat.reduceLeDiff]
  · simp only [push_cast, ↓branch_true, ↓branch_false, Nat.reduceBEq, Nat.reduceAdd, Nat.reduceMul, Nat.reduceSub, Int.reduceToNat, reduceCtorEq, Int.reduceAdd, Int.reduceEq, Int.reduceLE, Int.reduceLT, Nat.reduceLT, Nat.reduceLeDiff]
  rintro _ _ ⟨rfl, rfl⟩
  simp only [push_cast, ↓branch_true, ↓branch_false, Nat.reduceBEq, Nat.reduceAdd, Nat.reduceMul, Nat.reduceSub, Int.reduceToNat, reduceCtorEq, Int.reduceAdd, Int.reduceEq, Int.reduceLE, Int.reduceLT, Nat.reduceLT, Nat.reduceLeDiff]
  refine sp_c hfw rfl [0, 1, 2] ?_
  simp only [push_cast, ↓branch_true, ↓branch_false, Nat.reduceBEq, Nat.reduceAdd, Nat.reduceMul, Nat.reduceSub, Int.reduceToNat, reduceCtorEq, Int.reduceAdd, Int.reduceEq, Int.reduceLE, Int.reduceLT, Nat.reduceLT, Nat.reduceLeDiff]
  cases hfe : fewB p with
  | false =>
    simp only [push_cast, ↓branch_true, ↓branch_false, Nat.reduceBEq, Nat.reduceAdd, Nat.reduceMul, Nat.reduceSub, Int.reduceToNat, reduceCtorEq, Int.reduceAdd, Int.reduceEq, Int.reduceLE, Int.reduceLT, Nat.reduceLT, Nat.reduceLeDiff]
    try rfl
  | true =>
  unfold fewB at hfe
  rw [Bool.and_eq_true, Bool.and_eq_true, decide_eq_true_eq, decide_eq_true_eq, decide_eq_true_eq] at hfe
  obtain ⟨f1, f2, f3⟩ := hfe
  simp only [push_cast, ↓branch_true, ↓branch_false, Nat.reduceBEq, Nat.reduceAdd, Nat.reduceMul, Nat.reduceSub, Int.reduceToNat, reduceCtorEq, Int.reduceAdd, Int.reduceEq, Int.reduceLE, Int.reduceLT, Nat.reduceLT, Nat.reduceLeDiff]
  intro h1
  refine sp_at (solveS_sp p hin (fun t ht => by have := f3 t ht; omega) (by omega) (by omega)) [0, 1, 2] (by kernel_rfl) ?_ ?_ ?_
  · simp only [push_cast, ↓branch_true, ↓branch_false, Nat.reduceBEq, Nat.reduceAdd, Nat.reduceMul, Nat.reduceSub, Int.reduceToNat, reduceCtorEq, Int.reduceAdd, Int.reduceEq, Int.reduceLE, Int.reduceLT, Nat.reduceLT, Nat.reduceLeDiff]
  · simp only [push_cast, ↓branch_true, ↓branch_false, Nat.reduceBEq, Nat.reduceAdd, Nat.reduceMul, Nat.reduceSub, Int.reduceToNat, reduceCtorEq, Int.reduceAdd, Int.reduceEq, Int.reduceLE, Int.reduceLT, Nat.reduceLT, Nat.reduceLeDiff]
  rintro _ _ ⟨e, N, D, xl, xc, yl, yc, d1, d2, X, Y, hO, rfl, rfl⟩
  simp only [push_cast, ↓branch_true, ↓branch_false, Nat.reduceBEq, Nat.reduceAdd, Nat.reduceMul, Nat.reduceSub, Int.reduceToNat, reduceCtorEq, Int.reduceAdd, Int.reduceEq, Int.reduceLE, Int.reduceLT, Nat.reduceLT, Nat.reduceLeDiff]
  refine sp_at (clone_sp p.n p.nc p.co (by omega) hnc) [0] (by kernel_rfl) ?_ ?_ ?_
  · simp only [push_cast, ↓branch_true, ↓branch_false, Nat.reduceBEq, Nat.reduceAdd, Nat.reduceMul, Nat.reduceSub, Int.reduceToNat, reduceCtorEq, Int.reduceAdd, Int.reduceEq, Int.reduceLE, Int.reduceLT, Nat.reduceLT, Nat.reduceLeDiff]
  · simp only [push_cast, ↓branch_true, ↓branch_false, Nat.reduceBEq, Nat.reduceAdd, Nat.reduceMul, Nat.reduceSub, Int.reduceToNat, reduceCtorEq, Int.reduceAdd, Int.reduceEq, Int.reduceLE, Int.reduceLT, Nat.reduceLT, Nat.reduceLeDiff]
  rintro _ _ ⟨cc, hcc, rfl, rfl⟩
  simp only [push_cast, ↓branch_true, ↓branch_false, Nat.reduceBEq, Nat.reduceAdd, Nat.reduceMul, Nat.reduceSub, Int.reduceToNat, reduceCtorEq, Int.reduceAdd, Int.reduceEq, Int.reduceLE, Int.reduceLT, Nat.reduceLT, Nat.reduceLeDiff]
  refine sp_at (reverse_sp p.n cc p.co (by omega) hcc) [9] (by kernel_rfl) ?_ ?_ ?_
  · simp only [push_cast, ↓branch_true, ↓branch_false, Nat.reduceBEq, Nat.reduceAdd, Nat.reduceMul, Nat.reduceSub, Int.reduceToNat, reduceCtorEq, Int.reduceAdd, Int.reduceEq, Int.reduceLE, Int.reduceLT, Nat.reduceLT, Nat.reduceLeDiff]
  · simp only [push_cast, ↓branch_true, ↓branch_false, Nat.reduceBEq, Nat.reduceAdd, Nat.reduceMul, Nat.reduceSub, Int.reduceToNat, reduceCtorEq, Int.reduceAdd, Int.reduceEq, Int.reduceLE, Int.reduceLT, Nat.reduceLT, Nat.reduceLeDiff]
  rintro _ _ ⟨rfl, rfl⟩
  simp only [push_cast, ↓branch_true, ↓branch_false, Nat.reduceBEq, Nat.reduceAdd, Nat.reduceMul, Nat.reduceSub, Int.reduceToNat, reduceCtorEq, Int.reduceAdd, Int.reduceEq, Int.reduceLE, Int.reduceLT, Nat.reduceLT, Nat.reduceLeDiff]
  refine tr_loop mixed (by kernel_rfl) (fun (x : Nat × Nat × (Nat → Nat)) => [(43, .v (.int .i64 x.1)), (42, .v (.int .i64 p.m)), (41, .s 1 0 0 p.m p.mc 3), (7, .p 10 0 0), (6, .v (.int .i64 e)), (5, .p 8 0 0), (3, .p 5 0 0), (2, .p 4 0 0)])
    (fun x => [rI p.n p.nc p.co, rRw p, rAf p, rI rl rc rf, bP p, bR rl rc rk rb, oFr xl xc X d1, oFr yl yc Y d2, oAn N D (.s 6 0 0 xl xc 2) (.s 7 0 0 yl yc 2), oI p.n cc (fun k => p.co (p.n - 1 - k)), bT p.n cc x.1 x.2.1, oRT p x.1 x.2.1 x.2.2, oFT p x.1 x.2.2])
    (fun x => x.1 ≤ p.m ∧ x.1 ≤ x.2.1) (fun x => p.m - x.1) (0, 0, fun _ => 0) ⟨Nat.zero_le _, Nat.le_refl _⟩ (Mt.wk (rl := [0, 1, 2, 3, 4, 5, 6, 7, 8, 9, 10, 1001, 1002]) ⟨by kernel_rfl, ?_, ?_⟩) ?_
  · simp only [push_cast, ↓branch_true, ↓branch_false, Nat.reduceBEq, Nat.reduceAdd, Nat.reduceMul, Nat.reduceSub, Int.reduceToNat, reduceCtorEq, Int.reduceAdd, Int.reduceEq, Int.reduceLE, Int.reduceLT, Nat.reduceLT, Nat.reduceLeDiff]
  · simp only [push_cast, ↓branch_true, ↓branch_false, Nat.reduceBEq, Nat.reduceAdd, Nat.reduceMul, Nat.reduceSub, Int.reduceToNat, reduceCtorEq, Int.reduceAdd, Int.reduceEq, Int.reduceLE, Int.reduceLT, Nat.reduceLT, Nat.reduceLeDiff]
    refine Or.inr fun s => ?_
    have : (decide (p.m ≤ s) && decide (s < p.m)) = false := by
      by_cases hs : s < p.m
      · rw [decide_eq_false (show ¬ p.m ≤ s by omega)]; rfl
      · rw [decide_eq_false hs, Bool.and_false]
    rw [this]
    rfl
  rintro ⟨i, oc, cps⟩ ⟨q1, q2⟩
  simp only at q1 q2
  simp only [push_cast, ↓branch_true, ↓branch_false, Nat.reduceBEq, Nat.reduceAdd, Nat.reduceMul, Nat.reduceSub, Int.reduceToNat, reduceCtorEq, Int.reduceAdd, Int.reduceEq, Int.reduceLE, Int.reduceLT, Nat.reduceLT, Nat.reduceLeDiff]
  refine ⟨fun h => ?_, fun h => ?_⟩
  · repeat (with_reducible refine And.intro (by omega) ?_)
    have hi : i < p.m := by omega
    refine sp_at (cloneF_sp p i hi (by have := f3 i hi; omega) (hlc i hi)) [2] (by kernel_rfl) ?_ ?_ ?_
    · simp only [push_cast, ↓branch_true, ↓branch_false, Nat.reduceBEq, Nat.reduceAdd, Nat.reduceMul, Nat.reduceSub, Int.reduceToNat, reduceCtorEq, Int.reduceAdd, Int.reduceEq, Int.reduceLE, Int.reduceLT, Nat.reduceLT, Nat.reduceLeDiff]
    · simp only [push_cast, ↓branch_true, ↓branch_false, Nat.reduceBEq, Nat.reduceAdd, Nat.reduceMul, Nat.reduceSub, Int.reduceToNat, reduceCtorEq, Int.reduceAdd, Int.reduceEq, Int.reduceLE, Int.reduceLT, Nat.reduceLT, Nat.reduceLeDiff]
    rintro _ _ ⟨cap, hcap, rfl, rfl⟩
    simp only [push_cast, ↓branch_true, ↓branch_false, Nat.reduceBEq, Nat.reduceAdd, Nat.reduceMul, Nat.reduceSub, Int.reduceToNat, reduceCtorEq, Int.reduceAdd, Int.reduceEq, Int.reduceLE, Int.reduceLT, Nat.reduceLT, Nat.reduceLeDiff]
    refine sp_at (reverse_sp (p.ln i) cap (p.a i) (by have := f3 i hi; omega) hcap) [14] (by kernel_rfl) ?_ ?_ ?_
    · simp only [push_cast, ↓branch_true, ↓branch_false, Nat.reduceBEq, Nat.reduceAdd, Nat.reduceMul, Nat.reduceSub, Int.reduceToNat, reduceCtorEq, Int.reduceAdd, Int.reduceEq, Int.reduceLE, Int.reduceLT, Nat.reduceLT, Nat.reduceLeDiff]
    · simp only [push_cast, ↓branch_true, ↓branch_false, Nat.reduceBEq, Nat.reduceAdd, Nat.reduceMul, Nat.reduceSub, Int.reduceToNat, reduceCtorEq, Int.reduceAdd, Int.reduceEq, Int.reduceLE, Int.reduceLT, Nat.reduceLT, Nat.reduceLeDiff]
    rintro _ _ ⟨rfl, rfl⟩
    simp only [push_cast, ↓branch_true, ↓branch_false, Nat.reduceBEq, Nat.reduceAdd, Nat.reduceMul, Nat.reduceSub, Int.reduceToNat, reduceCtorEq, Int.reduceAdd, Int.reduceEq, Int.reduceLE, Int.reduceLT, Nat.reduceLT, Nat.reduceLeDiff]
    refine ⟨?_, appZ_of (fun h0 => ?_) fun h0 => ?_⟩
    · unfold srcOk
      split <;> simp [lenP, lenIs, ones, one1]
    · subst h0
      repeat (with_reducible refine And.intro (by omega) ?_)
      refine lpK_wk (1, 1, fun s => bif s == p.m - 1 then cap else cps s) ⟨by simp only; omega, by simp only; omega⟩ (by simp only; omega) ((swk_place 12 (p.m - 1) 14 (by omega) (by omega) (by omega) ?_).trans (Mt.wk (rl := [0, 1, 2, 3, 4, 5, 6, 7, 8, 9, 10, 15, 12]) ⟨by kernel_rfl, ?_, ?_⟩))
      · simp only [push_cast, ↓branch_true, ↓branch_false, Nat.reduceBEq, Nat.reduceAdd, Nat.reduceMul, Nat.reduceSub, Int.reduceToNat, reduceCtorEq, Int.reduceAdd, Int.reduceEq, Int.reduceLE, Int.reduceLT, Nat.reduceLT, Nat.reduceLeDiff]
        omega
      · simp only [push_cast, ↓branch_true, ↓branch_false, Nat.reduceBEq, Nat.reduceAdd, Nat.reduceMul, Nat.reduceSub, Int.reduceToNat, reduceCtorEq, Int.reduceAdd, Int.reduceEq, Int.reduceLE, Int.reduceLT, Nat.reduceLT, Nat.reduceLeDiff]
      · simp only [push_cast, ↓branch_true, ↓branch_false, Nat.reduceBEq, Nat.reduceAdd, Nat.reduceMul, Nat.reduceSub, Int.reduceToNat, reduceCtorEq, Int.reduceAdd, Int.reduceEq, Int.reduceLE, Int.reduceLT, Nat.reduceLT, Nat.reduceLeDiff]
        refine ⟨fun _ _ k hk => ?_, fun s _ => ⟨fam_len p.m 0 s p.ln (by omega), fun k _ => fam_cell p.m 0 s k 12 14 p.a p.ln (by omega)⟩⟩
        obtain rfl : k = 0 := by omega
        have e1 : (p.m - 1 == p.m - 1) = true := by simp
        simp only [push_cast, ↓branch_true, ↓branch_false, Nat.reduceBEq, Nat.reduceAdd, Nat.reduceMul, Nat.reduceSub, Int.reduceToNat, reduceCtorEq, Int.reduceAdd, Int.reduceEq, Int.reduceLE, Int.reduceLT, Nat.reduceLT, Nat.reduceLeDiff, e1]
    · refine Or.inr ⟨by omega, by omega, by omega, fun oc2 hoc2 => ?_⟩
      repeat (with_reducible refine And.intro (by omega) ?_)
      refine lpK_wk (i + 1, oc2, fun s => bif s == p.m - 1 - i then cap else cps s) ⟨by simp only; omega, by simp only; omega⟩ (by simp only; omega) ((swk_place 12 (p.m - 1 - i) 14 (by omega) (by omega) (by omega) ?_).trans (Mt.wk (rl := [0, 1, 2, 3, 4, 5, 6, 7, 8, 9, 10, 16, 12]) ⟨by kernel_rfl, ?_, ?_⟩))
      · simp only [push_cast, ↓branch_true, ↓branch_false, Nat.reduceBEq, Nat.reduceAdd, Nat.reduceMul, Nat.reduceSub, Int.reduceToNat, reduceCtorEq, Int.reduceAdd, Int.reduceEq, Int.reduceLE, Int.reduceLT, Nat.reduceLT, Nat.reduceLeDiff]
        omega
      · simp only [push_cast, ↓branch_true, ↓branch_false, Nat.reduceBEq, Nat.reduceAdd, Nat.reduceMul, Nat.reduceSub, Int.reduceToNat, reduceCtorEq, Int.reduceAdd, Int.reduceEq, Int.reduceLE, Int.reduceLT, Nat.reduceLT, Nat.reduceLeDiff]
      · simp only [push_cast, ↓branch_true, ↓branch_false, Nat.reduceBEq, Nat.reduceAdd, Nat.reduceMul, Nat.reduceSub, Int.reduceToNat, reduceCtorEq, Int.reduceAdd, Int.reduceEq, Int.reduceLE, Int.reduceLT, Nat.reduceLT, Nat.reduceLeDiff]
        refine ⟨by omega, fun _ _ => ⟨by omega, fun k hk => ?_⟩, fun s _ => ⟨fam_len p.m i s p.ln (by omega), fun k _ => fam_cell p.m i s k 12 14 p.a p.ln (by omega)⟩⟩
        cases k with
        | zero =>
          rw [appF_val (sz := 3) (fun _ _ => rfl) (by omega) (by omega) (fun _ => rfl), if_pos (by omega)]
          have e1 : (p.m - (i + 1) == p.m - 1 - i) = true := by simp; omega
          have e2 : p.m - (i + 1) = p.m - 1 - i := by omega
          simp only [push_cast, ↓branch_true, ↓branch_false, Nat.reduceBEq, Nat.reduceAdd, Nat.reduceMul, Nat.reduceSub, Int.reduceToNat, reduceCtorEq, Int.reduceAdd, Int.reduceEq, Int.reduceLE, Int.reduceLT, Nat.reduceLT, Nat.reduceLeDiff, e1, e2, rowF]
          exact ⟨rfl, rfl, rfl⟩
        | succ k =>
          rw [appF_val (sz := 3) (fun _ _ => rfl) (by omega) (by omega) (fun h => by omega), if_neg (by omega)]
          have e3 : (p.m - i + k == p.m - 1 - i) = false := by simp; omega
          have e1 : (p.m - (i + 1) + (k + 1) == p.m - 1 - i) = false := by simp; omega
          have e2 : p.m - (i + 1) + (k + 1) = p.m - i + k := by omega
          simp only [push_cast, ↓branch_true, ↓branch_false, Nat.reduceBEq, Nat.reduceAdd, Nat.reduceMul, Nat.reduceSub, Int.reduceToNat, reduceCtorEq, Int.reduceAdd, Int.reduceEq, Int.reduceLE, Int.reduceLT, Nat.reduceLT, Nat.reduceLeDiff, e1, e2, e3, Nat.add_sub_cancel]
          rw [show i - (k + 1) = i - 1 - k by omega]
          exact ⟨by (simp only [push_cast, ↓branch_true, ↓branch_false, Nat.reduceBEq, Nat.reduceAdd, Nat.reduceMul, Nat.reduceSub, Int.reduceToNat, reduceCtorEq, Int.reduceAdd, Int.reduceEq, Int.reduceLE, Int.reduceLT, Nat.reduceLT, Nat.reduceLeDiff]), rfl, rfl⟩
  · obtain rfl : i = p.m := by omega
    have hrv := rv_of p cc oc cps (by omega)
    have hinr : vPm (revQ p cc oc cps (by omega)) = true → PmOk (revQ p cc oc cps (by omega)) := pmok_of hcc q2
    have hlr : ∀ t, t < p.m → (revQ p cc oc cps (by omega)).ln t ≤ 1000000 := fun t ht => by
      rw [hrv.ln t ht]
      have := f3 (p.m - 1 - t) (by omega)
      omega
    refine sp_at (solveS_sp (revQ p cc oc cps (by omega)) hinr hlr (by show p.n ≤ _; omega) (by show p.m ≤ _; omega)) [9, 11, 12] (by kernel_rfl) ?_ ?_ ?_
    · simp only [push_cast, ↓branch_true, ↓branch_false, Nat.reduceBEq, Nat.reduceAdd, Nat.reduceMul, Nat.reduceSub, Int.reduceToNat, reduceCtorEq, Int.reduceAdd, Int.reduceEq, Int.reduceLE, Int.reduceLT, Nat.reduceLT, Nat.reduceLeDiff]
      exact ⟨⟨rfl, rfl⟩, rfl, rfl⟩
    · simp only [push_cast, ↓branch_true, ↓branch_false, Nat.reduceBEq, Nat.reduceAdd, Nat.reduceMul, Nat.reduceSub, Int.reduceToNat, reduceCtorEq, Int.reduceAdd, Int.reduceEq, Int.reduceLE, Int.reduceLT, Nat.reduceLT, Nat.reduceLeDiff]
      refine ⟨fun _ _ => ⟨Nat.le_refl _, fun _ _ => rfl⟩, fun _ _ => ⟨Nat.le_refl _, fun k hk => ⟨⟨hrv.ln k hk, ?_, ?_⟩, rfl, rfl⟩⟩, rfl, fun s hs => ⟨?_, fun k hk => rfl⟩⟩
      · show cps k = cps (p.m - p.m + k)
        congr 1
        omega
      · right; omega
      · by_cases e1 : s < p.m
        · rw [hrv.ln s e1, decide_eq_true e1, decide_eq_true (show p.m ≤ s + p.m by omega)]
          exact Nat.le_refl _
        · show (bif decide (s < p.m) then _ else 0) ≤ _
          rw [decide_eq_false e1]
          exact Nat.zero_le _
    rintro _ _ ⟨e', N', D', xl', xc', yl', yc', d1', d2', X', Y', hO', rfl, rfl⟩
    obtain ⟨rfl, rfl, rfl⟩ := out_rv hrv hin hinr hO hO'
    have hcl := cloneR_sp p (by omega) hmc
    simp only [push_cast, ↓branch_true, ↓branch_false, Nat.reduceBEq, Nat.reduceAdd, Nat.reduceMul, Nat.reduceSub, Int.reduceToNat, reduceCtorEq, Int.reduceAdd, Int.reduceEq, Int.reduceLE, Int.reduceLT, Nat.reduceLT, Nat.reduceLeDiff]
    refine ⟨agg27 _ _ _ _, Nat, fun cap => [(12, .p 7 0 0), (6, .v (.int .i64 e')), (5, .p 4 0 0)], fun cap => [rI p.n p.nc p.co, rRw p, rAf p, rI rl rc rf, oAn N' D' (.s 5 0 0 xl xc 2) (.s 6 0 0 yl yc 2), oFr xl xc X d1, oFr yl yc Y d2, ⟨25, false, .st [.s 0 0 0 p.n p.nc 1, .s 8 0 0 (p.m + 1) cap 3]⟩, ⟨45, false, .row 3 1 (fun _ => p.m + 1) (fun _ => cap) (fun _ t => bif decide (t < p.m) then [.s 2 t 0 (p.ln t) (p.cp t) 1, .v (.int .i64 (p.kd t)), .v (.int .i64 (p.b t))] else [.s 3 0 0 rl rc 1, .v (.int .i64 rk), .v (.int .i64 rb)])⟩], fun cap => p.m + 1 ≤ cap, ⟨?_, ?_⟩, ?_⟩
    · simp only [push_cast, ↓branch_true, ↓branch_false, Nat.reduceBEq, Nat.reduceAdd, Nat.reduceMul, Nat.reduceSub, Int.reduceToNat, reduceCtorEq, Int.reduceAdd, Int.reduceEq, Int.reduceLE, Int.reduceLT, Nat.reduceLT, Nat.reduceLeDiff]
      refine sp_at hcl [1, 2] (by kernel_rfl) ?_ ?_ ?_
      · simp only [push_cast, ↓branch_true, ↓branch_false, Nat.reduceBEq, Nat.reduceAdd, Nat.reduceMul, Nat.reduceSub, Int.reduceToNat, reduceCtorEq, Int.reduceAdd, Int.reduceEq, Int.reduceLE, Int.reduceLT, Nat.reduceLT, Nat.reduceLeDiff]
      · simp only [push_cast, ↓branch_true, ↓branch_false, Nat.reduceBEq, Nat.reduceAdd, Nat.reduceMul, Nat.reduceSub, Int.reduceToNat, reduceCtorEq, Int.reduceAdd, Int.reduceEq, Int.reduceLE, Int.reduceLT, Nat.reduceLT, Nat.reduceLeDiff]
      rintro _ _ ⟨ccap, hccap, rfl, rfl⟩
      simp only [push_cast, ↓branch_true, ↓branch_false, Nat.reduceBEq, Nat.reduceAdd, Nat.reduceMul, Nat.reduceSub, Int.reduceToNat, reduceCtorEq, Int.reduceAdd, Int.reduceEq, Int.reduceLE, Int.reduceLT, Nat.reduceLT, Nat.reduceLeDiff]
      refine Or.inr ⟨by omega, by omega, fun cap2 hcap2 => ⟨cap2, hcap2, Mt.wk (rl := [0, 1, 2, 3, 8, 6, 7, 16, 19]) ⟨by kernel_rfl, ?_, ?_⟩⟩⟩
      · simp only [push_cast, ↓branch_true, ↓branch_false, Nat.reduceBEq, Nat.reduceAdd, Nat.reduceMul, Nat.reduceSub, Int.reduceToNat, reduceCtorEq, Int.reduceAdd, Int.reduceEq, Int.reduceLE, Int.reduceLT, Nat.reduceLT, Nat.reduceLeDiff]
        try trivial
      · simp only [push_cast, ↓branch_true, ↓branch_false, Nat.reduceBEq, Nat.reduceAdd, Nat.reduceMul, Nat.reduceSub, Int.reduceToNat, reduceCtorEq, Int.reduceAdd, Int.reduceEq, Int.reduceLE, Int.reduceLT, Nat.reduceLT, Nat.reduceLeDiff]
        intro _ _ k _
        cases decide (k < p.m)
        · simp only [push_cast, ↓branch_true, ↓branch_false, Nat.reduceBEq, Nat.reduceAdd, Nat.reduceMul, Nat.reduceSub, Int.reduceToNat, reduceCtorEq, Int.reduceAdd, Int.reduceEq, Int.reduceLE, Int.reduceLT, Nat.reduceLT, Nat.reduceLeDiff]
        · simp only [push_cast, ↓branch_true, ↓branch_false, Nat.reduceBEq, Nat.reduceAdd, Nat.reduceMul, Nat.reduceSub, Int.reduceToNat, reduceCtorEq, Int.reduceAdd, Int.reduceEq, Int.reduceLE, Int.reduceLT, Nat.reduceLT, Nat.reduceLeDiff]
    · refine sp_at hcl [1, 2] (by kernel_rfl) ?_ ?_ ?_
      · simp only [push_cast, ↓branch_true, ↓branch_false, Nat.reduceBEq, Nat.reduceAdd, Nat.reduceMul, Nat.reduceSub, Int.reduceToNat, reduceCtorEq, Int.reduceAdd, Int.reduceEq, Int.reduceLE, Int.reduceLT, Nat.reduceLT, Nat.reduceLeDiff]
      · simp only [push_cast, ↓branch_true, ↓branch_false, Nat.reduceBEq, Nat.reduceAdd, Nat.reduceMul, Nat.reduceSub, Int.reduceToNat, reduceCtorEq, Int.reduceAdd, Int.reduceEq, Int.reduceLE, Int.reduceLT, Nat.reduceLT, Nat.reduceLeDiff]
      rintro _ _ ⟨ccap, hccap, rfl, rfl⟩
      simp only [push_cast, ↓branch_true, ↓branch_false, Nat.reduceBEq, Nat.reduceAdd, Nat.reduceMul, Nat.reduceSub, Int.reduceToNat, reduceCtorEq, Int.reduceAdd, Int.reduceEq, Int.reduceLE, Int.reduceLT, Nat.reduceLT, Nat.reduceLeDiff]
      refine Or.inr ⟨by omega, by omega, fun cap2 hcap2 => ⟨cap2, hcap2, Mt.wk (rl := [0, 1, 2, 3, 8, 6, 7, 16, 19]) ⟨by kernel_rfl, ?_, ?_⟩⟩⟩
      · simp only [push_cast, ↓branch_true, ↓branch_false, Nat.reduceBEq, Nat.reduceAdd, Nat.reduceMul, Nat.reduceSub, Int.reduceToNat, reduceCtorEq, Int.reduceAdd, Int.reduceEq, Int.reduceLE, Int.reduceLT, Nat.reduceLT, Nat.reduceLeDiff]
        try trivial
      · simp only [push_cast, ↓branch_true, ↓branch_false, Nat.reduceBEq, Nat.reduceAdd, Nat.reduceMul, Nat.reduceSub, Int.reduceToNat, reduceCtorEq, Int.reduceAdd, Int.reduceEq, Int.reduceLE, Int.reduceLT, Nat.reduceLT, Nat.reduceLeDiff]
        intro _ _ k _
        cases decide (k < p.m)
        · simp only [push_cast, ↓branch_true, ↓branch_false, Nat.reduceBEq, Nat.reduceAdd, Nat.reduceMul, Nat.reduceSub, Int.reduceToNat, reduceCtorEq, Int.reduceAdd, Int.reduceEq, Int.reduceLE, Int.reduceLT, Nat.reduceLT, Nat.reduceLeDiff]
        · simp only [push_cast, ↓branch_true, ↓branch_false, Nat.reduceBEq, Nat.reduceAdd, Nat.reduceMul, Nat.reduceSub, Int.reduceToNat, reduceCtorEq, Int.reduceAdd, Int.reduceEq, Int.reduceLE, Int.reduceLT, Nat.reduceLT, Nat.reduceLeDiff]
    · intro cap hcap
      have hcap : p.m + 1 ≤ cap := hcap
      have hmr := mr_of p cap rl rc rf rk rb
      have hiq : vPm (morQ p cap rl rc rf rk rb) = true → PmOk (morQ p cap rl rc rf rk rb) := pmok_of hnc hcap
      simp only [jnK]
      simp only [push_cast, ↓branch_true, ↓branch_false, Nat.reduceBEq, Nat.reduceAdd, Nat.reduceMul, Nat.reduceSub, Int.reduceToNat, reduceCtorEq, Int.reduceAdd, Int.reduceEq, Int.reduceLE, Int.reduceLT, Nat.reduceLT, Nat.reduceLeDiff]
      refine sp_at (solveQ_sp p cap rl rc rf rk rb hnc hcap (fun t ht => by have := f3 t ht; omega) (by omega) (by omega) (by omega)) [0, 8, 2, 3] (by kernel_rfl) ?_ ?_ ?_
      · simp only [push_cast, ↓branch_true, ↓branch_false, Nat.reduceBEq, Nat.reduceAdd, Nat.reduceMul, Nat.reduceSub, Int.reduceToNat, reduceCtorEq, Int.reduceAdd, Int.reduceEq, Int.reduceLE, Int.reduceLT, Nat.reduceLT, Nat.reduceLeDiff]
      · simp only [push_cast, ↓branch_true, ↓branch_false, Nat.reduceBEq, Nat.reduceAdd, Nat.reduceMul, Nat.reduceSub, Int.reduceToNat, reduceCtorEq, Int.reduceAdd, Int.reduceEq, Int.reduceLE, Int.reduceLT, Nat.reduceLT, Nat.reduceLeDiff]
        intro _ _ k _
        cases decide (k < p.m)
        · simp only [push_cast, ↓branch_true, ↓branch_false, Nat.reduceBEq, Nat.reduceAdd, Nat.reduceMul, Nat.reduceSub, Int.reduceToNat, reduceCtorEq, Int.reduceAdd, Int.reduceEq, Int.reduceLE, Int.reduceLT, Nat.reduceLT, Nat.reduceLeDiff]
        · simp only [push_cast, ↓branch_true, ↓branch_false, Nat.reduceBEq, Nat.reduceAdd, Nat.reduceMul, Nat.reduceSub, Int.reduceToNat, reduceCtorEq, Int.reduceAdd, Int.reduceEq, Int.reduceLE, Int.reduceLT, Nat.reduceLT, Nat.reduceLeDiff]
      intro r3 H3 hJ
      cases hJ with
      | bad e3 hO3 he3 =>
        rcases he3 with rfl | rfl
        · simp only [push_cast, ↓branch_true, ↓branch_false, Nat.reduceBEq, Nat.reduceAdd, Nat.reduceMul, Nat.reduceSub, Int.reduceToNat, reduceCtorEq, Int.reduceAdd, Int.reduceEq, Int.reduceLE, Int.reduceLT, Nat.reduceLT, Nat.reduceLeDiff]
          refine sp_c emptyZ_pu rfl [] ?_
          simp only [push_cast, ↓branch_true, ↓branch_false, Nat.reduceBEq, Nat.reduceAdd, Nat.reduceMul, Nat.reduceSub, Int.reduceToNat, reduceCtorEq, Int.reduceAdd, Int.reduceEq, Int.reduceLE, Int.reduceLT, Nat.reduceLT, Nat.reduceLeDiff]
          try rfl
        · simp only [push_cast, ↓branch_true, ↓branch_false, Nat.reduceBEq, Nat.reduceAdd, Nat.reduceMul, Nat.reduceSub, Int.reduceToNat, reduceCtorEq, Int.reduceAdd, Int.reduceEq, Int.reduceLE, Int.reduceLT, Nat.reduceLT, Nat.reduceLeDiff]
          refine sp_c emptyZ_pu rfl [] ?_
          simp only [push_cast, ↓branch_true, ↓branch_false, Nat.reduceBEq, Nat.reduceAdd, Nat.reduceMul, Nat.reduceSub, Int.reduceToNat, reduceCtorEq, Int.reduceAdd, Int.reduceEq, Int.reduceLE, Int.reduceLT, Nat.reduceLT, Nat.reduceLeDiff]
          try rfl
      | ok e3 N3 D3 xl3 xc3 yl3 yc3 d31 d32 X3 Y3 hO3 he3 =>
        rcases out_more hmr hin hiq hO hO3 with rfl | rfl | ⟨rfl, rfl⟩ | ⟨rfl, rfl⟩ | ⟨rfl, rfl | rfl | rfl⟩ | ⟨rfl, rfl⟩
        · exact absurd (.inl rfl) he3
        · exact absurd (.inr rfl) he3
        · simp only [push_cast, ↓branch_true, ↓branch_false, Nat.reduceBEq, Nat.reduceAdd, Nat.reduceMul, Nat.reduceSub, Int.reduceToNat, reduceCtorEq, Int.reduceAdd, Int.reduceEq, Int.reduceLE, Int.reduceLT, Nat.reduceLT, Nat.reduceLeDiff]
          try rfl
        · simp only [push_cast, ↓branch_true, ↓branch_false, Nat.reduceBEq, Nat.reduceAdd, Nat.reduceMul, Nat.reduceSub, Int.reduceToNat, reduceCtorEq, Int.reduceAdd, Int.reduceEq, Int.reduceLE, Int.reduceLT, Nat.reduceLT, Nat.reduceLeDiff]
          try rfl
        · simp only [push_cast, ↓branch_true, ↓branch_false, Nat.reduceBEq, Nat.reduceAdd, Nat.reduceMul, Nat.reduceSub, Int.reduceToNat, reduceCtorEq, Int.reduceAdd, Int.reduceEq, Int.reduceLE, Int.reduceLT, Nat.reduceLT, Nat.reduceLeDiff]
          try rfl
        · simp only [push_cast, ↓branch_true, ↓branch_false, Nat.reduceBEq, Nat.reduceAdd, Nat.reduceMul, Nat.reduceSub, Int.reduceToNat, reduceCtorEq, Int.reduceAdd, Int.reduceEq, Int.reduceLE, Int.reduceLT, Nat.reduceLT, Nat.reduceLeDiff]
          try rfl
        · simp only [push_cast, ↓branch_true, ↓branch_false, Nat.reduceBEq, Nat.reduceAdd, Nat.reduceMul, Nat.reduceSub, Int.reduceToNat, reduceCtorEq, Int.reduceAdd, Int.reduceEq, Int.reduceLE, Int.reduceLT, Nat.reduceLT, Nat.reduceLeDiff]
          try rfl
        · obtain ⟨s, v1, v2, v3, rfl, rfl⟩ := out_zero hO rfl
          obtain ⟨s3, w1, w2, w3, rfl, rfl⟩ := out_zero hO3 rfl
          have hp := hin v1
          have hq := hiq w1
          have hcm := fcmp_pu (last_frc hp (fit_of v2) v3) (last_frc hq (fit_of w2) w3)
          have hmo := more_ok hmr hp hq v3 w3
          have hle : cmpS (rn (valP p s) s.d.toNat * (rd (valP (morQ p cap rl rc rf rk rb) s3) s3.d.toNat : Nat)) (rn (valP (morQ p cap rl rc rf rk rb) s3) s3.d.toNat * (rd (valP p s) s.d.toNat : Nat)) ≤ 0 := by
            unfold cmpS
            split
            · decide
            · split
              · decide
              · omega
          generalize cmpS (rn (valP p s) s.d.toNat * (rd (valP (morQ p cap rl rc rf rk rb) s3) s3.d.toNat : Nat)) (rn (valP (morQ p cap rl rc rf rk rb) s3) s3.d.toNat * (rd (valP p s) s.d.toNat : Nat)) = c at *
          simp only [push_cast, ↓branch_true, ↓branch_false, Nat.reduceBEq, Nat.reduceAdd, Nat.reduceMul, Nat.reduceSub, Int.reduceToNat, reduceCtorEq, Int.reduceAdd, Int.reduceEq, Int.reduceLE, Int.reduceLT, Nat.reduceLT, Nat.reduceLeDiff]
          refine sp_c hcm rfl [] ?_
          simp only [push_cast, ↓branch_true, ↓branch_false, Nat.reduceBEq, Nat.reduceAdd, Nat.reduceMul, Nat.reduceSub, Int.reduceToNat, reduceCtorEq, Int.reduceAdd, Int.reduceEq, Int.reduceLE, Int.reduceLT, Nat.reduceLT, Nat.reduceLeDiff]
          exact vb (decide_eq_true hle)
end Go.Proofs.Ytmefgachdnlaoaa
