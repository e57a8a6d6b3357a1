/- The law's words: clones of rows, a program turned round, a program with a further row. -/
import Derived.Test.YtmefgachdnlaoaaMD
import Derived.Test.YtmefgachdnlaoaaMA
import Derived.Test.YtmefgachdnlaoaaW
import Derived.Test.YtmefgachdnlaoaaOD
set_option maxRecDepth 100000
set_option linter.unusedSimpArgs false
set_option linter.unusedVariables false
namespace Go.Proofs.Ytmefgachdnlaoaa
open Go.RowKit Lp
theorem emptyZ_pu : Pu Try.prog 25 [.a [.v (.int .i64 0), .v (.int .i64 0), .v (.slice none 0 0), .v (.slice none 0 0)]] [] (.v (.bool true)) := by
  refine pu_of_ex true [] mixed Try.call25 Try.func25 rfl Try.ntmps25 Try.results25 (by decide +kernel) rfl rfl rfl ?_
  simp only [push_cast, ↓branch_true, ↓branch_false, Nat.reduceBEq, Nat.reduceAdd, Nat.reduceMul, Nat.reduceSub, Int.reduceToNat, reduceCtorEq, Int.reduceAdd, Int.reduceEq, Int.reduceLE, Int.reduceLT, Nat.reduceLT, Nat.reduceLeDiff]
  exact agg27 _ _ _ _
set_option maxHeartbeats 1000000 in
theorem cloneF_sp (p : Pm) (t : Nat) (ht : t < p.m) (hl : p.ln t ≤ 1000000) (hc : p.ln t ≤ p.cp t) : Sp Try.prog 22 [.s 0 t 0 (p.ln t) (p.cp t) 1] [rAf p] (fun r H => ∃ cap, p.ln t ≤ cap ∧ r = .s 1 0 0 (p.ln t) cap 1 ∧ H = [rAf p, oI (p.ln t) cap (p.a t)]) := by
  have hfz := p.fzm
  refine sp_weak ?_
  refine sp_of_ex true [] mixed Try.call22 Try.func22 rfl Try.ntmps22 Try.results22 (by decide +kernel) rfl ?_
  simp only [push_cast, ↓branch_true, ↓branch_false, Nat.reduceBEq, Nat.reduceAdd, Nat.reduceMul, Nat.reduceSub, Int.reduceToNat, reduceCtorEq, Int.reduceAdd, Int.reduceEq, Int.reduceLE, Int.reduceLT, Nat.reduceLT, Nat.reduceLeDiff]
  intro b hb
  cases b with
  | true =>
    have h0 : p.ln t = 0 := by
      rcases Nat.eq_zero_or_pos (p.cp t) with h | h
      · omega
      · cases hb h
    simp only [push_cast, ↓branch_true, ↓branch_false, Nat.reduceBEq, Nat.reduceAdd, Nat.reduceMul, Nat.reduceSub, Int.reduceToNat, reduceCtorEq, Int.reduceAdd, Int.reduceEq, Int.reduceLE, Int.reduceLT, Nat.reduceLT, Nat.reduceLeDiff]
    refine ⟨_, _, [0, 1000], ?_, by kernel_rfl, ?_, 0, by omega, rfl, rfl⟩
    · simp only [push_cast, ↓branch_true, ↓branch_false, Nat.reduceBEq, Nat.reduceAdd, Nat.reduceMul, Nat.reduceSub, Int.reduceToNat, reduceCtorEq, Int.reduceAdd, Int.reduceEq, Int.reduceLE, Int.reduceLT, Nat.reduceLT, Nat.reduceLeDiff]
      exact h0
    · simp only [push_cast, ↓branch_true, ↓branch_false, Nat.reduceBEq, Nat.reduceAdd, Nat.reduceMul, Nat.reduceSub, Int.reduceToNat, reduceCtorEq, Int.reduceAdd, Int.reduceEq, Int.reduceLE, Int.reduceLT, Nat.reduceLT, Nat.reduceLeDiff]
      omega
  | false =>
    simp only [push_cast, ↓branch_true, ↓branch_false, Nat.reduceBEq, Nat.reduceAdd, Nat.reduceMul, Nat.reduceSub, Int.reduceToNat, reduceCtorEq, Int.reduceAdd, Int.reduceEq, Int.reduceLE, Int.reduceLT, Nat.reduceLT, Nat.reduceLeDiff]
    repeat (with_reducible refine And.intro (by omega) ?_)
    refine ⟨?_, appZ_of (fun h => ?_) fun _ => .inl ⟨by omega, by omega, fun cap hcap => ?_⟩⟩
    · unfold srcOk
      split <;> simp [lenP, lenIs, ones, one1]
    · refine ⟨_, _, [0, 1], ?_, by kernel_rfl, ?_, 0, by omega, rfl, rfl⟩
      · simp only [push_cast, ↓branch_true, ↓branch_false, Nat.reduceBEq, Nat.reduceAdd, Nat.reduceMul, Nat.reduceSub, Int.reduceToNat, reduceCtorEq, Int.reduceAdd, Int.reduceEq, Int.reduceLE, Int.reduceLT, Nat.reduceLT, Nat.reduceLeDiff]
        exact h
      · simp only [push_cast, ↓branch_true, ↓branch_false, Nat.reduceBEq, Nat.reduceAdd, Nat.reduceMul, Nat.reduceSub, Int.reduceToNat, reduceCtorEq, Int.reduceAdd, Int.reduceEq, Int.reduceLE, Int.reduceLT, Nat.reduceLT, Nat.reduceLeDiff]
        exact fun _ _ => ⟨by omega, fun k hk => by omega⟩
    · refine ⟨_, _, [0, 2], ?_, by kernel_rfl, ?_, cap, by omega, rfl, rfl⟩
      · simp only [push_cast, ↓branch_true, ↓branch_false, Nat.reduceBEq, Nat.reduceAdd, Nat.reduceMul, Nat.reduceSub, Int.reduceToNat, reduceCtorEq, Int.reduceAdd, Int.reduceEq, Int.reduceLE, Int.reduceLT, Nat.reduceLT, Nat.reduceLeDiff]
      · simp only [push_cast, ↓branch_true, ↓branch_false, Nat.reduceBEq, Nat.reduceAdd, Nat.reduceMul, Nat.reduceSub, Int.reduceToNat, reduceCtorEq, Int.reduceAdd, Int.reduceEq, Int.reduceLE, Int.reduceLT, Nat.reduceLT, Nat.reduceLeDiff]
/-- A program whose columns and rows are turned round. -/
def revQ (p : Pm) (cc oc : Nat) (cps : Nat → Nat) (hb : p.m ≤ big + 2) : Pm :=
  ⟨p.n, cc, fun j => p.co (p.n - 1 - j), p.m, oc, fun t k => p.a (p.m - 1 - t) (p.ln (p.m - 1 - t) - 1 - k), fun t => bif decide (t < p.m) then p.ln (p.m - 1 - t) else 0, cps, fun t => p.kd (p.m - 1 - t), fun t => p.b (p.m - 1 - t), big + 2, hb⟩
theorem rv_of (p : Pm) (cc oc : Nat) (cps : Nat → Nat) (hb : p.m ≤ big + 2) : Rv p (revQ p cc oc cps hb) := by
  have e : ∀ t, t < p.m → (revQ p cc oc cps hb).ln t = p.ln (p.m - 1 - t) := fun t ht => by
    show (bif decide (t < p.m) then p.ln (p.m - 1 - t) else 0) = _
    rw [decide_eq_true ht]
    rfl
  exact ⟨rfl, rfl, fun _ _ => rfl, e, fun t k ht _ => by rw [e t ht]; rfl, fun _ _ => rfl, fun _ _ => rfl⟩
/-- A program with a further row. -/
def morQ (p : Pm) (cap rl rc : Nat) (rf : Nat → Int) (rk rb : Int) : Pm :=
  ⟨p.n, p.nc, p.co, p.m + 1, cap, fun t k => if t < p.m then p.a t k else rf k, fun t => if t < p.m then p.ln t else rl, fun t => if t < p.m then p.cp t else rc, fun t => if t < p.m then p.kd t else rk, fun t => if t < p.m then p.b t else rb, p.m + 1, Nat.le_refl _⟩
theorem mr_of (p : Pm) (cap rl rc : Nat) (rf : Nat → Int) (rk rb : Int) : Mr p (morQ p cap rl rc rf rk rb) :=
  ⟨rfl, rfl, fun _ => rfl, fun _ ht => if_pos ht, fun _ _ ht => if_pos ht, fun _ ht => if_pos ht, fun _ ht => if_pos ht⟩
/-- The rows of a program with a further row, as they are made. -/
def roQ (p : Pm) (cap rl rc : Nat) (rk rb : Int) : Ob := ⟨45, true, .row 3 1 (fun _ => p.m + 1) (fun _ => cap) (fun _ t => bif decide (t < p.m) then [.s 2 t 0 (p.ln t) (p.cp t) 1, .v (.int .i64 (p.kd t)), .v (.int .i64 (p.b t))] else [.s 3 0 0 rl rc 1, .v (.int .i64 rk), .v (.int .i64 rb)])⟩
attribute [push_cast] roQ
theorem solveQ_sp (p : Pm) (cap rl rc : Nat) (rf : Nat → Int) (rk rb : Int) (hnc : p.n ≤ p.nc) (hcap : p.m + 1 ≤ cap) (hl : ∀ t, t < p.m → p.ln t ≤ 1000000) (hn : p.n ≤ 1000000) (hm : p.m ≤ 900000) (hrl : rl ≤ 1000000) :
    Sp Try.prog 21 [.a [.s 0 0 0 p.n p.nc 1, .s 1 0 0 (p.m + 1) cap 3]] [rI p.n p.nc p.co, roQ p cap rl rc rk rb, rAf p, rI rl rc rf] (SolJ (morQ p cap rl rc rf rk rb) [rI p.n p.nc p.co, roQ p cap rl rc rk rb, rAf p, rI rl rc rf] 4 5) := by
  have hfz := p.fzm
  obtain ⟨q, hq⟩ : ∃ q, q = morQ p cap rl rc rf rk rb := ⟨_, rfl⟩
  rw [← hq]
  have hin : vPm q = true → PmOk q := pmok_of (by rw [hq]; exact hnc) (by rw [hq]; exact hcap)
  have hs := solveJ_sp q hin (fun t ht => by
    rw [hq]
    show (if t < p.m then p.ln t else rl) ≤ _
    split
    · exact hl _ (by omega)
    · exact hrl) (by rw [hq]; exact hn) (by rw [hq]; show p.m + 1 ≤ _; omega)
  have hw := wk_rows (H := [rI p.n p.nc p.co, roQ p cap rl rc rk rb, rAf p, rI rl rc rf]) (J := 1) (C := 0) q rfl (Nat.zero_lt_succ _) rfl (by rw [hq]; exact Nat.le_refl _) (fun t ht => by
    rw [hq] at ht ⊢
    by_cases e : t < p.m
    · refine ⟨.s 2 t 0 (p.ln t) (p.cp t) 1, ?_, 2, t, ?_, fun _ => ⟨3, true, _, _, _, _, rfl, by omega, ?_, fun k _ => ?_⟩⟩
      · simp only [morQ, decide_eq_true e, cond_true, if_pos e]
      · simp only [morQ, if_pos e]
      · simp only [morQ, if_pos e]; exact Nat.le_refl _
      · simp only [morQ, if_pos e]
    · refine ⟨.s 3 0 0 rl rc 1, ?_, 3, 0, ?_, fun _ => ⟨3, true, _, _, _, _, rfl, by omega, ?_, fun k _ => ?_⟩⟩
      · simp only [morQ, decide_eq_false e, cond_false, if_neg e]
      · simp only [morQ, if_neg e]
      · simp only [morQ, if_neg e]; exact Nat.le_refl _
      · simp only [morQ, if_neg e])
  have e1 : p.n = q.n := by rw [hq]; rfl
  have e2 : p.nc = q.nc := by rw [hq]; rfl
  have e3 : p.m + 1 = q.m := by rw [hq]; rfl
  have e4 : cap = q.mc := by rw [hq]; rfl
  have e5 : p.co = q.co := by rw [hq]; rfl
  refine sp_weak ?_
  rw [show ([.a [.s 0 0 0 p.n p.nc 1, .s 1 0 0 (p.m + 1) cap 3]] : List SV) = [.a [.s 0 0 0 q.n q.nc 1, .s 1 0 0 q.m q.mc 3]] by rw [e1, e2, e3, e4]]
  refine sp_pre hw (sp_at hs [0, 4, 5] (by kernel_rfl) ?_ ?_ ?_)
  · simp only [push_cast, ↓branch_true, ↓branch_false, Nat.reduceBEq, Nat.reduceAdd, Nat.reduceMul, Nat.reduceSub, Int.reduceToNat, reduceCtorEq, Int.reduceAdd, Int.reduceEq, Int.reduceLE, Int.reduceLT, Nat.reduceLT, Nat.reduceLeDiff]
  · rw [e1, e2, e5]
    simp only [push_cast, ↓branch_true, ↓branch_false, Nat.reduceBEq, Nat.reduceAdd, Nat.reduceMul, Nat.reduceSub, Int.reduceToNat, reduceCtorEq, Int.reduceAdd, Int.reduceEq, Int.reduceLE, Int.reduceLT, Nat.reduceLT, Nat.reduceLeDiff]
    rw [hq]; rfl
  have ho : ∀ rl', rl' = [0, 1, 2, 3] ∨ rl' = [0, 1, 2, 3, 6, 7] → ∀ i, i < 1 → ∀ k, k < p.m + 1 → mtL rl' (bif decide (k < p.m) then [SV.s 2 k 0 (p.ln k) (p.cp k) 1, .v (.int .i64 (p.kd k)), .v (.int .i64 (p.b k))] else [SV.s 3 0 0 rl rc 1, .v (.int .i64 rk), .v (.int .i64 rb)]) (bif decide (k < p.m) then [SV.s 2 k 0 (p.ln k) (p.cp k) 1, .v (.int .i64 (p.kd k)), .v (.int .i64 (p.b k))] else [SV.s 3 0 0 rl rc 1, .v (.int .i64 rk), .v (.int .i64 rb)]) := fun rl' hrl' _ _ k _ => by
    rcases hrl' with rfl | rfl
    · cases decide (k < p.m)
      · simp only [push_cast, ↓branch_true, ↓branch_false, Nat.reduceBEq, Nat.reduceAdd, Nat.reduceMul, Nat.reduceSub, Int.reduceToNat, reduceCtorEq, Int.reduceAdd, Int.reduceEq, Int.reduceLE, Int.reduceLT, Nat.reduceLT, Nat.reduceLeDiff]
      · simp only [push_cast, ↓branch_true, ↓branch_false, Nat.reduceBEq, Nat.reduceAdd, Nat.reduceMul, Nat.reduceSub, Int.reduceToNat, reduceCtorEq, Int.reduceAdd, Int.reduceEq, Int.reduceLE, Int.reduceLT, Nat.reduceLT, Nat.reduceLeDiff]
    · cases decide (k < p.m)
      · simp only [push_cast, ↓branch_true, ↓branch_false, Nat.reduceBEq, Nat.reduceAdd, Nat.reduceMul, Nat.reduceSub, Int.reduceToNat, reduceCtorEq, Int.reduceAdd, Int.reduceEq, Int.reduceLE, Int.reduceLT, Nat.reduceLT, Nat.reduceLeDiff]
      · simp only [push_cast, ↓branch_true, ↓branch_false, Nat.reduceBEq, Nat.reduceAdd, Nat.reduceMul, Nat.reduceSub, Int.reduceToNat, reduceCtorEq, Int.reduceAdd, Int.reduceEq, Int.reduceLE, Int.reduceLT, Nat.reduceLT, Nat.reduceLeDiff]
  have ho1 : ∀ i, i < 1 → p.n ≤ q.n ∧ ∀ k, k < p.n → Value.int IntKind.i64 (p.co k) = Value.int IntKind.i64 (q.co k) := fun _ _ => ⟨by omega, fun k _ => by rw [e5]⟩
  intro r0 H1 hJ
  cases hJ with
  | ok e N D xl xc yl yc d1 d2 X Y hO he =>
    refine ⟨_, _, [0, 1, 2, 3, 6, 7], ?_, by kernel_rfl, ?_, .ok e N D xl xc yl yc d1 d2 X Y hO he⟩
    · simp only [push_cast, ↓branch_true, ↓branch_false, Nat.reduceBEq, Nat.reduceAdd, Nat.reduceMul, Nat.reduceSub, Int.reduceToNat, reduceCtorEq, Int.reduceAdd, Int.reduceEq, Int.reduceLE, Int.reduceLT, Nat.reduceLT, Nat.reduceLeDiff]
    · simp only [push_cast, ↓branch_true, ↓branch_false, Nat.reduceBEq, Nat.reduceAdd, Nat.reduceMul, Nat.reduceSub, Int.reduceToNat, reduceCtorEq, Int.reduceAdd, Int.reduceEq, Int.reduceLE, Int.reduceLT, Nat.reduceLT, Nat.reduceLeDiff]
      exact ⟨ho1, ho _ (.inr rfl)⟩
  | bad e hO he =>
    refine ⟨_, _, [0, 1, 2, 3], ?_, by kernel_rfl, ?_, .bad e hO he⟩
    · simp only [push_cast, ↓branch_true, ↓branch_false, Nat.reduceBEq, Nat.reduceAdd, Nat.reduceMul, Nat.reduceSub, Int.reduceToNat, reduceCtorEq, Int.reduceAdd, Int.reduceEq, Int.reduceLE, Int.reduceLT, Nat.reduceLT, Nat.reduceLeDiff]
    · simp only [push_cast, ↓branch_true, ↓branch_false, Nat.reduceBEq, Nat.reduceAdd, Nat.reduceMul, Nat.reduceSub, Int.reduceToNat, reduceCtorEq, Int.reduceAdd, Int.reduceEq, Int.reduceLE, Int.reduceLT, Nat.reduceLT, Nat.reduceLeDiff]
      exact ⟨ho1, ho _ (.inl rfl)⟩
theorem solveS_sp (p : Pm) (hin : vPm p = true → PmOk p) (hl : ∀ t, t < p.m → p.ln t ≤ 1000000) (hn : p.n ≤ 1000000) (hm : p.m ≤ 1000000) : Sp Try.prog 21 [svP p] (obP p) (fun r H => ∃ e N D xl xc yl yc d1 d2 X Y, OutP p e N D ∧ r = ansA 3 4 e N D xl xc yl yc ∧ H = obP p ++ [oFr xl xc X d1, oFr yl yc Y d2]) := by
  refine sp_weak (sp_mono (solveJ_sp p hin hl hn hm) ?_)
  intro r H hJ
  cases hJ with
  | ok e N D xl xc yl yc d1 d2 X Y hO he =>
    refine ⟨_, _, [0, 1, 2, 3, 4], ?_, by kernel_rfl, ?_, e, N, D, xl, xc, yl, yc, d1, d2, X, Y, hO, rfl, rfl⟩
    · simp only [push_cast, ↓branch_true, ↓branch_false, Nat.reduceBEq, Nat.reduceAdd, Nat.reduceMul, Nat.reduceSub, Int.reduceToNat, reduceCtorEq, Int.reduceAdd, Int.reduceEq, Int.reduceLE, Int.reduceLT, Nat.reduceLT, Nat.reduceLeDiff]
    · simp only [push_cast, ↓branch_true, ↓branch_false, Nat.reduceBEq, Nat.reduceAdd, Nat.reduceMul, Nat.reduceSub, Int.reduceToNat, reduceCtorEq, Int.reduceAdd, Int.reduceEq, Int.reduceLE, Int.reduceLT, Nat.reduceLT, Nat.reduceLeDiff]
  | bad e hO he =>
    refine ⟨_, _, [0, 1, 2, 1000, 1001], ?_, by kernel_rfl, ?_, e, 0, 0, 0, 0, 0, 0, 0, 0, fun _ => 0, fun _ => 0, hO, rfl, rfl⟩
    · simp only [push_cast, ↓branch_true, ↓branch_false, Nat.reduceBEq, Nat.reduceAdd, Nat.reduceMul, Nat.reduceSub, Int.reduceToNat, reduceCtorEq, Int.reduceAdd, Int.reduceEq, Int.reduceLE, Int.reduceLT, Nat.reduceLT, Nat.reduceLeDiff]
    · simp only [push_cast, ↓branch_true, ↓branch_false, Nat.reduceBEq, Nat.reduceAdd, Nat.reduceMul, Nat.reduceSub, Int.reduceToNat, reduceCtorEq, Int.reduceAdd, Int.reduceEq, Int.reduceLE, Int.reduceLT, Nat.reduceLT, Nat.reduceLeDiff]
      try omega
end Go.Proofs.Ytmefgachdnlaoaa
