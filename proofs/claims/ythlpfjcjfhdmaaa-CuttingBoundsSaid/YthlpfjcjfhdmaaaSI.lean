/- Contracts: exchange of stretches, and rotation. -/
import Derived.Test.YthlpfjcjfhdmaaaSH
set_option maxRecDepth 100000
set_option linter.unusedSimpArgs false
set_option linter.unusedVariables false
namespace Go.Proofs.Ythlpfjcjfhdmaaa
open Go.RowKit
theorem upd_two {f : Nat → Int} {p q x k : Nat} {u v : Int} (hpq : p ≠ q) (hx : x < 1) : [SV.v (.int .i64 (if k = q then v else if k = p then u else f k))] = updF (updF (fun _ k => [SV.v (.int .i64 (f k))]) 0 p [.v (.int .i64 u)]) 0 q (.v (.int .i64 v) :: bif q == p then [] else []) x k := by
  obtain rfl : x = 0 := by omega
  have e : (q == p) = false := by simp; omega
  simp only [updF, e]
  by_cases e1 : k = q
  · subst e1
    simp [mrgL, mrg1, e]
  · have e4 : (k == q) = false := by simpa using e1
    by_cases e2 : k = p
    · subst e2
      simp [mrgL, mrg1, e1, e4]
    · have e5 : (k == p) = false := by simpa using e2
      simp [mrgL, mrg1, e1, e2, e4, e5]
/-- Two stretches exchanged. -/
def swR (f : Nat → Int) (a b c : Nat) : Nat → Int := fun k => if a ≤ k ∧ k < a + c then f (k - a + b) else if b ≤ k ∧ k < b + c then f (k - b + a) else f k
theorem swR_0 (f : Nat → Int) (a b : Nat) : swR f a b 0 = f := by
  funext k
  simp only [swR]
  rw [if_neg (by omega), if_neg (by omega)]
theorem swR_1 {f : Nat → Int} {a b i k : Nat} (h : a + i < b) : swR f a b (i + 1) k = if k = b + i then swR f a b i (a + i) else if k = a + i then swR f a b i (b + i) else swR f a b i k := by
  simp only [swR]
  by_cases e1 : k = b + i
  · subst e1
    rw [if_neg (by omega), if_pos (by omega), if_pos rfl, if_neg (by omega), if_neg (by omega)]
    congr 1
    omega
  · by_cases e2 : k = a + i
    · subst e2
      rw [if_pos (by omega), if_neg (by omega), if_pos rfl, if_neg (by omega), if_neg (by omega)]
      congr 1
      omega
    · rw [if_neg e1, if_neg e2]
      by_cases e3 : a ≤ k ∧ k < a + i
      · rw [if_pos (by omega), if_pos e3]
      · rw [if_neg (by omega), if_neg e3]
        by_cases e4 : b ≤ k ∧ k < b + i
        · rw [if_pos (by omega), if_pos e4]
        · rw [if_neg (by omega), if_neg e4]
theorem swapR_sp (g : FuncId) (fs cs : List SV) (n cap : Nat) (H : List Ob) (f : Nat → Int) (a b c : Nat) (h1 : a + c ≤ b) (h2 : b + c ≤ n) (hn : n ≤ cap) (hcap : n ≤ 1152921504606846976) :
    Sp Try.prog 98 [.s 0 0 0 n cap 1, .v (.int .i64 a), .v (.int .i64 b), .v (.int .i64 c), .f (.func g) fs cs] (rOwn 3 n cap f :: H) (fun r H' => r = .t [] ∧ H' = rOwn 3 n cap (swR f a b c) :: H) := by
  refine sp_wk ?_
  refine sp_of_ex true [(3, .one 0 (.one 1 (.one 2 (.one 3 (.one 4 (.one 5 (.one 6 (.one 7 (.one 8 (.one 9 (.one 10 (.one 11 (.one 12 (.one 14 (.one 15 (.one 16 (.one 17 (.one 18 (.alt [(13, .one 19 (.one 20 (.one 21 (.one 22 (.one 23 .fin))))), (19, .one 13 (.one 20 (.one 21 (.one 22 (.one 23 .fin)))))])))))))))))))))))))] mixed Try.call98 Try.func98 rfl Try.ntmps98 Try.results98 (by decide +kernel) rfl ?_
  simp only [push_cast, ↓branch_true, ↓branch_false, Nat.reduceBEq, Nat.reduceAdd, Nat.reduceMul, Nat.reduceSub, Int.reduceToNat, reduceCtorEq, branch_decide, branch_not, branch_beq, branch_bne]
  refine tr_loop mixed (by kernel_rfl) (fun (i : Nat) => [(10, .v (.int .i64 i)), (0, .s 0 0 0 n cap 1), (1, .v (.int .i64 a)), (2, .v (.int .i64 b)), (3, .v (.int .i64 c)), (4, .f (.func g) fs cs)])
    (fun i => rOwn 3 n cap (swR f a b i) :: H) (fun i => i ≤ c) (fun i => c - i) 0 (Nat.zero_le _) (swk_head ?_ fun _ _ _ _ => by simp only [swR_0]) ?_
  · simp only [push_cast, ↓branch_true, ↓branch_false, Nat.reduceBEq, Nat.reduceAdd, Nat.reduceMul, Nat.reduceSub, Int.reduceToNat, reduceCtorEq, branch_decide, branch_not, branch_beq, branch_bne]
  intro i hi
  simp only [push_cast, ↓branch_true, ↓branch_false, Nat.reduceBEq, Nat.reduceAdd, Nat.reduceMul, Nat.reduceSub, Int.reduceToNat, reduceCtorEq, branch_decide, branch_not, branch_beq, branch_bne]
  refine ⟨fun h => ?_, fun h => ?_⟩
  · repeat' (with_reducible apply And.intro)
    all_goals try omega
    all_goals
      have e1 : ((b : Int) + (i : Int)).toNat = b + i := by omega
      have e2 : ((a : Int) + (i : Int)).toNat = a + i := by omega
      simp only [e1, e2]
      refine lpK_wk (i + 1) (by omega) (by omega) (swk_head ?_ fun x hx k hk => ?_)
      · simp only [push_cast, ↓branch_true, ↓branch_false, Nat.reduceBEq, Nat.reduceAdd, Nat.reduceMul, Nat.reduceSub, Int.reduceToNat, reduceCtorEq, branch_decide, branch_not, branch_beq, branch_bne]
      · rw [← upd_two (by omega) hx, swR_1 (by omega)]
  · obtain rfl : i = c := by omega
    exact ⟨_, _, vwk_head (f' := fun x k => [.v (.int .i64 (swR f a b i k))]) fun _ _ _ _ => rfl, rfl, rfl⟩
/-- A stretch turned about: what stood from `m` on comes first. -/
def rot (f : Nat → Int) (a m b : Nat) : Nat → Int := fun k => if a ≤ k ∧ k < a + (b - m) then f (k - a + m) else if a ≤ k ∧ k < b then f (k - (b - m)) else f k
theorem rot_eq {f : Nat → Int} {m i : Nat} (h : i ≤ m) (k : Nat) : swR f (m - i) m i k = rot f (m - i) m (m + i) k := by
  simp only [swR, rot]
  repeat' split
  all_goals first | omega | (congr 1; omega)
theorem rot_gt {f : Nat → Int} {m i j : Nat} (h : i ≤ m) (hij : j < i) (k : Nat) : rot (swR f (m - i) m j) (m - (i - j)) m (m + j) k = rot f (m - i) m (m + j) k := by
  simp only [swR, rot]
  repeat' split
  all_goals first | omega | (congr 1; omega)
theorem rot_lt {f : Nat → Int} {m i j : Nat} (h : i ≤ m) (hij : i < j) (k : Nat) : rot (swR f (m - i) (m + j - i) i) (m - i) m (m + (j - i)) k = rot f (m - i) m (m + j) k := by
  simp only [swR, rot]
  repeat' split
  all_goals first | omega | (congr 1; omega)
theorem rot_sp (g : FuncId) (fs cs : List SV) (n cap : Nat) (H : List Ob) (f : Nat → Int) (a m b : Nat) (h1 : a < m) (h2 : m < b) (h3 : b ≤ n) (hn : n ≤ cap) (hcap : n ≤ 1152921504606846976) :
    Sp Try.prog 97 [.s 0 0 0 n cap 1, .v (.int .i64 a), .v (.int .i64 m), .v (.int .i64 b), .f (.func g) fs cs] (rOwn 3 n cap f :: H) (fun r H' => r = .t [] ∧ H' = rOwn 3 n cap (rot f a m b) :: H) := by
  refine sp_wk ?_
  refine sp_of_ex true [] mixed Try.call97 Try.func97 rfl Try.ntmps97 Try.results97 (by decide +kernel) rfl ?_
  simp only [push_cast, ↓branch_true, ↓branch_false, Nat.reduceBEq, Nat.reduceAdd, Nat.reduceMul, Nat.reduceSub, Int.reduceToNat, reduceCtorEq, branch_decide, branch_not, branch_beq, branch_bne]
  repeat (with_reducible refine And.intro (by omega) ?_)
  refine tr_loop mixed (by kernel_rfl) (fun (x : Nat × Nat × (Nat → Int)) => [(10, .v (.int .i64 x.1)), (11, .v (.int .i64 x.2.1)), (0, .s 0 0 0 n cap 1), (1, .v (.int .i64 a)), (2, .v (.int .i64 m)), (3, .v (.int .i64 b)), (4, .f (.func g) fs cs)])
    (fun x => rOwn 3 n cap x.2.2 :: H) (fun x => 0 < x.1 ∧ x.1 ≤ m ∧ 0 < x.2.1 ∧ m + x.2.1 ≤ n ∧ rot x.2.2 (m - x.1) m (m + x.2.1) = rot f a m b) (fun x => x.1 + x.2.1) (m - a, b - m, f)
    ⟨by simp only; omega, by simp only; omega, by simp only; omega, by simp only; omega, by simp only; rw [show m - (m - a) = a by omega, show m + (b - m) = b by omega]⟩ (swk_head ?_ fun _ _ _ _ => rfl) ?_
  · simp only [push_cast, ↓branch_true, ↓branch_false, Nat.reduceBEq, Nat.reduceAdd, Nat.reduceMul, Nat.reduceSub, Int.reduceToNat, reduceCtorEq, branch_decide, branch_not, branch_beq, branch_bne]
    rw [show ((m - a : Nat) : Int) = (m : Int) - a by omega, show ((b - m : Nat) : Int) = (b : Int) - m by omega]
    exact ⟨rfl, rfl⟩
  rintro ⟨i, j, f1⟩ ⟨k1, k2, k3, k4, k5⟩
  simp only at k1 k2 k3 k4 k5
  simp only [push_cast, ↓branch_true, ↓branch_false, Nat.reduceBEq, Nat.reduceAdd, Nat.reduceMul, Nat.reduceSub, Int.reduceToNat, reduceCtorEq, branch_decide, branch_not, branch_beq, branch_bne]
  refine ⟨fun h => ?_, fun h => ?_⟩
  · obtain rfl : i = j := by omega
    have hs := swapR_sp g fs cs n cap H f1 (m - i) m i (by omega) (by omega) hn hcap
    rw [show ((m - i : Nat) : Int) = (m : Int) - i by omega] at hs
    repeat (with_reducible refine And.intro (by omega) ?_)
    refine sp_mono hs ?_
    rintro r H' ⟨rfl, rfl⟩
    simp only [push_cast, ↓branch_true, ↓branch_false, Nat.reduceBEq, Nat.reduceAdd, Nat.reduceMul, Nat.reduceSub, Int.reduceToNat, reduceCtorEq, branch_decide, branch_not, branch_beq, branch_bne]
    refine ⟨_, _, vwk_head (f' := fun x k => [.v (.int .i64 (rot f a m b k))]) fun _ _ _ _ => ?_, rfl, rfl⟩
    rw [← k5, rot_eq (by omega)]
  · refine ⟨fun h4 => ?_, fun h4 => ?_⟩
    · have hs := swapR_sp g fs cs n cap H f1 (m - i) m j (by omega) (by omega) hn hcap
      rw [show ((m - i : Nat) : Int) = (m : Int) - i by omega] at hs
      repeat (with_reducible refine And.intro (by omega) ?_)
      refine sp_mono hs ?_
      rintro r H' ⟨rfl, rfl⟩
      simp only [push_cast, ↓branch_true, ↓branch_false, Nat.reduceBEq, Nat.reduceAdd, Nat.reduceMul, Nat.reduceSub, Int.reduceToNat, reduceCtorEq, branch_decide, branch_not, branch_beq, branch_bne]
      repeat (with_reducible refine And.intro (by omega) ?_)
      refine lpK_wk (i - j, j, swR f1 (m - i) m j) ?_ ?_ (swk_head ?_ fun _ _ _ _ => rfl)
      · refine ⟨by simp only; omega, by simp only; omega, by simp only; omega, by simp only; omega, ?_⟩
        rw [← k5]
        funext k
        exact rot_gt (by omega) (by omega) k
      · simp only; omega
      · simp only [push_cast, ↓branch_true, ↓branch_false, Nat.reduceBEq, Nat.reduceAdd, Nat.reduceMul, Nat.reduceSub, Int.reduceToNat, reduceCtorEq, branch_decide, branch_not, branch_beq, branch_bne]
        rw [show ((i - j : Nat) : Int) = (i : Int) - j by omega]
    · have hs := swapR_sp g fs cs n cap H f1 (m - i) (m + j - i) i (by omega) (by omega) hn hcap
      rw [show ((m - i : Nat) : Int) = (m : Int) - i by omega, show ((m + j - i : Nat) : Int) = (m : Int) + j - i by omega] at hs
      repeat (with_reducible refine And.intro (by omega) ?_)
      refine sp_mono hs ?_
      rintro r H' ⟨rfl, rfl⟩
      simp only [push_cast, ↓branch_true, ↓branch_false, Nat.reduceBEq, Nat.reduceAdd, Nat.reduceMul, Nat.reduceSub, Int.reduceToNat, reduceCtorEq, branch_decide, branch_not, branch_beq, branch_bne]
      repeat (with_reducible refine And.intro (by omega) ?_)
      refine lpK_wk (i, j - i, swR f1 (m - i) (m + j - i) i) ?_ ?_ (swk_head ?_ fun _ _ _ _ => rfl)
      · refine ⟨by simp only; omega, by simp only; omega, by simp only; omega, by simp only; omega, ?_⟩
        rw [← k5]
        funext k
        exact rot_lt (by omega) (by omega) k
      · simp only; omega
      · simp only [push_cast, ↓branch_true, ↓branch_false, Nat.reduceBEq, Nat.reduceAdd, Nat.reduceMul, Nat.reduceSub, Int.reduceToNat, reduceCtorEq, branch_decide, branch_not, branch_beq, branch_bne]
        rw [show ((j - i : Nat) : Int) = (j : Int) - i by omega]
end Go.Proofs.Ythlpfjcjfhdmaaa
