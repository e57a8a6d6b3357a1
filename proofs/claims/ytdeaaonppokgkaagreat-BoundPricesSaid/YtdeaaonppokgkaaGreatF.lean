/- Contract: the row that leaves. -/
import Derived.Test.YtdeaaonppokgkaaGreatE
set_option maxRecDepth 100000
set_option linter.unusedSimpArgs false
set_option linter.unusedVariables false
namespace Go.Proofs.YtdeaaonppokgkaaGreat
open Go.RowKit Lp
def rI (n cap : Nat) (f : Nat → Int) : Ob := ⟨3, true, .row 1 1 (fun _ => n) (fun _ => cap) (fun _ k => [.v (.int .i64 (f k))])⟩
def rCl (F m W cc : Nat) : Ob := ⟨32, true, .row 1 1 (fun _ => m) (fun _ => cc) (fun _ k => [.s F k 0 W W 1])⟩
def rCf (m W : Nat) (T : Nat → Nat → Int) : Ob := ⟨3, true, .row 1 m (fun _ => W) (fun _ => W) (fun i k => [.v (.int .i64 (T i k))])⟩
def rTb (q : Fm) (d : Int) : Ob := ⟨103, true, .st [.s 1 0 0 q.m q.cc 1, .v (.int .i64 d), .s 3 0 0 q.m q.bc 1, .s 4 0 0 q.m q.sc 1, .s 5 0 0 q.n q.nc 1, .v (.int .i64 (q.F : Nat)), .v (.int .i64 (q.R : Nat))]⟩
def tbR (q : Fm) (d : Int) (T : Nat → Nat → Int) (b : Nat → Nat) : List Ob := [rTb q d, rCl 2 q.m (q.R + 1) q.cc, rCf q.m (q.R + 1) T, rI q.m q.bc (fun k => (b k : Nat)), rI q.m q.sc q.sg, rI q.n q.nc q.co]
attribute [push_cast] rI rCl rCf rTb tbR
/-- The cost of a column. -/
def cqo (q : Fm) (j : Nat) : Int := if j < q.n then q.co j else 0
/-- Small entries. -/
structure Sml (q : Fm) (s : Tabl) : Prop where
  T : ∀ i j, i < q.m → j < q.R + 1 → (s.T i j).natAbs ≤ 144115188075855872
  m : q.m ≤ 6
  R : q.R ≤ 24
  n : q.n ≤ 12
  d : 0 < s.d ∧ s.d ≤ 144115188075855872
  b : ∀ k, k < q.m → s.b k < q.R
  cT : ∀ k j, k < q.m → j < q.R + 1 → (cqo q (s.b k) * s.T k j).natAbs ≤ 144115188075855872
  cd : ∀ j, (cqo q j * s.d).natAbs ≤ 144115188075855872
theorem lv_lt (R : Nat) (s : Tabl) (e : Nat) : ∀ i : Nat, -1 ≤ lv R s e i ∧ lv R s e i < i
  | 0 => ⟨Int.le_refl _, by show (-1 : Int) < 0; decide⟩
  | i + 1 => by
    have := lv_lt R s e i
    unfold lv
    split
    · omega
    · split
      · omega
      · split <;> omega
theorem cmp_case (x y : Int) : (x < y ∧ (if x < y then -1 else if x = y then 0 else 1 : Int) = -1) ∨ (x = y ∧ (if x < y then -1 else if x = y then 0 else 1 : Int) = 0) ∨ (y < x ∧ (if x < y then -1 else if x = y then 0 else 1 : Int) = 1) := by
  by_cases h : x < y
  · exact .inl ⟨h, by rw [if_pos h]⟩
  · by_cases h2 : x = y
    · exact .inr (.inl ⟨h2, by rw [if_neg h, if_pos h2]⟩)
    · exact .inr (.inr ⟨by omega, by rw [if_neg h, if_neg h2]⟩)
set_option maxHeartbeats 8000000 in
theorem leaving_pu (q : Fm) (s : Tabl) (e : Nat) (he : e < q.R + 1) (hS : Sml q s) : Pu Tryz.prog 93 [.p 0 0 0, .v (.int .i64 (e : Nat))] (tbR q s.d s.T s.b) (.v (.int .i64 (lv q.R s e q.m))) := by
  have hm := hS.m
  have hR := hS.R
  refine pu_of_ex true [] mixed Tryz.call93 Tryz.func93 rfl Tryz.ntmps93 Tryz.results93 (by decide +kernel) rfl rfl rfl ?_
  refine sxq ?_
  try with_reducible exact trivial
  repeat (with_reducible refine And.intro (by omega) ?_)
  refine tr_loop0 mixed (by kernel_rfl) (fun (i : Nat) => [(14, .v (.int .i64 i)), (13, .v (.int .i64 q.m)), (12, .s 1 0 0 q.m q.cc 1), (5, .v (.int .i64 (lv q.R s e i))), (0, .p 0 0 0), (1, .v (.int .i64 e))]) (fun i => i ≤ q.m) (fun i => q.m - i) 0 (Nat.zero_le _) ?_ ?_
  · refine sxq ?_
    try with_reducible exact trivial
    rfl
  intro i hi
  refine sxq ?_
  try with_reducible exact trivial
  refine ⟨fun h1 => ?_, fun h1 => ?_⟩
  · have him : i < q.m := by omega
    have hl := lv_lt q.R s e i
    have hn : lv q.R s e (i + 1) = if s.T i e ≤ 0 then lv q.R s e i else
      if lv q.R s e i < 0 then (i : Int) else
      if s.T i q.R * s.T (lv q.R s e i).toNat e < s.T (lv q.R s e i).toNat q.R * s.T i e ∨ (s.T i q.R * s.T (lv q.R s e i).toNat e = s.T (lv q.R s e i).toNat q.R * s.T i e ∧ s.b i < s.b (lv q.R s e i).toNat) then (i : Int) else lv q.R s e i := rfl
    generalize lv q.R s e i = B at *
    repeat (with_reducible refine And.intro (by omega) ?_)
    refine ⟨fun h2 => ?_, fun h2 => ?_⟩
    · rw [if_pos h2] at hn
      repeat (with_reducible refine And.intro (by omega) ?_)
      refine lp0_normal (i + 1) (by omega) (by omega) ?_
      simp only [push_cast, ↓branch_true, ↓branch_false, Nat.reduceBEq, Nat.reduceAdd, Nat.reduceMul, Nat.reduceSub, Int.reduceToNat, reduceCtorEq, Int.reduceAdd, Int.reduceEq, Int.reduceLE, Int.reduceLT, Nat.reduceLT, Nat.reduceLeDiff, hn]
    · rw [if_neg h2] at hn
      refine ⟨fun h3 => ?_, fun h3 => ?_⟩
      · rw [if_pos h3] at hn
        repeat (with_reducible refine And.intro (by omega) ?_)
        refine lp0_normal (i + 1) (by omega) (by omega) ?_
        simp only [push_cast, ↓branch_true, ↓branch_false, Nat.reduceBEq, Nat.reduceAdd, Nat.reduceMul, Nat.reduceSub, Int.reduceToNat, reduceCtorEq, Int.reduceAdd, Int.reduceEq, Int.reduceLE, Int.reduceLT, Nat.reduceLT, Nat.reduceLeDiff, hn]
      · rw [if_neg h3] at hn
        obtain ⟨b, rfl⟩ : ∃ b : Nat, B = b := ⟨B.toNat, by omega⟩
        rw [Int.toNat_natCast] at hn
        have hbm : b < q.m := by omega
        have b1 := hS.T i q.R him (by omega)
        have b2 := hS.T b e hbm he
        have b3 := hS.T b q.R hbm (by omega)
        have b4 := hS.T i e him he
        repeat (with_reducible refine And.intro (by omega) ?_)
        refine qc_c (times_pu (s.T i q.R) (s.T b e) (by omega) (by omega)) rfl [] ?_
        refine sxq ?_
        try with_reducible exact trivial
        repeat (with_reducible refine And.intro (by omega) ?_)
        refine qc_c (times_pu (s.T b q.R) (s.T i e) (by omega) (by omega)) rfl [] ?_
        refine sxq ?_
        try with_reducible exact trivial
        repeat (with_reducible refine And.intro (by omega) ?_)
        refine qc_c (cmp_pu (s.T i q.R * s.T b e) (s.T b q.R * s.T i e)) rfl [] ?_
        refine sxq ?_
        try with_reducible exact trivial
        repeat (with_reducible refine And.intro (by omega) ?_)
        have hc := cmp_case (s.T i q.R * s.T b e) (s.T b q.R * s.T i e)
        generalize (if s.T i q.R * s.T b e < s.T b q.R * s.T i e then -1 else if s.T i q.R * s.T b e = s.T b q.R * s.T i e then 0 else 1 : Int) = c at *
        refine ⟨fun h4 => ?_, fun h4 => ?_⟩
        · rw [if_pos (.inl (by omega))] at hn
          repeat (with_reducible refine And.intro (by omega) ?_)
          refine lp0_normal (i + 1) (by omega) (by omega) ?_
          simp only [push_cast, ↓branch_true, ↓branch_false, Nat.reduceBEq, Nat.reduceAdd, Nat.reduceMul, Nat.reduceSub, Int.reduceToNat, reduceCtorEq, Int.reduceAdd, Int.reduceEq, Int.reduceLE, Int.reduceLT, Nat.reduceLT, Nat.reduceLeDiff, hn]
        · refine ⟨fun h5 => ?_, fun h5 => ?_⟩
          · repeat (with_reducible refine And.intro (by omega) ?_)
            refine ⟨fun h6 => ?_, fun h6 => ?_⟩
            · rw [if_pos (.inr ⟨by omega, by omega⟩)] at hn
              repeat (with_reducible refine And.intro (by omega) ?_)
              refine lp0_normal (i + 1) (by omega) (by omega) ?_
              simp only [push_cast, ↓branch_true, ↓branch_false, Nat.reduceBEq, Nat.reduceAdd, Nat.reduceMul, Nat.reduceSub, Int.reduceToNat, reduceCtorEq, Int.reduceAdd, Int.reduceEq, Int.reduceLE, Int.reduceLT, Nat.reduceLT, Nat.reduceLeDiff, hn]
            · rw [if_neg (by omega)] at hn
              repeat (with_reducible refine And.intro (by omega) ?_)
              refine lp0_normal (i + 1) (by omega) (by omega) ?_
              simp only [push_cast, ↓branch_true, ↓branch_false, Nat.reduceBEq, Nat.reduceAdd, Nat.reduceMul, Nat.reduceSub, Int.reduceToNat, reduceCtorEq, Int.reduceAdd, Int.reduceEq, Int.reduceLE, Int.reduceLT, Nat.reduceLT, Nat.reduceLeDiff, hn]
          · rw [if_neg (by omega)] at hn
            repeat (with_reducible refine And.intro (by omega) ?_)
            refine lp0_normal (i + 1) (by omega) (by omega) ?_
            simp only [push_cast, ↓branch_true, ↓branch_false, Nat.reduceBEq, Nat.reduceAdd, Nat.reduceMul, Nat.reduceSub, Int.reduceToNat, reduceCtorEq, Int.reduceAdd, Int.reduceEq, Int.reduceLE, Int.reduceLT, Nat.reduceLT, Nat.reduceLeDiff, hn]
  · obtain rfl : i = q.m := by omega
    repeat (with_reducible refine And.intro (by omega) ?_)
    rfl
end Go.Proofs.YtdeaaonppokgkaaGreat
