/- Contracts: a program as objects; Clone of costs; the first table. -/
import Derived.Test.YtdeaaonppokgkaaGreatI
set_option maxRecDepth 100000
set_option linter.unusedSimpArgs false
set_option linter.unusedVariables false
namespace Go.Proofs.YtdeaaonppokgkaaGreat
open Go.RowKit Lp
/-- A program, as it lies. -/
structure Pm where
  n : Nat
  nc : Nat
  co : Nat → Int
  m : Nat
  mc : Nat
  a : Nat → Nat → Int
  ln : Nat → Nat
  cp : Nat → Nat
  kd : Nat → Int
  b : Nat → Int
  fz : Nat
  fzm : m ≤ fz
def rRw (p : Pm) : Ob := ⟨58, true, .row 3 1 (fun _ => p.m) (fun _ => p.mc) (fun _ t => [.s 2 t 0 (p.ln t) (p.cp t) 1, .v (.int .i64 (p.kd t)), .v (.int .i64 (p.b t))])⟩
def rAf (p : Pm) : Ob := ⟨3, true, .row 1 p.fz p.ln p.cp (fun t k => [.v (.int .i64 (p.a t k))])⟩
def obP (p : Pm) : List Ob := [rI p.n p.nc p.co, rRw p, rAf p]
def svP (p : Pm) : SV := .a [.s 0 0 0 p.n p.nc 1, .s 1 0 0 p.m p.mc 3]
attribute [push_cast] rRw rAf obP svP
structure PmOk (p : Pm) : Prop where
  n : 1 ≤ p.n ∧ p.n ≤ 12
  m : p.m ≤ 6
  nc : p.n ≤ p.nc
  mc : p.m ≤ p.mc
  ln : ∀ t, t < p.m → p.ln t = p.n
  kd : ∀ t, t < p.m → p.kd t = 1 ∨ p.kd t = 2 ∨ p.kd t = 3
  co : ∀ j, j < p.n → (p.co j).natAbs ≤ 1048576
  a : ∀ t k, t < p.m → k < p.n → (p.a t k).natAbs ≤ 1048576
  b : ∀ t, t < p.m → (p.b t).natAbs ≤ 1073741824
def nsl (p : Pm) : Nat → Nat
  | 0 => 0
  | t + 1 => if p.kd t = 3 then nsl p t else nsl p t + 1
theorem nsl_le (p : Pm) : ∀ t, nsl p t ≤ t
  | 0 => Nat.le_refl _
  | t + 1 => by
    have := nsl_le p t
    rw [nsl]
    split <;> omega
theorem nsl_mono (p : Pm) : ∀ {t u}, t ≤ u → nsl p t ≤ nsl p u
  | t, 0, h => by obtain rfl : t = 0 := by omega
                  exact Nat.le_refl _
  | t, u + 1, h => by
    by_cases e : t = u + 1
    · rw [e]; exact Nat.le_refl _
    · have := nsl_mono p (t := t) (u := u) (by omega)
      rw [nsl]
      split <;> omega
def Pm.F (p : Pm) : Nat := p.n + nsl p p.m
def Pm.R (p : Pm) : Nat := p.F + p.m
/-- A row, without its sign. -/
def rw0 (p : Pm) (t j : Nat) : Int := if j < p.n then p.a t j else if j = p.R then p.b t else if p.kd t = 1 ∧ j = p.n + nsl p t then 1 else if p.kd t = 2 ∧ j = p.n + nsl p t then -1 else 0
def sgn (p : Pm) (t : Nat) : Int := if p.b t < 0 then -1 else 1
/-- The first table. -/
def tA (p : Pm) (t j : Nat) : Int := if j = p.F + t then 1 else sgn p t * rw0 p t j
theorem negR_set (f : Nat → Int) (j k : Nat) : (bif decide (k < j + 1) then 0 - f k else f k) = bif 0 == 0 && k == j then 0 - f j else bif decide (k < j) then 0 - f k else f k := by
  by_cases e : k = j
  · subst e; simp
  · rw [beq_eq_false_iff_ne.2 e, show decide (k < j + 1) = decide (k < j) by rw [decide_eq_decide]; omega]
    simp
theorem rw0_le {p : Pm} (hp : PmOk p) {t j : Nat} (ht : t < p.m) (hj : j < p.R + 1) : (rw0 p t j).natAbs ≤ 1073741824 := by
  have h1 := hp.b t ht
  unfold rw0
  split
  · rename_i h
    have := hp.a t j ht h
    omega
  · split
    · exact h1
    · split
      · decide
      · split <;> decide
theorem tA_col {p : Pm} (hp : PmOk p) {t : Nat} (ht : t < p.m) (k : Nat) : tA p t k = bif 0 == 0 && k == p.F + t then 1 else sgn p t * rw0 p t k := by
  unfold tA
  by_cases e : k = p.F + t
  · subst e; simp
  · rw [if_neg e, beq_eq_false_iff_ne.2 e]; simp
def mixC (t R cc : Nat) : Ob := ⟨32, false, .row 1 1 (fun _ => t + 1) (fun _ => cc) (fun _ k => bif decide (k < t) then [.s 7 k 0 (R + 1) (R + 1) 1] else [.s 10 0 0 (R + 1) (R + 1) 1])⟩
attribute [push_cast] mixC
theorem lf1 {rl : List Nat} {N : Nat} (c : Nat) (f : Nat → Int) : ∀ i, i < 1 → ∀ k, k < N → Value.int .i64 (bif k == c then 1 else f k) = Value.int .i64 (bif i == 0 && k == c then 1 else f k) ∧ mtL rl [] (bif i == 0 && k == c then [] else []) := fun i hi k _ => by
  obtain rfl : i = 0 := by omega
  exact ⟨rfl, mt_cond⟩
theorem lf3 {rl : List Nat} {t : Nat} (f : Nat → Int) : ∀ i, i < 1 → ∀ k, k < t + 1 → Value.int .i64 (f k) = Value.int .i64 (bif decide (k < t) then f k else f t) ∧ mtL rl [] (bif decide (k < t) then [] else []) := fun i _ k hk => by
  refine ⟨congrArg (Value.int .i64) ?_, mt_cond⟩
  by_cases e : k < t
  · simp [e]
  · obtain rfl : k = t := by omega
    simp
theorem mrg_nil (b : Bool) : mrgL b [] [] = [] := by cases b <;> rfl
theorem mt_nil {rl : List Nat} : mtL rl [] [] := by (simp only [push_cast, ↓branch_true, ↓branch_false, Nat.reduceBEq, Nat.reduceAdd, Nat.reduceMul, Nat.reduceSub, Int.reduceToNat, reduceCtorEq, Int.reduceAdd, Int.reduceEq, Int.reduceLE, Int.reduceLT, Nat.reduceLT, Nat.reduceLeDiff])
theorem rw0_at {p : Pm} (hp : PmOk p) {t : Nat} (ht : t < p.m) (j : Nat) : rw0 p t j = if j < p.n then p.a t j else if j = p.R then p.b t else if p.kd t = 1 ∧ j = p.n + nsl p t then 1 else if p.kd t = 2 ∧ j = p.n + nsl p t then -1 else 0 := rfl
set_option maxHeartbeats 1000000 in
theorem clone_sp (n c : Nat) (f : Nat → Int) (hl : n ≤ 1000000) (hc : n ≤ c) : Sp Tryz.prog 81 [.s 0 0 0 n c 1] [rI n c f] (fun r H => ∃ cap, n ≤ cap ∧ r = .s 1 0 0 n cap 1 ∧ H = [rI n c f, oI n cap f]) := by
  refine sp_weak ?_
  refine sp_of_ex true [] mixed Tryz.call81 Tryz.func81 rfl Tryz.ntmps81 Tryz.results81 (by decide +kernel) rfl ?_
  refine sxq ?_
  try with_reducible exact trivial
  intro b hb
  cases b with
  | true =>
    have h0 : n = 0 := by
      rcases Nat.eq_zero_or_pos c with h | h
      · omega
      · cases hb h
    refine sxq ?_
    try with_reducible exact trivial
    refine ⟨_, _, [0, 1000], ?_, by kernel_rfl, ?_, 0, by omega, rfl, rfl⟩
    · refine sxq ?_
      try with_reducible exact trivial
      exact h0
    · refine sxq ?_
      try with_reducible exact trivial
      omega
  | false =>
    refine sxq ?_
    try with_reducible exact trivial
    repeat (with_reducible refine And.intro (by omega) ?_)
    refine ⟨?_, appZ_of (fun h => ?_) fun _ => .inl ⟨by omega, by omega, fun cap hcap => ?_⟩⟩
    · unfold srcOk
      split <;> simp [lenP, lenIs, ones, one1]
    · refine ⟨_, _, [0, 1], ?_, by kernel_rfl, ?_, 0, by omega, rfl, rfl⟩
      · refine sxq ?_
        try with_reducible exact trivial
        exact h
      · refine sxq ?_
        try with_reducible exact trivial
        exact fun _ _ => ⟨by omega, fun k hk => by omega⟩
    · refine ⟨_, _, [0, 2], ?_, by kernel_rfl, ?_, cap, by omega, rfl, rfl⟩
      · refine sxq ?_
        try with_reducible exact trivial
      · refine sxq ?_
        try with_reducible exact trivial
def oBx (p : Pm) : Ob := ⟨35, false, .st [.s 0 0 0 p.n p.nc 1, .s 1 0 0 p.m p.mc 3]⟩
def tbK (k : Nat) (q : Fm) (d : Int) (T : Nat → Nat → Int) (b : Nat → Nat) : List Ob := [⟨103, false, .st [.s (k + 1) 0 0 q.m q.cc 1, .v (.int .i64 d), .s (k + 3) 0 0 q.m q.bc 1, .s (k + 4) 0 0 q.m q.sc 1, .s (k + 5) 0 0 q.n q.nc 1, .v (.int .i64 (q.F : Nat)), .v (.int .i64 (q.R : Nat))]⟩, oCl (k + 2) q.m (q.R + 1) q.cc, oCf q.m (q.R + 1) T, oI q.m q.bc (fun k => (b k : Nat)), oI q.m q.sc q.sg, oI q.n q.nc q.co]
/-- The table while it is built: t rows. -/
def nT (p : Pm) (nc : Nat) (x : Nat × Nat × Nat × Nat) : List Ob :=
  [oI p.n nc p.co, ⟨103, false, .st [.s 6 0 0 x.1 x.2.1 1, .v (.int .i64 1), .s 9 0 0 x.1 x.2.2.2 1, .s 8 0 0 x.1 x.2.2.1 1, .s 4 0 0 p.n nc 1, .v (.int .i64 (p.F : Nat)), .v (.int .i64 (p.R : Nat))]⟩,
   oCl 7 x.1 (p.R + 1) x.2.1, oCf x.1 (p.R + 1) (tA p), oI x.1 x.2.2.1 (sgn p), oI x.1 x.2.2.2 (fun t => (p.F + t : Nat))]
attribute [push_cast] oBx tbK nT
set_option maxHeartbeats 8000000 in
theorem newTable_sp (p : Pm) (hp : PmOk p) : Sp Tryz.prog 55 [svP p] (obP p) (fun r H => ∃ cc bc sc nc, r = .p 3 0 0 ∧ H = obP p ++ tbK 3 ⟨p.m, p.n, p.F, cc, bc, sc, nc, sgn p, p.co⟩ 1 (tA p) (fun t => p.F + t)) := by
  have hn := hp.n
  have hm := hp.m
  have hmc := hp.mc
  have hnc := hp.nc
  have hfz := p.fzm
  refine sp_weak ?_
  refine sp_of_ex true [(100032, .fin), (33, .hd 5 29 [1, 2] [0, 3, 4, 5, 6, 7, 10, 11, 12, 13, 14, 17, 18, 19, 20, 21, 22, 23, 24, 25, 26] (.alt [(8, .alt [(9, .alt [(15, .alt [(16, .one 27 (.one 28 .fin)), (27, .one 16 (.one 28 .fin))]), (27, .one 15 (.one 16 (.one 28 .fin)))]), (15, .alt [(9, .alt [(16, .one 27 (.one 28 .fin)), (27, .one 16 (.one 28 .fin))]), (27, .one 9 (.one 16 (.one 28 .fin)))]), (27, .alt [(9, .one 15 (.one 16 (.one 28 .fin))), (15, .one 9 (.one 16 (.one 28 .fin)))])]), (15, .alt [(8, .alt [(9, .alt [(16, .one 27 (.one 28 .fin)), (27, .one 16 (.one 28 .fin))]), (27, .one 9 (.one 16 (.one 28 .fin)))]), (27, .one 8 (.one 9 (.one 16 (.one 28 .fin))))]), (27, .alt [(8, .alt [(9, .one 15 (.one 16 (.one 28 .fin))), (15, .one 9 (.one 16 (.one 28 .fin)))]), (15, .one 8 (.one 9 (.one 16 (.one 28 .fin))))])]))] mixed Tryz.call55 Tryz.func55 rfl Tryz.ntmps55 Tryz.results55 (by decide +kernel) rfl ?_
  refine sxq ?_
  try with_reducible exact trivial
  refine tr_loop mixed (by kernel_rfl) (fun (k : Nat) => [(24, .v (.int .i64 k)), (23, .v (.int .i64 p.m)), (22, .s 1 0 0 p.m p.mc 3), (5, .v (.int .i64 (nsl p k))), (4, .v (.int .i64 p.m)), (3, .v (.int .i64 p.n)), (1, .p 3 0 0)])
    (fun _ => obP p ++ [oBx p]) (fun k => k ≤ p.m) (fun k => p.m - k) 0 (Nat.zero_le _) (Mt.wk (rl := [0, 1, 2, 3]) ⟨by kernel_rfl, ?_, ?_⟩) ?_
  · refine sxq ?_
    try with_reducible exact trivial
    rfl
  · refine sxq ?_
    try with_reducible exact trivial
  intro k hk
  have hnk := nsl_le p k
  refine sxq ?_
  try with_reducible exact trivial
  refine ⟨fun h1 => ?_, fun h1 => ?_⟩
  · have hkm : k < p.m := by omega
    have hs : nsl p (k + 1) = if p.kd k = 3 then nsl p k else nsl p k + 1 := rfl
    repeat (with_reducible refine And.intro (by omega) ?_)
    refine ⟨fun h2 => ?_, fun h2 => ?_⟩
    · rw [if_pos (by omega)] at hs
      repeat (with_reducible refine And.intro (by omega) ?_)
      refine lpK_normal (k + 1) [0, 1, 2, 3] (by omega) (by omega) (by kernel_rfl) ?_ ?_
      · simp only [push_cast, ↓branch_true, ↓branch_false, Nat.reduceBEq, Nat.reduceAdd, Nat.reduceMul, Nat.reduceSub, Int.reduceToNat, reduceCtorEq, Int.reduceAdd, Int.reduceEq, Int.reduceLE, Int.reduceLT, Nat.reduceLT, Nat.reduceLeDiff, hs]
      · refine sxq ?_
        try with_reducible exact trivial
    · rw [if_neg (by omega)] at hs
      repeat (with_reducible refine And.intro (by omega) ?_)
      refine lpK_normal (k + 1) [0, 1, 2, 3] (by omega) (by omega) (by kernel_rfl) ?_ ?_
      · simp only [push_cast, ↓branch_true, ↓branch_false, Nat.reduceBEq, Nat.reduceAdd, Nat.reduceMul, Nat.reduceSub, Int.reduceToNat, reduceCtorEq, Int.reduceAdd, Int.reduceEq, Int.reduceLE, Int.reduceLT, Nat.reduceLT, Nat.reduceLeDiff, hs]
      · refine sxq ?_
        try with_reducible exact trivial
  obtain rfl : k = p.m := by omega
  refine sp_at (clone_sp p.n p.nc p.co (by omega) hnc) [0] (by kernel_rfl) ?_ ?_ ?_
  · refine sxq ?_
    try with_reducible exact trivial
  · refine sxq ?_
    try with_reducible exact trivial
  rintro _ _ ⟨nc, hnc2, rfl, rfl⟩
  refine sxq ?_
  try with_reducible exact trivial
  have hns := nsl_le p p.m
  have hF : p.F = p.n + nsl p p.m := rfl
  have hRF : p.R = p.F + p.m := rfl
  repeat (with_reducible refine And.intro (by omega) ?_)
  refine tr_loop mixed (by kernel_rfl) (fun (x : Nat × Nat × Nat × Nat) => [(51, .v (.int .i64 x.1)), (50, .v (.int .i64 p.m)), (49, .s 1 0 0 p.m p.mc 3), (9, .v (.int .i64 ((p.n : Int) + nsl p x.1))), (8, .p 5 0 0)])
    (fun x => obP p ++ [oBx p] ++ nT p nc x) (fun x => x.1 ≤ p.m ∧ x.1 ≤ x.2.1 ∧ x.1 ≤ x.2.2.1 ∧ x.1 ≤ x.2.2.2) (fun x => p.m - x.1) (0, 0, 0, 0) ⟨Nat.zero_le _, Nat.le_refl _, Nat.le_refl _, Nat.le_refl _⟩ (Mt.wk (rl := [0, 1, 2, 3, 4, 5, 1000, 1001, 1002, 1003]) ⟨by kernel_rfl, ?_, ?_⟩) ?_
  · refine sxq ?_
    try with_reducible exact trivial
    rfl
  · refine sxq ?_
    try with_reducible exact trivial
    exact ⟨congrArg (Value.int .i64) (by omega), congrArg (Value.int .i64) (by omega)⟩
  rintro ⟨t, cc, sc, bc⟩ ⟨g1, g2, g3, g4⟩
  simp only at g1 g2 g3 g4
  rcases Nat.lt_or_ge t p.m with htm | htm
  · have hln := hp.ln t htm
    have hkd := hp.kd t htm
    have hr0 := rw0_at hp htm
    have hbb := hp.b t htm
    have hst := nsl_le p t
    have hst1 := nsl_mono p (t := t + 1) (u := p.m) htm
    have hns1 : nsl p (t + 1) = if p.kd t = 3 then nsl p t else nsl p t + 1 := rfl
    have hRt : ((p.R : Int) + 1).toNat = p.R + 1 := by omega
    have hmn : min p.n (p.R + 1) = p.n := by omega
    have hsl : ((p.n : Int) + (nsl p t : Nat)).toNat = p.n + nsl p t := by omega
    simp only [push_cast, ↓branch_true, ↓branch_false, Nat.reduceBEq, Nat.reduceAdd, Nat.reduceMul, Nat.reduceSub, Int.reduceToNat, reduceCtorEq, Int.reduceAdd, Int.reduceEq, Int.reduceLE, Int.reduceLT, Nat.reduceLT, Nat.reduceLeDiff, hRt, hmn, hsl, hln]
    refine ⟨fun h1 => ?_, fun h1 => absurd h1 (by omega)⟩
    refine' share (X := Unit) (fun _ => [(51, .v (.int .i64 t)), (50, .v (.int .i64 p.m)), (49, .s 1 0 0 p.m p.mc 3), (9, .v (.int .i64 ((p.n : Int) + nsl p (t + 1)))), (8, .p 5 0 0), (10, .v (.int .i64 t)), (13, .v (.int .i64 (sgn p t))), (12, .s 10 0 0 (p.R + 1) (p.R + 1) 1)])
      (fun _ => obP p ++ [oBx p] ++ nT p nc (t, cc, sc, bc) ++ [oI (p.R + 1) (p.R + 1) (fun j => sgn p t * rw0 p t j)]) (fun _ => True) ?_ ?_
    case refine'_4 =>
      intro hrest
      have hrest := hrest () trivial
      repeat (with_reducible refine And.intro (by omega) ?_)
      refine ⟨?_, ?_⟩
      · unfold srcOk
        split <;> simp [lenP, lenIs, ones, one1]
      repeat (with_reducible refine And.intro (by omega) ?_)
      refine ⟨fun k1 => ?_, fun k1 => ⟨fun k2 => ?_, fun k2 => ?_⟩⟩
      case' refine_1 =>
        have hrow : ∀ k, rw0 p t k = if k < p.n then p.a t k else if k = p.R then p.b t else if k = p.n + nsl p t then 1 else 0 := fun k => by rw [hr0 k]; simp [k1]
        rw [if_neg (by omega)] at hns1
        have hns2 : ((p.n : Int) + (nsl p (t + 1) : Nat)) = (p.n : Int) + (nsl p t : Nat) + 1 := by omega
      case' refine_2 =>
        have hrow : ∀ k, rw0 p t k = if k < p.n then p.a t k else if k = p.R then p.b t else if k = p.n + nsl p t then -1 else 0 := fun k => by rw [hr0 k]; simp [k2]
        rw [if_neg (by omega)] at hns1
        have hns2 : ((p.n : Int) + (nsl p (t + 1) : Nat)) = (p.n : Int) + (nsl p t : Nat) + 1 := by omega
      case' refine_3 =>
        have hrow : ∀ k, rw0 p t k = if k < p.n then p.a t k else if k = p.R then p.b t else 0 := fun k => by rw [hr0 k]; simp [k1, k2]
        rw [if_pos (by omega)] at hns1
        have hns2 : ((p.n : Int) + (nsl p (t + 1) : Nat)) = (p.n : Int) + (nsl p t : Nat) := by omega
      all_goals
        repeat (with_reducible refine And.intro (by omega) ?_)
        refine ⟨fun hb => ?_, fun hb => ?_⟩
        · have hsg : sgn p t = -1 := by unfold sgn; rw [if_pos hb]
          rw [hsg] at hrest
          refine tr_loop mixed (by kernel_rfl) (fun (j : Nat) => [(95, .v (.int .i64 j)), (94, .v (.int .i64 ((p.R : Int) + 1))), (51, .v (.int .i64 t)), (50, .v (.int .i64 p.m)), (49, .s 1 0 0 p.m p.mc 3), (9, .v (.int .i64 ((p.n : Int) + nsl p (t + 1)))), (8, .p 5 0 0), (10, .v (.int .i64 t)), (13, .v (.int .i64 (-1))), (12, .s 10 0 0 (p.R + 1) (p.R + 1) 1)])
            (fun j => obP p ++ [oBx p] ++ nT p nc (t, cc, sc, bc) ++ [oI (p.R + 1) (p.R + 1) (fun k => bif decide (k < j) then 0 - rw0 p t k else rw0 p t k)]) (fun j => j ≤ p.R + 1) (fun j => p.R + 1 - j) 0 (Nat.zero_le _) (Mt.wk (rl := [0, 1, 2, 3, 4, 5, 6, 7, 8, 9, 11]) ⟨by kernel_rfl, ?_, ?_⟩) ?_
          · simp only [push_cast, ↓branch_true, ↓branch_false, Nat.reduceBEq, Nat.reduceAdd, Nat.reduceMul, Nat.reduceSub, Int.reduceToNat, reduceCtorEq, Int.reduceAdd, Int.reduceEq, Int.reduceLE, Int.reduceLT, Nat.reduceLT, Nat.reduceLeDiff, hns2]
          · refine sxq ?_
            try with_reducible exact trivial
            intro i hi k hk
            obtain rfl : i = 0 := by omega
            refine ⟨congrArg (Value.int .i64) ?_, ?_⟩
            · simp only [hrow, Bool.cond_eq_ite]
              simp
              (repeat' split) <;> first | rfl | (exfalso; omega)
            · simp only [Bool.cond_self, mrg_nil]
              exact mt_nil
          intro j hj
          have hset := negR_set (rw0 p t) j
          refine sxq ?_
          try with_reducible exact trivial
          refine ⟨fun h3 => ?_, fun h3 => ?_⟩
          · have hjR : j < p.R + 1 := by omega
            have hat : (bif decide (j < j) then 0 - rw0 p t j else rw0 p t j) = rw0 p t j := by simp
            have hrb := rw0_le hp htm hjR
            repeat (with_reducible refine And.intro (by omega) ?_)
            rw [hat]
            repeat (with_reducible refine And.intro (by omega) ?_)
            refine lpK_normal (j + 1) [0, 1, 2, 3, 4, 5, 6, 7, 8, 9, 10] (by omega) (by omega) (by kernel_rfl) ?_ ?_
            · refine sxq ?_
              try with_reducible exact trivial
            · refine sxq ?_
              try with_reducible exact trivial
              intro i hi k hk
              obtain rfl : i = 0 := by omega
              refine ⟨congrArg (Value.int .i64) (hset k), ?_⟩
              simp only [Bool.cond_self, mrg_nil]
              exact mt_nil
          · obtain rfl : j = p.R + 1 := by omega
            refine tr_wk (Mt.wk (rl := [0, 1, 2, 3, 4, 5, 6, 7, 8, 9, 10]) ⟨by kernel_rfl, ?_, ?_⟩) hrest
            · refine sxq ?_
              try with_reducible exact trivial
            · refine sxq ?_
              try with_reducible exact trivial
              exact fun _ _ k hk => congrArg (Value.int .i64) (by rw [decide_eq_true hk]; simp)
        · have hsg : sgn p t = 1 := by unfold sgn; rw [if_neg hb]
          rw [hsg] at hrest
          refine tr_wk (Mt.wk (rl := [0, 1, 2, 3, 4, 5, 6, 7, 8, 9, 11]) ⟨by kernel_rfl, ?_, ?_⟩) hrest
          · simp only [push_cast, ↓branch_true, ↓branch_false, Nat.reduceBEq, Nat.reduceAdd, Nat.reduceMul, Nat.reduceSub, Int.reduceToNat, reduceCtorEq, Int.reduceAdd, Int.reduceEq, Int.reduceLE, Int.reduceLT, Nat.reduceLT, Nat.reduceLeDiff, hns2]
          · refine sxq ?_
            try with_reducible exact trivial
            intro i hi k hk
            obtain rfl : i = 0 := by omega
            refine ⟨congrArg (Value.int .i64) ?_, ?_⟩
            · simp only [hrow, Bool.cond_eq_ite]
              simp
              (repeat' split) <;> first | rfl | (exfalso; omega)
            · simp only [Bool.cond_self, mrg_nil]
              exact mt_nil
    intro _ _
    refine tr_ex mixed (by kernel_rfl) ?_
    have hcol := tA_col hp htm
    have hFt : ((p.F : Int) + (t : Nat)).toNat = p.F + t := by omega
    simp (config := { maxSteps := 4000000 }) only [push_cast, ↓branch_true, ↓branch_false, Nat.reduceBEq, Nat.reduceAdd, Nat.reduceMul, Nat.reduceSub, Int.reduceToNat, reduceCtorEq, Int.reduceAdd, Int.reduceEq, Int.reduceLE, Int.reduceLT, Nat.reduceLT, Nat.reduceLeDiff, hFt]
    repeat (with_reducible refine And.intro (by omega) ?_)
    refine ⟨Nat × Nat × Nat, fun x => [(115, .p 5 0 0), (116, .p 5 0 0), (117, .p 5 0 0), (124, .s 11 0 0 (t + 1) x.1 1), (131, .s 12 0 0 (t + 1) x.2.1 1), (143, .s 13 0 0 (t + 1) x.2.2 1), (51, .v (.int .i64 t)), (50, .v (.int .i64 p.m)), (49, .s 1 0 0 p.m p.mc 3), (9, .v (.int .i64 ((p.n : Int) + nsl p (t + 1)))), (8, .p 5 0 0)],
      fun x => obP p ++ [oBx p, oI p.n nc p.co, hollow, deadOb, oCf t (p.R + 1) (tA p), deadOb, deadOb, oI (p.R + 1) (p.R + 1) (tA p t), mixC t p.R x.1, oI (t + 1) x.2.1 (sgn p), oI (t + 1) x.2.2 (fun t => (p.F + t : Nat))],
      fun x => t + 1 ≤ x.1 ∧ t + 1 ≤ x.2.1 ∧ t + 1 ≤ x.2.2, ?_, ?_⟩
    · refine sxq ?_
      try with_reducible exact trivial
      (repeat' (first | (with_reducible apply And.intro) | omega | (refine Or.inr ⟨by omega, by omega, fun cap hcap => ?_⟩)))
      · rename_i c1 h1 c2 h2
        refine ⟨(c1, c2, cap), ⟨h1, h2, hcap⟩, Mt.wk (rl := [0, 1, 2, 3, 4, 5, 6, 7, 8, 9, 10, 12, 14, 16]) ⟨by kernel_rfl, ?_, ?_⟩⟩
        · refine sxq ?_
          try with_reducible exact trivial
        · simp only [push_cast, ↓branch_true, ↓branch_false, Nat.reduceBEq, Nat.reduceAdd, Nat.reduceMul, Nat.reduceSub, Int.reduceToNat, reduceCtorEq, Int.reduceAdd, Int.reduceEq, Int.reduceLE, Int.reduceLT, Nat.reduceLT, Nat.reduceLeDiff, hcol]
          refine ⟨lf1 _ _, fun i _ k hk => ?_, lf3 _, lf3 (fun k : Nat => (p.F : Int) + k)⟩
          rcases Nat.lt_or_ge k t with e | e
          · simp only [decide_eq_true e, cond_true]
            refine sxq ?_
            try with_reducible exact trivial
          · obtain rfl : k = t := by omega
            simp only [Nat.lt_irrefl, decide_false, cond_false]
            refine sxq ?_
            try with_reducible exact trivial
      · rename_i c1 h1 c2 h2
        refine ⟨(c1, c2, cap), ⟨h1, h2, hcap⟩, Mt.wk (rl := [0, 1, 2, 3, 4, 5, 6, 7, 8, 9, 10, 12, 15, 16]) ⟨by kernel_rfl, ?_, ?_⟩⟩
        · refine sxq ?_
          try with_reducible exact trivial
        · simp only [push_cast, ↓branch_true, ↓branch_false, Nat.reduceBEq, Nat.reduceAdd, Nat.reduceMul, Nat.reduceSub, Int.reduceToNat, reduceCtorEq, Int.reduceAdd, Int.reduceEq, Int.reduceLE, Int.reduceLT, Nat.reduceLT, Nat.reduceLeDiff, hcol]
          refine ⟨lf1 _ _, fun i _ k hk => ?_, lf3 _, lf3 (fun k : Nat => (p.F : Int) + k)⟩
          rcases Nat.lt_or_ge k t with e | e
          · simp only [decide_eq_true e, cond_true]
            refine sxq ?_
            try with_reducible exact trivial
          · obtain rfl : k = t := by omega
            simp only [Nat.lt_irrefl, decide_false, cond_false]
            refine sxq ?_
            try with_reducible exact trivial
      · rename_i c1 h1 c2 h2
        refine ⟨(c1, c2, cap), ⟨h1, h2, hcap⟩, Mt.wk (rl := [0, 1, 2, 3, 4, 5, 6, 7, 8, 9, 10, 12, 15, 16]) ⟨by kernel_rfl, ?_, ?_⟩⟩
        · refine sxq ?_
          try with_reducible exact trivial
        · simp only [push_cast, ↓branch_true, ↓branch_false, Nat.reduceBEq, Nat.reduceAdd, Nat.reduceMul, Nat.reduceSub, Int.reduceToNat, reduceCtorEq, Int.reduceAdd, Int.reduceEq, Int.reduceLE, Int.reduceLT, Nat.reduceLT, Nat.reduceLeDiff, hcol]
          refine ⟨lf1 _ _, fun i _ k hk => ?_, lf3 _, lf3 (fun k : Nat => (p.F : Int) + k)⟩
          rcases Nat.lt_or_ge k t with e | e
          · simp only [decide_eq_true e, cond_true]
            refine sxq ?_
            try with_reducible exact trivial
          · obtain rfl : k = t := by omega
            simp only [Nat.lt_irrefl, decide_false, cond_false]
            refine sxq ?_
            try with_reducible exact trivial
      · rename_i c1 h1 c2 h2
        refine ⟨(c1, c2, cap), ⟨h1, h2, hcap⟩, Mt.wk (rl := [0, 1, 2, 3, 4, 5, 6, 7, 8, 9, 10, 13, 14, 16]) ⟨by kernel_rfl, ?_, ?_⟩⟩
        · refine sxq ?_
          try with_reducible exact trivial
        · simp only [push_cast, ↓branch_true, ↓branch_false, Nat.reduceBEq, Nat.reduceAdd, Nat.reduceMul, Nat.reduceSub, Int.reduceToNat, reduceCtorEq, Int.reduceAdd, Int.reduceEq, Int.reduceLE, Int.reduceLT, Nat.reduceLT, Nat.reduceLeDiff, hcol]
          refine ⟨lf1 _ _, fun i _ k hk => ?_, lf3 _, lf3 (fun k : Nat => (p.F : Int) + k)⟩
          rcases Nat.lt_or_ge k t with e | e
          · simp only [decide_eq_true e, cond_true]
            refine sxq ?_
            try with_reducible exact trivial
          · obtain rfl : k = t := by omega
            simp only [Nat.lt_irrefl, decide_false, cond_false]
            refine sxq ?_
            try with_reducible exact trivial
      · rename_i c1 h1 c2 h2
        refine ⟨(c1, c2, cap), ⟨h1, h2, hcap⟩, Mt.wk (rl := [0, 1, 2, 3, 4, 5, 6, 7, 8, 9, 10, 13, 15, 16]) ⟨by kernel_rfl, ?_, ?_⟩⟩
        · refine sxq ?_
          try with_reducible exact trivial
        · simp only [push_cast, ↓branch_true, ↓branch_false, Nat.reduceBEq, Nat.reduceAdd, Nat.reduceMul, Nat.reduceSub, Int.reduceToNat, reduceCtorEq, Int.reduceAdd, Int.reduceEq, Int.reduceLE, Int.reduceLT, Nat.reduceLT, Nat.reduceLeDiff, hcol]
          refine ⟨lf1 _ _, fun i _ k hk => ?_, lf3 _, lf3 (fun k : Nat => (p.F : Int) + k)⟩
          rcases Nat.lt_or_ge k t with e | e
          · simp only [decide_eq_true e, cond_true]
            refine sxq ?_
            try with_reducible exact trivial
          · obtain rfl : k = t := by omega
            simp only [Nat.lt_irrefl, decide_false, cond_false]
            refine sxq ?_
            try with_reducible exact trivial
      · rename_i c1 h1 c2 h2
        refine ⟨(c1, c2, cap), ⟨h1, h2, hcap⟩, Mt.wk (rl := [0, 1, 2, 3, 4, 5, 6, 7, 8, 9, 10, 14, 15, 16]) ⟨by kernel_rfl, ?_, ?_⟩⟩
        · refine sxq ?_
          try with_reducible exact trivial
        · simp only [push_cast, ↓branch_true, ↓branch_false, Nat.reduceBEq, Nat.reduceAdd, Nat.reduceMul, Nat.reduceSub, Int.reduceToNat, reduceCtorEq, Int.reduceAdd, Int.reduceEq, Int.reduceLE, Int.reduceLT, Nat.reduceLT, Nat.reduceLeDiff, hcol]
          refine ⟨lf1 _ _, fun i _ k hk => ?_, lf3 _, lf3 (fun k : Nat => (p.F : Int) + k)⟩
          rcases Nat.lt_or_ge k t with e | e
          · simp only [decide_eq_true e, cond_true]
            refine sxq ?_
            try with_reducible exact trivial
          · obtain rfl : k = t := by omega
            simp only [Nat.lt_irrefl, decide_false, cond_false]
            refine sxq ?_
            try with_reducible exact trivial
      · rename_i c1 h1 c2 h2
        refine ⟨(c1, c2, cap), ⟨h1, h2, hcap⟩, Mt.wk (rl := [0, 1, 2, 3, 4, 5, 6, 7, 8, 9, 10, 13, 15, 16]) ⟨by kernel_rfl, ?_, ?_⟩⟩
        · refine sxq ?_
          try with_reducible exact trivial
        · simp only [push_cast, ↓branch_true, ↓branch_false, Nat.reduceBEq, Nat.reduceAdd, Nat.reduceMul, Nat.reduceSub, Int.reduceToNat, reduceCtorEq, Int.reduceAdd, Int.reduceEq, Int.reduceLE, Int.reduceLT, Nat.reduceLT, Nat.reduceLeDiff, hcol]
          refine ⟨lf1 _ _, fun i _ k hk => ?_, lf3 _, lf3 (fun k : Nat => (p.F : Int) + k)⟩
          rcases Nat.lt_or_ge k t with e | e
          · simp only [decide_eq_true e, cond_true]
            refine sxq ?_
            try with_reducible exact trivial
          · obtain rfl : k = t := by omega
            simp only [Nat.lt_irrefl, decide_false, cond_false]
            refine sxq ?_
            try with_reducible exact trivial
      · rename_i c1 h1 c2 h2
        refine ⟨(c1, c2, cap), ⟨h1, h2, hcap⟩, Mt.wk (rl := [0, 1, 2, 3, 4, 5, 6, 7, 8, 9, 10, 14, 15, 16]) ⟨by kernel_rfl, ?_, ?_⟩⟩
        · refine sxq ?_
          try with_reducible exact trivial
        · simp only [push_cast, ↓branch_true, ↓branch_false, Nat.reduceBEq, Nat.reduceAdd, Nat.reduceMul, Nat.reduceSub, Int.reduceToNat, reduceCtorEq, Int.reduceAdd, Int.reduceEq, Int.reduceLE, Int.reduceLT, Nat.reduceLT, Nat.reduceLeDiff, hcol]
          refine ⟨lf1 _ _, fun i _ k hk => ?_, lf3 _, lf3 (fun k : Nat => (p.F : Int) + k)⟩
          rcases Nat.lt_or_ge k t with e | e
          · simp only [decide_eq_true e, cond_true]
            refine sxq ?_
            try with_reducible exact trivial
          · obtain rfl : k = t := by omega
            simp only [Nat.lt_irrefl, decide_false, cond_false]
            refine sxq ?_
            try with_reducible exact trivial
      · rename_i c1 h1 c2 h2
        refine ⟨(c1, c2, cap), ⟨h1, h2, hcap⟩, Mt.wk (rl := [0, 1, 2, 3, 4, 5, 6, 7, 8, 9, 10, 13, 14, 16]) ⟨by kernel_rfl, ?_, ?_⟩⟩
        · refine sxq ?_
          try with_reducible exact trivial
        · simp only [push_cast, ↓branch_true, ↓branch_false, Nat.reduceBEq, Nat.reduceAdd, Nat.reduceMul, Nat.reduceSub, Int.reduceToNat, reduceCtorEq, Int.reduceAdd, Int.reduceEq, Int.reduceLE, Int.reduceLT, Nat.reduceLT, Nat.reduceLeDiff, hcol]
          refine ⟨lf1 _ _, fun i _ k hk => ?_, lf3 _, lf3 (fun k : Nat => (p.F : Int) + k)⟩
          rcases Nat.lt_or_ge k t with e | e
          · simp only [decide_eq_true e, cond_true]
            refine sxq ?_
            try with_reducible exact trivial
          · obtain rfl : k = t := by omega
            simp only [Nat.lt_irrefl, decide_false, cond_false]
            refine sxq ?_
            try with_reducible exact trivial
      · rename_i c1 h1 c2 h2
        refine ⟨(c1, c2, cap), ⟨h1, h2, hcap⟩, Mt.wk (rl := [0, 1, 2, 3, 4, 5, 6, 7, 8, 9, 10, 13, 15, 16]) ⟨by kernel_rfl, ?_, ?_⟩⟩
        · refine sxq ?_
          try with_reducible exact trivial
        · simp only [push_cast, ↓branch_true, ↓branch_false, Nat.reduceBEq, Nat.reduceAdd, Nat.reduceMul, Nat.reduceSub, Int.reduceToNat, reduceCtorEq, Int.reduceAdd, Int.reduceEq, Int.reduceLE, Int.reduceLT, Nat.reduceLT, Nat.reduceLeDiff, hcol]
          refine ⟨lf1 _ _, fun i _ k hk => ?_, lf3 _, lf3 (fun k : Nat => (p.F : Int) + k)⟩
          rcases Nat.lt_or_ge k t with e | e
          · simp only [decide_eq_true e, cond_true]
            refine sxq ?_
            try with_reducible exact trivial
          · obtain rfl : k = t := by omega
            simp only [Nat.lt_irrefl, decide_false, cond_false]
            refine sxq ?_
            try with_reducible exact trivial
      · rename_i c1 h1 c2 h2
        refine ⟨(c1, c2, cap), ⟨h1, h2, hcap⟩, Mt.wk (rl := [0, 1, 2, 3, 4, 5, 6, 7, 8, 9, 10, 14, 15, 16]) ⟨by kernel_rfl, ?_, ?_⟩⟩
        · refine sxq ?_
          try with_reducible exact trivial
        · simp only [push_cast, ↓branch_true, ↓branch_false, Nat.reduceBEq, Nat.reduceAdd, Nat.reduceMul, Nat.reduceSub, Int.reduceToNat, reduceCtorEq, Int.reduceAdd, Int.reduceEq, Int.reduceLE, Int.reduceLT, Nat.reduceLT, Nat.reduceLeDiff, hcol]
          refine ⟨lf1 _ _, fun i _ k hk => ?_, lf3 _, lf3 (fun k : Nat => (p.F : Int) + k)⟩
          rcases Nat.lt_or_ge k t with e | e
          · simp only [decide_eq_true e, cond_true]
            refine sxq ?_
            try with_reducible exact trivial
          · obtain rfl : k = t := by omega
            simp only [Nat.lt_irrefl, decide_false, cond_false]
            refine sxq ?_
            try with_reducible exact trivial
      · rename_i c1 h1 c2 h2
        refine ⟨(c1, c2, cap), ⟨h1, h2, hcap⟩, Mt.wk (rl := [0, 1, 2, 3, 4, 5, 6, 7, 8, 9, 10, 14, 15, 16]) ⟨by kernel_rfl, ?_, ?_⟩⟩
        · refine sxq ?_
          try with_reducible exact trivial
        · simp only [push_cast, ↓branch_true, ↓branch_false, Nat.reduceBEq, Nat.reduceAdd, Nat.reduceMul, Nat.reduceSub, Int.reduceToNat, reduceCtorEq, Int.reduceAdd, Int.reduceEq, Int.reduceLE, Int.reduceLT, Nat.reduceLT, Nat.reduceLeDiff, hcol]
          refine ⟨lf1 _ _, fun i _ k hk => ?_, lf3 _, lf3 (fun k : Nat => (p.F : Int) + k)⟩
          rcases Nat.lt_or_ge k t with e | e
          · simp only [decide_eq_true e, cond_true]
            refine sxq ?_
            try with_reducible exact trivial
          · obtain rfl : k = t := by omega
            simp only [Nat.lt_irrefl, decide_false, cond_false]
            refine sxq ?_
            try with_reducible exact trivial
      · rename_i c1 h1 c2 h2
        refine ⟨(c1, c2, cap), ⟨h1, h2, hcap⟩, Mt.wk (rl := [0, 1, 2, 3, 4, 5, 6, 7, 8, 9, 10, 13, 15, 16]) ⟨by kernel_rfl, ?_, ?_⟩⟩
        · refine sxq ?_
          try with_reducible exact trivial
        · simp only [push_cast, ↓branch_true, ↓branch_false, Nat.reduceBEq, Nat.reduceAdd, Nat.reduceMul, Nat.reduceSub, Int.reduceToNat, reduceCtorEq, Int.reduceAdd, Int.reduceEq, Int.reduceLE, Int.reduceLT, Nat.reduceLT, Nat.reduceLeDiff, hcol]
          refine ⟨lf1 _ _, fun i _ k hk => ?_, lf3 _, lf3 (fun k : Nat => (p.F : Int) + k)⟩
          rcases Nat.lt_or_ge k t with e | e
          · simp only [decide_eq_true e, cond_true]
            refine sxq ?_
            try with_reducible exact trivial
          · obtain rfl : k = t := by omega
            simp only [Nat.lt_irrefl, decide_false, cond_false]
            refine sxq ?_
            try with_reducible exact trivial
      · rename_i c1 h1 c2 h2
        refine ⟨(c1, c2, cap), ⟨h1, h2, hcap⟩, Mt.wk (rl := [0, 1, 2, 3, 4, 5, 6, 7, 8, 9, 10, 14, 15, 16]) ⟨by kernel_rfl, ?_, ?_⟩⟩
        · refine sxq ?_
          try with_reducible exact trivial
        · simp only [push_cast, ↓branch_true, ↓branch_false, Nat.reduceBEq, Nat.reduceAdd, Nat.reduceMul, Nat.reduceSub, Int.reduceToNat, reduceCtorEq, Int.reduceAdd, Int.reduceEq, Int.reduceLE, Int.reduceLT, Nat.reduceLT, Nat.reduceLeDiff, hcol]
          refine ⟨lf1 _ _, fun i _ k hk => ?_, lf3 _, lf3 (fun k : Nat => (p.F : Int) + k)⟩
          rcases Nat.lt_or_ge k t with e | e
          · simp only [decide_eq_true e, cond_true]
            refine sxq ?_
            try with_reducible exact trivial
          · obtain rfl : k = t := by omega
            simp only [Nat.lt_irrefl, decide_false, cond_false]
            refine sxq ?_
            try with_reducible exact trivial
      · rename_i c1 h1 c2 h2
        refine ⟨(c1, c2, cap), ⟨h1, h2, hcap⟩, Mt.wk (rl := [0, 1, 2, 3, 4, 5, 6, 7, 8, 9, 10, 14, 15, 16]) ⟨by kernel_rfl, ?_, ?_⟩⟩
        · refine sxq ?_
          try with_reducible exact trivial
        · simp only [push_cast, ↓branch_true, ↓branch_false, Nat.reduceBEq, Nat.reduceAdd, Nat.reduceMul, Nat.reduceSub, Int.reduceToNat, reduceCtorEq, Int.reduceAdd, Int.reduceEq, Int.reduceLE, Int.reduceLT, Nat.reduceLT, Nat.reduceLeDiff, hcol]
          refine ⟨lf1 _ _, fun i _ k hk => ?_, lf3 _, lf3 (fun k : Nat => (p.F : Int) + k)⟩
          rcases Nat.lt_or_ge k t with e | e
          · simp only [decide_eq_true e, cond_true]
            refine sxq ?_
            try with_reducible exact trivial
          · obtain rfl : k = t := by omega
            simp only [Nat.lt_irrefl, decide_false, cond_false]
            refine sxq ?_
            try with_reducible exact trivial
    · rintro ⟨c1, c2, c3⟩ ⟨h1, h2, h3⟩
      simp only at h1 h2 h3
      refine sxq ?_
      try with_reducible exact trivial
      repeat (with_reducible refine And.intro (by omega) ?_)
      refine lpK_wk (t + 1, c1, c2, c3) ⟨by simp only; omega, h1, h2, h3⟩ (by simp only; omega) ((swk_join 7 10 (by omega) (by omega) ?_).trans (Mt.wk (rl := [0, 1, 2, 3, 4, 5, 11, 7, 12, 13]) ⟨by kernel_rfl, ?_, ?_⟩))
      · refine sxq ?_
        try with_reducible exact trivial
        try trivial
      · refine sxq ?_
        try with_reducible exact trivial
        try trivial
      · refine sxq ?_
        try with_reducible exact trivial
        refine ⟨fun i _ k hk => ?_, fun i hi => ⟨by cases i == t <;> exact Nat.le_refl _, by cases i == t <;> rfl, fun k _ => ?_⟩⟩
        · rcases Nat.lt_or_ge k t with e | e
          · simp only [decide_eq_true e, cond_true]
            refine sxq ?_
            try with_reducible exact trivial
            try trivial
          · obtain rfl : k = t := by omega
            simp only [Nat.lt_irrefl, decide_false, cond_false]
            refine sxq ?_
            try with_reducible exact trivial
            try trivial
        · cases e : i == t with
          | true =>
            obtain rfl : i = t := by simpa using e
            simp only [cond_true]
            refine sxq ?_
            try with_reducible exact trivial
            try trivial
          | false =>
            simp only [cond_false]
            refine sxq ?_
            try with_reducible exact trivial
            try trivial
  · obtain rfl : t = p.m := by omega
    refine sxq ?_
    try with_reducible exact trivial
    refine ⟨fun h1 => absurd h1 (by omega), fun h1 => ?_⟩
    refine ⟨_, _, [0, 1, 2, 5, 6, 7, 9, 8, 4], ?_, by kernel_rfl, ?_, cc, bc, sc, nc, rfl, rfl⟩
    · refine sxq ?_
      try with_reducible exact trivial
    · refine sxq ?_
      try with_reducible exact trivial
      exact ⟨rfl, fun _ _ _ _ => ⟨rfl, rfl⟩, fun _ _ => ⟨Nat.le_refl _, rfl⟩⟩
end Go.Proofs.YtdeaaonppokgkaaGreat
