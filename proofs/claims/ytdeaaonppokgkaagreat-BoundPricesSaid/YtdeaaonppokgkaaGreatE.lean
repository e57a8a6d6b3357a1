/- Contract: a step of the simplex method. -/
import Derived.Test.YtdeaaonppokgkaaGreatD
import Derived.Test.YtdeaaonppokgkaaGreatPE
set_option maxRecDepth 100000
set_option linter.unusedSimpArgs false
set_option linter.unusedVariables false
namespace Go.Proofs.YtdeaaonppokgkaaGreat
open Go.RowKit Lp
def oI (n cap : Nat) (f : Nat → Int) : Ob := ⟨3, false, .row 1 1 (fun _ => n) (fun _ => cap) (fun _ k => [.v (.int .i64 (f k))])⟩
def oCl (F m W cc : Nat) : Ob := ⟨32, false, .row 1 1 (fun _ => m) (fun _ => cc) (fun _ k => [.s F k 0 W W 1])⟩
def oCf (m W : Nat) (T : Nat → Nat → Int) : Ob := ⟨3, false, .row 1 m (fun _ => W) (fun _ => W) (fun i k => [.v (.int .i64 (T i k))])⟩
/-- What a table has besides its numbers. -/
structure Fm where
  m : Nat
  n : Nat
  F : Nat
  cc : Nat
  bc : Nat
  sc : Nat
  nc : Nat
  sg : Nat → Int
  co : Nat → Int
def Fm.R (q : Fm) : Nat := q.F + q.m
def oTb (q : Fm) (d : Int) : Ob := ⟨103, false, .st [.s 1 0 0 q.m q.cc 1, .v (.int .i64 d), .s 3 0 0 q.m q.bc 1, .s 4 0 0 q.m q.sc 1, .s 5 0 0 q.n q.nc 1, .v (.int .i64 (q.F : Nat)), .v (.int .i64 (q.R : Nat))]⟩
def tbO (q : Fm) (d : Int) (T : Nat → Nat → Int) (b : Nat → Nat) : List Ob := [oTb q d, oCl 2 q.m (q.R + 1) q.cc, oCf q.m (q.R + 1) T, oI q.m q.bc (fun k => (b k : Nat)), oI q.m q.sc q.sg, oI q.n q.nc q.co]
attribute [push_cast] oI oCl oCf oTb tbO
/-- A step, without its sign. -/
def hp (s : Tabl) (r e i j : Nat) : Int := if i = r then s.T r j else (s.T i j * s.T r e - s.T i e * s.T r j) / s.d
def cf1 (s : Tabl) (r e i j a k : Nat) : Int := bif decide (a < i) || (a == i && decide (k < j)) then hp s r e a k else s.T a k
def cf2 (g : Nat → Nat → Int) (i j a k : Nat) : Int := bif decide (a < i) || (a == i && decide (k < j)) then - g a k else g a k
structure Piv (q : Fm) (s : Tabl) (r e : Nat) : Prop where
  hr : r < q.m
  he : e < q.R + 1
  d0 : 0 < s.d
  d1 : s.d ≤ 4611686018427387904
  ne : s.T r e ≠ 0
  T : ∀ i j, i < q.m → j < q.R + 1 → (s.T i j).natAbs ≤ 4611686018427387904
  h : ∀ i j, i < q.m → j < q.R + 1 → (hp s r e i j).natAbs ≤ 4611686018427387904
  dvd : ∀ i j, i < q.m → j < q.R + 1 → i ≠ r → s.d ∣ s.T i j * s.T r e - s.T i e * s.T r j
theorem cf1_at (s : Tabl) (r e i j : Nat) : cf1 s r e i j i j = s.T i j := by simp [cf1]
theorem cf1_col (s : Tabl) (r e i k : Nat) : cf1 s r e i 0 i k = s.T i k := by simp [cf1]
theorem cf1_row (s : Tabl) (r e i j k : Nat) : cf1 s r e i j r k = s.T r k := by
  unfold cf1 hp
  rw [if_pos rfl, Bool.cond_self]
theorem cf1_zero (s : Tabl) (r e a k : Nat) : cf1 s r e 0 0 a k = s.T a k := by simp [cf1]
theorem cf1_skip (s : Tabl) (r e a k : Nat) : cf1 s r e r 0 a k = cf1 s r e (r + 1) 0 a k := by
  by_cases h : a = r
  · subst h
    rw [cf1_row, cf1_row]
  · unfold cf1
    rw [show decide (a < r + 1) = decide (a < r) by rw [decide_eq_decide]; omega]
    simp
theorem cf1_done (s : Tabl) {r e i N a k : Nat} (hk : k < N) : cf1 s r e i N a k = cf1 s r e (i + 1) 0 a k := by
  unfold cf1
  rw [show (decide (a < i) || (a == i && decide (k < N))) = (decide (a < i + 1) || (a == i + 1 && decide (k < 0))) by
    rw [Bool.eq_iff_iff]; simp; omega]
theorem cf1_set (s : Tabl) (r e i j a k : Nat) : (bif a == i && k == j then hp s r e i j else cf1 s r e i j a k) = cf1 s r e i (j + 1) a k := by
  unfold cf1
  by_cases h : a = i <;> by_cases h2 : k = j
  · subst h h2; simp
  · subst h; simp only [beq_self_eq_true, Bool.true_and, beq_eq_false_iff_ne.2 h2, cond_false]; rw [show decide (k < j + 1) = decide (k < j) by rw [decide_eq_decide]; omega]
  · simp only [beq_eq_false_iff_ne.2 h, Bool.false_and, cond_false]
  · simp only [beq_eq_false_iff_ne.2 h, Bool.false_and, cond_false]
theorem cf1_all (s : Tabl) {r e m a k : Nat} (h : a < m) : cf1 s r e m 0 a k = hp s r e a k := by simp [cf1, h]
theorem cf2_zero (g : Nat → Nat → Int) (a k : Nat) : cf2 g 0 0 a k = g a k := by simp [cf2]
theorem cf2_at (g : Nat → Nat → Int) (i j : Nat) : cf2 g i j i j = g i j := by simp [cf2]
theorem cf2_done (g : Nat → Nat → Int) {i N a k : Nat} (hk : k < N) : cf2 g i N a k = cf2 g (i + 1) 0 a k := by
  unfold cf2
  rw [show (decide (a < i) || (a == i && decide (k < N))) = (decide (a < i + 1) || (a == i + 1 && decide (k < 0))) by
    rw [Bool.eq_iff_iff]; simp; omega]
theorem cf2_all (g : Nat → Nat → Int) {m a k : Nat} (h : a < m) : cf2 g m 0 a k = - g a k := by simp [cf2, h]
theorem cf2_set (g : Nat → Nat → Int) (i j a k : Nat) : (bif a == i && k == j then 0 - g i j else cf2 g i j a k) = cf2 g i (j + 1) a k := by
  unfold cf2
  by_cases h : a = i <;> by_cases h2 : k = j
  · subst h h2; simp
  · subst h; simp only [beq_self_eq_true, Bool.true_and, beq_eq_false_iff_ne.2 h2, cond_false]; rw [show decide (k < j + 1) = decide (k < j) by rw [decide_eq_decide]; omega]
  · simp only [beq_eq_false_iff_ne.2 h, Bool.false_and, cond_false]
  · simp only [beq_eq_false_iff_ne.2 h, Bool.false_and, cond_false]
theorem mt_cond {rl : List Nat} {b : Bool} : mtL rl [] (bif b then [] else []) := by cases b <;> exact (by (simp only [push_cast, ↓branch_true, ↓branch_false, Nat.reduceBEq, Nat.reduceAdd, Nat.reduceMul, Nat.reduceSub, Int.reduceToNat, reduceCtorEq, Int.reduceAdd, Int.reduceEq, Int.reduceLE, Int.reduceLT, Nat.reduceLT, Nat.reduceLeDiff]))
theorem piv_dn {s : Tabl} {r e : Nat} (h : s.T r e < 0) : (pivT s r e).d = 0 - s.T r e := by
  unfold pivT
  simp only [h, if_true]; omega
theorem piv_dp {s : Tabl} {r e : Nat} (h : ¬ s.T r e < 0) : (pivT s r e).d = s.T r e := by
  unfold pivT
  simp only [h, if_false]; omega
theorem piv_tn {s : Tabl} {r e a k : Nat} (h : s.T r e < 0) : (pivT s r e).T a k = - hp s r e a k := by
  unfold pivT hp
  simp only [h, if_true]
  split <;> omega
theorem piv_tp {s : Tabl} {r e a k : Nat} (h : ¬ s.T r e < 0) : (pivT s r e).T a k = hp s r e a k := by
  unfold pivT hp
  simp only [h, if_false]
  split <;> omega
theorem piv_up (s : Tabl) (r e : Nat) {m : Nat} {rl : List Nat} : ∀ (i : Nat), i < 1 → ∀ (k : Nat), k < m → Value.int IntKind.i64 ↑((pivT s r e).b k) = Value.int IntKind.i64 (bif i == 0 && k == r then (e : Int) else ↑(s.b k)) ∧ mtL rl [] (bif i == 0 && k == r then [] else []) := fun i hi k _ => by
  obtain rfl : i = 0 := by omega
  refine ⟨congrArg (Value.int .i64) ?_, mt_cond⟩
  show ((up s.b r e k : Nat) : Int) = _
  unfold up
  by_cases h : k = r
  · subst h; simp
  · simp [h, beq_eq_false_iff_ne.2 h]
theorem over_i (z d : Int) (hd : 0 < d ∧ d ≤ 9223372036854775807) (hf : z.natAbs / d.natAbs < 9223372036854775808) : Pu Tryz.prog 107 [pr z, .v (.int .i64 d)] [] (.v (.int .i64 (z.tdiv d))) := by
  obtain ⟨D, rfl⟩ : ∃ D : Nat, d = D := ⟨d.toNat, by omega⟩
  exact over_pu z D (by omega) (by simpa using hf)
theorem mul_le (a b : Int) (ha : a.natAbs ≤ 4611686018427387904) (hb : b.natAbs ≤ 4611686018427387904) : (a * b).natAbs ≤ 21267647932558653966460912964485513216 := by
  rw [Int.natAbs_mul]
  exact Nat.le_trans (Nat.mul_le_mul ha hb) (by decide)
set_option maxHeartbeats 8000000 in
theorem pivot_sp (q : Fm) (s : Tabl) (r e : Nat) (hP : Piv q s r e) (hm : q.m ≤ 1000) (hR : q.R ≤ 1000) : Sp Tryz.prog 92 [.p 0 0 0, .v (.int .i64 (r : Nat)), .v (.int .i64 (e : Nat))] (tbO q s.d s.T s.b)
    (fun r0 H => r0 = .t [] ∧ H = tbO q (pivT s r e).d (pivT s r e).T (pivT s r e).b) := by
  refine sp_weak ?_
  have hr := hP.hr
  have he := hP.he
  refine sp_of_ex true [] mixed Tryz.call92 Tryz.func92 rfl Tryz.ntmps92 Tryz.results92 (by decide +kernel) rfl ?_
  refine sxq ?_
  try with_reducible exact trivial
  repeat (with_reducible refine And.intro (by omega) ?_)
  refine tr_loop mixed (by kernel_rfl) (fun (i : Nat) => [(29, .v (.int .i64 i)), (28, .v (.int .i64 q.m)), (27, .s 1 0 0 q.m q.cc 1), (6, .v (.int .i64 (s.T r e))), (0, .p 0 0 0), (1, .v (.int .i64 r)), (2, .v (.int .i64 e))])
    (fun i => tbO q s.d (fun a k => cf1 s r e i 0 a k) s.b) (fun i => i ≤ q.m) (fun i => q.m - i) 0 (Nat.zero_le _) (Mt.wk (rl := [0, 1, 2, 3, 4, 5]) ⟨by kernel_rfl, ?_, ?_⟩) ?_
  · refine sxq ?_
    try with_reducible exact trivial
    try trivial
  · simp only [push_cast, ↓branch_true, ↓branch_false, Nat.reduceBEq, Nat.reduceAdd, Nat.reduceMul, Nat.reduceSub, Int.reduceToNat, reduceCtorEq, Int.reduceAdd, Int.reduceEq, Int.reduceLE, Int.reduceLT, Nat.reduceLT, Nat.reduceLeDiff, cf1_zero]
  intro i hi
  refine sxq ?_
  try with_reducible exact trivial
  refine ⟨fun h1 => ?_, fun h1 => ?_⟩
  · repeat (with_reducible refine And.intro (by omega) ?_)
    refine ⟨fun h2 => ?_, fun h2 => ?_⟩
    · obtain rfl : i = r := by omega
      repeat (with_reducible refine And.intro (by omega) ?_)
      refine lpK_normal (i + 1) [0, 1, 2, 3, 4, 5] (by omega) (by omega) (by kernel_rfl) ?_ ?_
      · refine sxq ?_
        try with_reducible exact trivial
      · simp only [push_cast, ↓branch_true, ↓branch_false, Nat.reduceBEq, Nat.reduceAdd, Nat.reduceMul, Nat.reduceSub, Int.reduceToNat, reduceCtorEq, Int.reduceAdd, Int.reduceEq, Int.reduceLE, Int.reduceLT, Nat.reduceLT, Nat.reduceLeDiff, cf1_skip]
    · repeat (with_reducible refine And.intro (by omega) ?_)
      refine tr_loop mixed (by kernel_rfl) (fun (j : Nat) => [(43, .v (.int .i64 j)), (42, .v (.int .i64 ((q.R : Int) + 1))), (8, .s 2 i 0 (q.R + 1) (q.R + 1) 1), (9, .v (.int .i64 (s.T i e))), (29, .v (.int .i64 i)), (28, .v (.int .i64 q.m)), (27, .s 1 0 0 q.m q.cc 1), (6, .v (.int .i64 (s.T r e))), (0, .p 0 0 0), (1, .v (.int .i64 r)), (2, .v (.int .i64 e))])
        (fun j => tbO q s.d (fun a k => cf1 s r e i j a k) s.b) (fun j => j ≤ q.R + 1) (fun j => q.R + 1 - j) 0 (Nat.zero_le _) (Mt.wk (rl := [0, 1, 2, 3, 4, 5]) ⟨by kernel_rfl, ?_, ?_⟩) ?_
      · simp only [push_cast, ↓branch_true, ↓branch_false, Nat.reduceBEq, Nat.reduceAdd, Nat.reduceMul, Nat.reduceSub, Int.reduceToNat, reduceCtorEq, Int.reduceAdd, Int.reduceEq, Int.reduceLE, Int.reduceLT, Nat.reduceLT, Nat.reduceLeDiff, cf1_col]
      · refine sxq ?_
        try with_reducible exact trivial
      intro j hj
      refine sxq ?_
      try with_reducible exact trivial
      refine ⟨fun h3 => ?_, fun h3 => ?_⟩
      · have hset := cf1_set s r e i j
        have hj' : j < q.R + 1 := by omega
        have hat := cf1_at s r e i j
        have hrow := cf1_row s r e i j j
        have b1 := hP.T i j (by omega) hj'
        have b2 := hP.T r e hr he
        have b3 := hP.T i e (by omega) he
        have b4 := hP.T r j hr hj'
        have b5 := hP.h i j (by omega) hj'
        have b6 := hP.dvd i j (by omega) hj' (by omega)
        have hv : hp s r e i j = (s.T i j * s.T r e - s.T i e * s.T r j).tdiv s.d := by
          rw [hp, if_neg (by omega), Int.tdiv_eq_ediv_of_dvd b6]
        have c1 := mul_le (s.T i j) (s.T r e) b1 b2
        have c2 := mul_le (s.T i e) (s.T r j) b3 b4
        have hover := over_i (s.T i j * s.T r e - s.T i e * s.T r j) s.d ⟨hP.d0, by have := hP.d1; omega⟩ (by
          have := Int.natAbs_tdiv (s.T i j * s.T r e - s.T i e * s.T r j) s.d
          rw [← hv] at this
          exact Nat.lt_of_le_of_lt (Nat.le_of_eq this.symm) (by omega))
        rw [← hv] at hover
        have hmin := minus_pu (s.T i j * s.T r e) (s.T i e * s.T r j) (by omega) (by omega) (by omega)
        repeat (with_reducible refine And.intro (by omega) ?_)
        rw [hat]
        refine qc_c (times_pu (s.T i j) (s.T r e) (by omega) (by omega)) rfl [] ?_
        refine sxq ?_
        try with_reducible exact trivial
        repeat (with_reducible refine And.intro (by omega) ?_)
        rw [hrow]
        refine qc_c (times_pu (s.T i e) (s.T r j) (by omega) (by omega)) rfl [] ?_
        refine sxq ?_
        try with_reducible exact trivial
        refine qc_c (hmin) rfl [] ?_
        refine sxq ?_
        try with_reducible exact trivial
        repeat (with_reducible refine And.intro (by omega) ?_)
        refine qc_c (hover) rfl [] ?_
        refine sxq ?_
        try with_reducible exact trivial
        repeat (with_reducible refine And.intro (by omega) ?_)
        refine lpK_normal (j + 1) [0, 1, 2, 3, 4, 5] (by omega) (by omega) (by kernel_rfl) ?_ ?_
        · refine sxq ?_
          try with_reducible exact trivial
        · simp only [push_cast, ↓branch_true, ↓branch_false, Nat.reduceBEq, Nat.reduceAdd, Nat.reduceMul, Nat.reduceSub, Int.reduceToNat, reduceCtorEq, Int.reduceAdd, Int.reduceEq, Int.reduceLE, Int.reduceLT, Nat.reduceLT, Nat.reduceLeDiff, hset]
          exact fun _ _ _ _ => mt_cond
      · obtain rfl : j = q.R + 1 := by omega
        repeat (with_reducible refine And.intro (by omega) ?_)
        refine lpK_normal (i + 1) [0, 1, 2, 3, 4, 5] (by omega) (by omega) (by kernel_rfl) ?_ ?_
        · refine sxq ?_
          try with_reducible exact trivial
        · refine sxq ?_
          try with_reducible exact trivial
          exact fun _ _ _ hk => congrArg (Value.int .i64) (cf1_done s hk).symm
  obtain rfl : i = q.m := by omega
  repeat (with_reducible refine And.intro (by omega) ?_)
  have hG : ∀ a k, a < q.m → k < q.R + 1 → (cf1 s r e q.m 0 a k).natAbs ≤ 4611686018427387904 := fun a k ha hk => by
    have := hP.h a k ha hk
    rw [cf1_all s ha]; exact this
  have hGe : ∀ a k, a < q.m → cf1 s r e q.m 0 a k = hp s r e a k := fun a k ha => cf1_all s ha
  have b2 := hP.T r e hr he
  generalize cf1 s r e q.m 0 = G at *
  refine ⟨fun h2 => ?_, fun h2 => ?_⟩
  · repeat (with_reducible refine And.intro (by omega) ?_)
    refine tr_loop mixed (by kernel_rfl) (fun (a : Nat) => [(98, .v (.int .i64 a)), (97, .v (.int .i64 q.m)), (96, .s 1 0 0 q.m q.cc 1)])
      (fun a => tbO q (pivT s r e).d (fun i j => cf2 G a 0 i j) (pivT s r e).b) (fun a => a ≤ q.m) (fun a => q.m - a) 0 (Nat.zero_le _) (Mt.wk (rl := [0, 1, 2, 3, 4, 5]) ⟨by kernel_rfl, ?_, ?_⟩) ?_
    · refine sxq ?_
      try with_reducible exact trivial
    · simp only [push_cast, ↓branch_true, ↓branch_false, Nat.reduceBEq, Nat.reduceAdd, Nat.reduceMul, Nat.reduceSub, Int.reduceToNat, reduceCtorEq, Int.reduceAdd, Int.reduceEq, Int.reduceLE, Int.reduceLT, Nat.reduceLT, Nat.reduceLeDiff, cf2_zero]
      exact ⟨congrArg (Value.int .i64) (piv_dn h2), piv_up s r e⟩
    intro a ha
    refine sxq ?_
    try with_reducible exact trivial
    refine ⟨fun h3 => ?_, fun h3 => ?_⟩
    · repeat (with_reducible refine And.intro (by omega) ?_)
      refine tr_loop mixed (by kernel_rfl) (fun (j : Nat) => [(104, .v (.int .i64 j)), (103, .v (.int .i64 ((q.R : Int) + 1))), (12, .s 2 a 0 (q.R + 1) (q.R + 1) 1), (98, .v (.int .i64 a)), (97, .v (.int .i64 q.m)), (96, .s 1 0 0 q.m q.cc 1)])
        (fun j => tbO q (pivT s r e).d (fun i k => cf2 G a j i k) (pivT s r e).b) (fun j => j ≤ q.R + 1) (fun j => q.R + 1 - j) 0 (Nat.zero_le _) (Mt.wk (rl := [0, 1, 2, 3, 4, 5]) ⟨by kernel_rfl, ?_, ?_⟩) ?_
      · refine sxq ?_
        try with_reducible exact trivial
      · refine sxq ?_
        try with_reducible exact trivial
      intro j hj
      have hset := cf2_set G a j
      have hat := cf2_at G a j
      refine sxq ?_
      try with_reducible exact trivial
      refine ⟨fun h4 => ?_, fun h4 => ?_⟩
      · have hj' : j < q.R + 1 := by omega
        have b1 := hG a j (by omega) hj'
        repeat (with_reducible refine And.intro (by omega) ?_)
        rw [hat]
        repeat (with_reducible refine And.intro (by omega) ?_)
        refine lpK_normal (j + 1) [0, 1, 2, 3, 4, 5] (by omega) (by omega) (by kernel_rfl) ?_ ?_
        · refine sxq ?_
          try with_reducible exact trivial
        · simp only [push_cast, ↓branch_true, ↓branch_false, Nat.reduceBEq, Nat.reduceAdd, Nat.reduceMul, Nat.reduceSub, Int.reduceToNat, reduceCtorEq, Int.reduceAdd, Int.reduceEq, Int.reduceLE, Int.reduceLT, Nat.reduceLT, Nat.reduceLeDiff, hset]
          exact fun _ _ _ _ => mt_cond
      · obtain rfl : j = q.R + 1 := by omega
        repeat (with_reducible refine And.intro (by omega) ?_)
        refine lpK_normal (a + 1) [0, 1, 2, 3, 4, 5] (by omega) (by omega) (by kernel_rfl) ?_ ?_
        · refine sxq ?_
          try with_reducible exact trivial
        · refine sxq ?_
          try with_reducible exact trivial
          exact fun _ _ _ hk => congrArg (Value.int .i64) (cf2_done G hk).symm
    · obtain rfl : a = q.m := by omega
      repeat (with_reducible refine And.intro (by omega) ?_)
      refine ⟨_, _, [0, 1, 2, 3, 4, 5], ?_, by kernel_rfl, ?_, rfl, rfl⟩
      · refine sxq ?_
        try with_reducible exact trivial
      · refine sxq ?_
        try with_reducible exact trivial
        exact fun a ha k _ => congrArg (Value.int .i64) (by rw [cf2_all G ha, hGe a k ha, piv_tn h2])
  · repeat (with_reducible refine And.intro (by omega) ?_)
    refine ⟨_, _, [0, 1, 2, 3, 4, 5], ?_, by kernel_rfl, ?_, rfl, rfl⟩
    · refine sxq ?_
      try with_reducible exact trivial
    · refine sxq ?_
      try with_reducible exact trivial
      exact ⟨congrArg (Value.int .i64) (piv_dp h2), fun a ha k _ => congrArg (Value.int .i64) (by rw [hGe a k ha, piv_tp h2]), piv_up s r e⟩
end Go.Proofs.YtdeaaonppokgkaaGreat
