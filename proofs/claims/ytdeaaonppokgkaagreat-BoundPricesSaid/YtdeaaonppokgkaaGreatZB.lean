/- Contracts: the reference's step, its run, and how artificial variables leave. -/
import Derived.Test.YtdeaaonppokgkaaGreatE
import Derived.Test.YtdeaaonppokgkaaGreatH
set_option maxRecDepth 100000
set_option linter.unusedSimpArgs false
set_option linter.unusedVariables false
namespace Go.Proofs.YtdeaaonppokgkaaGreat
open Go.RowKit Lp
/-- What a table of the reference has besides its numbers. -/
structure Rm where
  m : Nat
  F : Nat
  cc : Nat
  bc : Nat
def Rm.R (q : Rm) : Nat := q.F + q.m
def svT (q : Rm) (k : Nat) (d : Int) : SV := .a [.s k 0 0 (q.m + 1) q.cc 1, .s (k + 2) 0 0 q.m q.bc 1, .v (.int .i64 d), .v (.int .i64 (q.F : Nat))]
def bxT (q : Rm) (k : Nat) (d : Int) : Ob := ⟨70, false, .st [.s k 0 0 (q.m + 1) q.cc 1, .s (k + 2) 0 0 q.m q.bc 1, .v (.int .i64 d), .v (.int .i64 (q.F : Nat))]⟩
def rtO (q : Rm) (k : Nat) (T : Nat → Nat → Int) (b : Nat → Nat) : List Ob := [oCl (k + 1) (q.m + 1) (q.R + 1) q.cc, oCf (q.m + 1) (q.R + 1) T, oI q.m q.bc (fun k => (b k : Nat))]
def zT : Ob := ⟨70, false, .st [.v (.slice none 0 0), .v (.slice none 0 0), .v (.int .i64 0), .v (.int .i64 0)]⟩
attribute [push_cast] svT bxT rtO zT
structure RPv (q : Rm) (s : Tabl) (r e : Nat) : Prop where
  hr : r < q.m
  he : e < q.R + 1
  d0 : 0 < s.d
  d1 : s.d ≤ 536870912
  T : ∀ i j, i < q.m + 1 → j < q.R + 1 → (s.T i j).natAbs ≤ 4294967296
  Tr : ∀ j, j < q.R + 1 → (s.T r j).natAbs ≤ 536870912
  dvd : ∀ i j, i < q.m + 1 → j < q.R + 1 → i ≠ r → s.d ∣ s.T i j * s.T r e - s.T i e * s.T r j
theorem mul_le2 (a b : Int) (ha : a.natAbs ≤ 4294967296) (hb : b.natAbs ≤ 536870912) : (a * b).natAbs ≤ 2305843009213693952 := by
  rw [Int.natAbs_mul]
  exact Nat.le_trans (Nat.mul_le_mul ha hb) (by decide)
theorem up_mt (s : Tabl) (r e : Nat) {m : Nat} {rl : List Nat} : ∀ (i : Nat), i < 1 → ∀ (k : Nat), k < m → Value.int IntKind.i64 ↑(up s.b r e k) = Value.int IntKind.i64 (bif i == 0 && k == r then (e : Int) else ↑(s.b k)) ∧ mtL rl [] (bif i == 0 && k == r then [] else []) := fun i hi k _ => by
  obtain rfl : i = 0 := by omega
  refine ⟨congrArg (Value.int .i64) ?_, mt_cond⟩
  unfold up
  by_cases h : k = r
  · subst h; simp
  · simp [h, beq_eq_false_iff_ne.2 h]
set_option maxHeartbeats 8000000 in
theorem rpivot_sp (q : Rm) (s : Tabl) (r e : Nat) (hP : RPv q s r e) (hm : q.m ≤ 1000) (hR : q.R ≤ 1000) : Sp Tryz.prog 64 [svT q 0 s.d, .v (.int .i64 (r : Nat)), .v (.int .i64 (e : Nat))] (rtO q 0 s.T s.b)
    (fun r0 H => r0 = svT q 0 (s.T r e) ∧ H = rtO q 0 (hp s r e) (up s.b r e)) := by
  refine sp_weak ?_
  have hr := hP.hr
  have he := hP.he
  refine sp_of_ex true [] mixed Tryz.call64 Tryz.func64 rfl Tryz.ntmps64 Tryz.results64 (by decide +kernel) rfl ?_
  refine sxq ?_
  try with_reducible exact trivial
  repeat (with_reducible refine And.intro (by omega) ?_)
  refine tr_loop mixed (by kernel_rfl) (fun (i : Nat) => [(8, .v (.int .i64 i)), (7, .v (.int .i64 (s.T r e))), (6, .p 4 0 0), (3, .p 3 0 0), (1, .v (.int .i64 r)), (2, .v (.int .i64 e))])
    (fun i => rtO q 0 (fun a k => cf1 s r e i 0 a k) s.b ++ [bxT q 0 s.d, zT]) (fun i => i ≤ q.m + 1) (fun i => q.m + 1 - i) 0 (Nat.zero_le _) (Mt.wk (rl := [0, 1, 2, 3, 4]) ⟨by kernel_rfl, ?_, ?_⟩) ?_
  · refine sxq ?_
    try with_reducible exact trivial
  · simp only [push_cast, ↓branch_true, ↓branch_false, Nat.reduceBEq, Nat.reduceAdd, Nat.reduceMul, Nat.reduceSub, Int.reduceToNat, reduceCtorEq, Int.reduceAdd, Int.reduceEq, Int.reduceLE, Int.reduceLT, Nat.reduceLT, Nat.reduceLeDiff, cf1_zero]
  intro i hi
  have hcol := cf1_col s r e i
  simp only [push_cast, ↓branch_true, ↓branch_false, Nat.reduceBEq, Nat.reduceAdd, Nat.reduceMul, Nat.reduceSub, Int.reduceToNat, reduceCtorEq, Int.reduceAdd, Int.reduceEq, Int.reduceLE, Int.reduceLT, Nat.reduceLT, Nat.reduceLeDiff, hcol]
  refine ⟨fun h1 => ?_, fun h1 => ?_⟩
  · repeat (with_reducible refine And.intro (by omega) ?_)
    refine ⟨fun h2 => ?_, fun h2 => ?_⟩
    · obtain rfl : i = r := by omega
      repeat (with_reducible refine And.intro (by omega) ?_)
      refine lpK_normal (i + 1) [0, 1, 2, 3, 4] (by omega) (by omega) (by kernel_rfl) ?_ ?_
      · refine sxq ?_
        try with_reducible exact trivial
      · simp only [push_cast, ↓branch_true, ↓branch_false, Nat.reduceBEq, Nat.reduceAdd, Nat.reduceMul, Nat.reduceSub, Int.reduceToNat, reduceCtorEq, Int.reduceAdd, Int.reduceEq, Int.reduceLE, Int.reduceLT, Nat.reduceLT, Nat.reduceLeDiff, cf1_skip]
    · repeat (with_reducible refine And.intro (by omega) ?_)
      refine tr_loop mixed (by kernel_rfl) (fun (j : Nat) => [(10, .v (.int .i64 j)), (9, .v (.int .i64 (s.T i e))), (8, .v (.int .i64 i)), (7, .v (.int .i64 (s.T r e))), (6, .p 4 0 0), (3, .p 3 0 0), (1, .v (.int .i64 r)), (2, .v (.int .i64 e))])
        (fun j => rtO q 0 (fun a k => cf1 s r e i j a k) s.b ++ [bxT q 0 s.d, zT]) (fun j => j ≤ q.R + 1) (fun j => q.R + 1 - j) 0 (Nat.zero_le _) (Mt.wk (rl := [0, 1, 2, 3, 4]) ⟨by kernel_rfl, ?_, ?_⟩) ?_
      · refine sxq ?_
        try with_reducible exact trivial
      · refine sxq ?_
        try with_reducible exact trivial
      intro j hj
      refine sxq ?_
      try with_reducible exact trivial
      repeat (with_reducible refine And.intro (by omega) ?_)
      refine ⟨fun h3 => ?_, fun h3 => ?_⟩
      · have hset := cf1_set s r e i j
        have hj' : j < q.R + 1 := by omega
        have hat := cf1_at s r e i j
        have hrow := cf1_row s r e i j j
        have b1 := hP.T i j (by omega) hj'
        have b2 := hP.Tr e he
        have b3 := hP.T i e (by omega) he
        have b4 := hP.Tr j hj'
        have b6 := hP.dvd i j (by omega) hj' (by omega)
        have hv : hp s r e i j = (s.T i j * s.T r e - s.T i e * s.T r j).tdiv s.d := by
          rw [hp, if_neg (by omega), Int.tdiv_eq_ediv_of_dvd b6]
        have c1 := mul_le2 (s.T i j) (s.T r e) b1 b2
        have c2 := mul_le2 (s.T i e) (s.T r j) b3 b4
        have d0 := hP.d0
        have d1 := hP.d1
        have hq : (hp s r e i j).natAbs ≤ 4611686018427387904 := by
          rw [hv, Int.natAbs_tdiv]
          exact Nat.le_trans (Nat.div_le_self _ _) (by omega)
        rw [hat, hrow, ← hv]
        repeat (with_reducible refine And.intro (by omega) ?_)
        refine lpK_normal (j + 1) [0, 1, 2, 3, 4] (by omega) (by omega) (by kernel_rfl) ?_ ?_
        · refine sxq ?_
          try with_reducible exact trivial
        · simp only [push_cast, ↓branch_true, ↓branch_false, Nat.reduceBEq, Nat.reduceAdd, Nat.reduceMul, Nat.reduceSub, Int.reduceToNat, reduceCtorEq, Int.reduceAdd, Int.reduceEq, Int.reduceLE, Int.reduceLT, Nat.reduceLT, Nat.reduceLeDiff, hset]
          exact fun _ _ _ _ => mt_cond
      · obtain rfl : j = q.R + 1 := by omega
        repeat (with_reducible refine And.intro (by omega) ?_)
        refine lpK_normal (i + 1) [0, 1, 2, 3, 4] (by omega) (by omega) (by kernel_rfl) ?_ ?_
        · refine sxq ?_
          try with_reducible exact trivial
        · refine sxq ?_
          try with_reducible exact trivial
          exact fun _ _ _ hk => congrArg (Value.int .i64) (cf1_done s hk).symm
  obtain rfl : i = q.m + 1 := by omega
  repeat (with_reducible refine And.intro (by omega) ?_)
  refine ⟨_, _, [0, 1, 2], ?_, by kernel_rfl, ?_, rfl, rfl⟩
  · refine sxq ?_
    try with_reducible exact trivial
  · refine sxq ?_
    try with_reducible exact trivial
    exact ⟨fun a ha k _ => congrArg (Value.int .i64) (cf1_all s ha).symm, up_mt s r e⟩
end Go.Proofs.YtdeaaonppokgkaaGreat
namespace Go.Proofs.YtdeaaonppokgkaaGreat
open Go.RowKit Lp
def nR (q : Rm) (s : Tabl) : Nat → Bool := fun j => decide (s.T q.m j < 0)
structure RunOk (q : Rm) (c : Nat → Int) (s0 : Tabl) (K : Nat) : Prop where
  m : q.m ≤ 6
  R : q.R ≤ 24
  T : ∀ n, n ≤ K → ∀ i j, i < q.m → j < q.R + 1 → ((phS q.m q.R q.F c s0 n).T i j).natAbs ≤ 536870912
  E : ∀ n, n ≤ K → phE q.m q.F c (phS q.m q.R q.F c s0 n) = ent (nR q (phS q.m q.R q.F c s0 n)) q.F
  G : ∀ n, n < K → Goes q.m q.R q.F c (phS q.m q.R q.F c s0 n)
  N : ¬ Goes q.m q.R q.F c (phS q.m q.R q.F c s0 K)
  P : ∀ n, n < K → RPv q (phS q.m q.R q.F c s0 n) (phR q.m q.R q.F c (phS q.m q.R q.F c s0 n)).toNat (phE q.m q.F c (phS q.m q.R q.F c s0 n)).toNat ∧ 0 < (phS q.m q.R q.F c s0 n).T (phR q.m q.R q.F c (phS q.m q.R q.F c s0 n)).toNat (phE q.m q.F c (phS q.m q.R q.F c s0 n)).toNat
theorem mul_le3 (a b : Int) (ha : a.natAbs ≤ 536870912) (hb : b.natAbs ≤ 536870912) : (a * b).natAbs ≤ 288230376151711744 := by
  rw [Int.natAbs_mul]
  exact Nat.le_trans (Nat.mul_le_mul ha hb) (by decide)
theorem hp_piv {s : Tabl} {r e : Nat} (h : 0 < s.T r e) : hp s r e = (pivT s r e).T ∧ up s.b r e = (pivT s r e).b ∧ s.T r e = (pivT s r e).d := by
  refine ⟨funext fun a => funext fun k => (piv_tp (by omega)).symm, rfl, ?_⟩
  rw [piv_dp (by omega)]
set_option maxHeartbeats 8000000 in
theorem rrun_sp (q : Rm) (c : Nat → Int) (s0 : Tabl) (K : Nat) (hK : RunOk q c s0 K) : Sp Tryz.prog 28 [svT q 0 s0.d] (rtO q 0 s0.T s0.b)
    (fun r0 H => r0 = .t [svT q 0 (phS q.m q.R q.F c s0 K).d, .v (.bool (decide (phE q.m q.F c (phS q.m q.R q.F c s0 K) < 0)))] ∧ H = rtO q 0 (phS q.m q.R q.F c s0 K).T (phS q.m q.R q.F c s0 K).b) := by
  refine sp_weak ?_
  have hm := hK.m
  have hR := hK.R
  have hRF : q.R = q.F + q.m := rfl
  refine sp_of_ex true [] mixed Tryz.call28 Tryz.func28 rfl Tryz.ntmps28 Tryz.results28 (by decide +kernel) rfl ?_
  refine sxq ?_
  try with_reducible exact trivial
  repeat (with_reducible refine And.intro (by omega) ?_)
  refine tr_loop mixed (by kernel_rfl) (fun (n : Nat) => [(4, .v (.int .i64 q.m)), (2, .p 4 0 0), (1, .p 3 0 0)])
    (fun n => rtO q 0 (phS q.m q.R q.F c s0 n).T (phS q.m q.R q.F c s0 n).b ++ [bxT q 0 (phS q.m q.R q.F c s0 n).d, zT]) (fun n => n ≤ K) (fun n => K - n) 0 (Nat.zero_le _) (Mt.wk (rl := [0, 1, 2, 3, 4]) ⟨by kernel_rfl, ?_, ?_⟩) ?_
  · refine sxq ?_
    try with_reducible exact trivial
    exact congrArg (Value.int .i64) (by omega)
  · refine sxq ?_
    try with_reducible exact trivial
    exact ⟨fun _ _ _ _ => rfl, fun _ _ _ _ => rfl, rfl⟩
  intro n hn
  have hT := hK.T n hn
  have hE := hK.E n hn
  have hG := hK.G n
  have hPn := hK.P n
  have hN := hK.N
  have hs1 : phS q.m q.R q.F c s0 (n + 1) = pivT (phS q.m q.R q.F c s0 n) (phR q.m q.R q.F c (phS q.m q.R q.F c s0 n)).toNat (phE q.m q.F c (phS q.m q.R q.F c s0 n)).toNat := rfl
  obtain ⟨s, hs⟩ : ∃ s, s = phS q.m q.R q.F c s0 n := ⟨_, rfl⟩
  rw [← hs] at hT hE hG hPn hs1 ⊢
  refine sxq ?_
  try with_reducible exact trivial
  refine tr_loop0 mixed (by kernel_rfl) (fun (j : Nat) => [(5, .v (.int .i64 j)), (4, .v (.int .i64 q.m)), (2, .p 4 0 0), (1, .p 3 0 0)]) (fun j => j ≤ q.F ∧ ∀ i, i < j → nR q s i = false) (fun j => q.F - j) 0 ⟨Nat.zero_le _, fun i hi => absurd hi (Nat.not_lt_zero _)⟩ ?_ ?_
  · refine sxq ?_
    try with_reducible exact trivial
  rintro j ⟨hj, hjn⟩
  refine sxq ?_
  try with_reducible exact trivial
  refine ⟨fun h1 => ?_, fun h1 => ?_⟩
  · have hjR : j < q.R + 1 := by omega
    repeat (with_reducible refine And.intro (by omega) ?_)
    refine ⟨fun h2 => ?_, fun h2 => ?_⟩
    · repeat (with_reducible refine And.intro (by omega) ?_)
      refine lp0_normal (j + 1) ⟨by omega, fun i hi => ?_⟩ (by omega) ?_
      · by_cases e : i = j
        · rw [e]; exact decide_eq_false (by omega)
        · exact hjn i (by omega)
      · refine sxq ?_
        try with_reducible exact trivial
    · have hent : ent (nR q s) q.F = j := ent_is (by omega) (decide_eq_true (by omega)) hjn
      repeat (with_reducible refine And.intro (by omega) ?_)
      intro h3
      repeat (with_reducible refine And.intro (by omega) ?_)
      refine tr_loop0 mixed (by kernel_rfl) (fun (i : Nat) => [(8, .v (.int .i64 i)), (7, .v (.int .i64 q.R)), (6, .v (.int .i64 (lv q.R s j i))), (5, .v (.int .i64 j)), (4, .v (.int .i64 q.m)), (2, .p 4 0 0), (1, .p 3 0 0)]) (fun i => i ≤ q.m) (fun i => q.m - i) 0 (Nat.zero_le _) ?_ ?_
      · refine sxq ?_
        try with_reducible exact trivial
        exact ⟨vi (by omega), rfl⟩
      intro i hi
      have hlo := lv_lt q.R s j i
      have hls : lv q.R s j (i + 1) = if s.T i j ≤ 0 then lv q.R s j i else if lv q.R s j i < 0 then (i : Int) else if s.T i q.R * s.T (lv q.R s j i).toNat j < s.T (lv q.R s j i).toNat q.R * s.T i j ∨ (s.T i q.R * s.T (lv q.R s j i).toNat j = s.T (lv q.R s j i).toNat q.R * s.T i j ∧ s.b i < s.b (lv q.R s j i).toNat) then (i : Int) else lv q.R s j i := rfl
      generalize hlv : lv q.R s j i = L at *
      refine sxq ?_
      try with_reducible exact trivial
      refine ⟨fun h4 => ?_, fun h4 => ?_⟩
      · repeat (with_reducible refine And.intro (by omega) ?_)
        refine ⟨fun h5 => ?_, fun h5 => ⟨fun h6 => ?_, fun h6 => ?_⟩⟩
        · rw [if_pos h5] at hls
          repeat (with_reducible refine And.intro (by omega) ?_)
          refine lp0_normal (i + 1) (by omega) (by omega) ?_
          simp only [push_cast, ↓branch_true, ↓branch_false, Nat.reduceBEq, Nat.reduceAdd, Nat.reduceMul, Nat.reduceSub, Int.reduceToNat, reduceCtorEq, Int.reduceAdd, Int.reduceEq, Int.reduceLE, Int.reduceLT, Nat.reduceLT, Nat.reduceLeDiff, hls]
        · rw [if_neg h5, if_pos h6] at hls
          repeat (with_reducible refine And.intro (by omega) ?_)
          refine lp0_normal (i + 1) (by omega) (by omega) ?_
          simp only [push_cast, ↓branch_true, ↓branch_false, Nat.reduceBEq, Nat.reduceAdd, Nat.reduceMul, Nat.reduceSub, Int.reduceToNat, reduceCtorEq, Int.reduceAdd, Int.reduceEq, Int.reduceLE, Int.reduceLT, Nat.reduceLT, Nat.reduceLeDiff, hls]
        · obtain ⟨l, rfl⟩ : ∃ l : Nat, L = l := ⟨L.toNat, by omega⟩
          have hlm : l < q.m := by omega
          rw [if_neg h5, if_neg h6, Int.toNat_natCast] at hls
          have b1 := hT i q.R (by omega) (by omega)
          have b2 := hT i j (by omega) hjR
          have b3 := hT l q.R hlm (by omega)
          have b4 := hT l j hlm hjR
          have c1 := mul_le3 (s.T i q.R) (s.T l j) b1 b4
          have c2 := mul_le3 (s.T l q.R) (s.T i j) b3 b2
          simp only [Int.toNat_natCast]
          repeat (with_reducible refine And.intro (by omega) ?_)
          refine ⟨fun h7 => ?_, fun h7 => ?_⟩
          · rw [if_pos (Or.inl h7)] at hls
            repeat (with_reducible refine And.intro (by omega) ?_)
            refine lp0_normal (i + 1) (by omega) (by omega) ?_
            simp only [push_cast, ↓branch_true, ↓branch_false, Nat.reduceBEq, Nat.reduceAdd, Nat.reduceMul, Nat.reduceSub, Int.reduceToNat, reduceCtorEq, Int.reduceAdd, Int.reduceEq, Int.reduceLE, Int.reduceLT, Nat.reduceLT, Nat.reduceLeDiff, hls]
          · refine ⟨fun h8 => ?_, fun h8 => ?_⟩
            · repeat (with_reducible refine And.intro (by omega) ?_)
              refine ⟨fun h9 => ?_, fun h9 => ?_⟩
              · rw [if_pos (Or.inr ⟨h8, by omega⟩)] at hls
                repeat (with_reducible refine And.intro (by omega) ?_)
                refine lp0_normal (i + 1) (by omega) (by omega) ?_
                simp only [push_cast, ↓branch_true, ↓branch_false, Nat.reduceBEq, Nat.reduceAdd, Nat.reduceMul, Nat.reduceSub, Int.reduceToNat, reduceCtorEq, Int.reduceAdd, Int.reduceEq, Int.reduceLE, Int.reduceLT, Nat.reduceLT, Nat.reduceLeDiff, hls]
              · rw [if_neg (fun h => by rcases h with h | ⟨_, h⟩
                                        · exact h7 h
                                        · omega)] at hls
                repeat (with_reducible refine And.intro (by omega) ?_)
                refine lp0_normal (i + 1) (by omega) (by omega) ?_
                simp only [push_cast, ↓branch_true, ↓branch_false, Nat.reduceBEq, Nat.reduceAdd, Nat.reduceMul, Nat.reduceSub, Int.reduceToNat, reduceCtorEq, Int.reduceAdd, Int.reduceEq, Int.reduceLE, Int.reduceLT, Nat.reduceLT, Nat.reduceLeDiff, hls]
            · rw [if_neg (fun h => by rcases h with h | ⟨h, _⟩
                                      · exact h7 h
                                      · exact h8 h)] at hls
              repeat (with_reducible refine And.intro (by omega) ?_)
              refine lp0_normal (i + 1) (by omega) (by omega) ?_
              simp only [push_cast, ↓branch_true, ↓branch_false, Nat.reduceBEq, Nat.reduceAdd, Nat.reduceMul, Nat.reduceSub, Int.reduceToNat, reduceCtorEq, Int.reduceAdd, Int.reduceEq, Int.reduceLE, Int.reduceLT, Nat.reduceLT, Nat.reduceLeDiff, hls]
      · obtain rfl : i = q.m := by omega
        have hphR : phR q.m q.R q.F c s = L := by unfold phR; rw [hE, hent, Int.toNat_natCast]; exact hlv
        refine ⟨fun h4 => ?_, fun h4 => ?_⟩
        · have hnK : n = K := by
            refine Classical.byContradiction fun h => ?_
            have := (hG (by omega)).2
            omega
          subst hnK
          rw [← hs, hE, hent]
          refine ⟨_, _, [0, 1, 2], ?_, by kernel_rfl, ?_, rfl, rfl⟩
          · refine sxq ?_
            try with_reducible exact trivial
            exact congrArg Value.bool (decide_eq_false (by omega))
          · refine sxq ?_
            try with_reducible exact trivial
        · have hnK : n < K := by
            refine Classical.byContradiction fun h => ?_
            have e : n = K := by omega
            rw [← e, ← hs] at hN
            exact hN ⟨by omega, by omega⟩
          obtain ⟨l, rfl⟩ : ∃ l : Nat, L = l := ⟨L.toNat, by omega⟩
          obtain ⟨g1, g2⟩ := hPn hnK
          rw [hphR, hE, hent] at hs1 g1 g2
          simp only [Int.toNat_natCast] at hs1 g1 g2
          obtain ⟨w1, w2, w3⟩ := hp_piv g2
          have hpv := rpivot_sp q s l j g1 (by omega) (by omega)
          refine sp_at hpv [0, 1, 2] (by kernel_rfl) ?_ ?_ ?_
          · refine sxq ?_
            try with_reducible exact trivial
          · refine sxq ?_
            try with_reducible exact trivial
          rintro _ _ ⟨rfl, rfl⟩
          rw [w1, w2, w3]
          refine sxq ?_
          try with_reducible exact trivial
          refine lpK_normal (n + 1) [0, 1, 2, 3, 4] (by omega) (by omega) (by kernel_rfl) ?_ ?_
          · refine sxq ?_
            try with_reducible exact trivial
          · simp only [push_cast, ↓branch_true, ↓branch_false, Nat.reduceBEq, Nat.reduceAdd, Nat.reduceMul, Nat.reduceSub, Int.reduceToNat, reduceCtorEq, Int.reduceAdd, Int.reduceEq, Int.reduceLE, Int.reduceLT, Nat.reduceLT, Nat.reduceLeDiff, hs1]
  · obtain rfl : j = q.F := by omega
    have hent : ent (nR q s) q.F = -1 := ent_no hjn
    have hnK : n = K := by
      refine Classical.byContradiction fun h => ?_
      have := (hG (by omega)).1
      omega
    subst hnK
    refine sxq ?_
    try with_reducible exact trivial
    rw [← hs, hE, hent]
    refine ⟨_, _, [0, 1, 2], ?_, by kernel_rfl, ?_, rfl, rfl⟩
    · refine sxq ?_
      try with_reducible exact trivial
      rfl
    · refine sxq ?_
      try with_reducible exact trivial
end Go.Proofs.YtdeaaonppokgkaaGreat
namespace Go.Proofs.YtdeaaonppokgkaaGreat
open Go.RowKit Lp
structure OutOk (q : Rm) (s : Tabl) : Prop where
  m : q.m ≤ 6
  R : q.R ≤ 24
  P : ∀ i, i < q.m → q.F ≤ (drS q.F s i).b i → ∀ e : Nat, drE q.F (drS q.F s i) i = e → RPv q (drS q.F s i) i e ∧ (drS q.F s i).T i e ≠ 0
/-- A table with a negated row. -/
def nU (u : Tabl) (i : Nat) : Tabl := ⟨fun a k => if a = i then - u.T a k else u.T a k, u.b, u.d⟩
theorem nU_rpv {q : Rm} {u : Tabl} {i e : Nat} (h : RPv q u i e) : RPv q (nU u i) i e := by
  refine ⟨h.hr, h.he, h.d0, h.d1, fun a k ha hk => ?_, fun k hk => ?_, fun a k ha hk hai => ?_⟩
  · have := h.T a k ha hk
    show (if a = i then - u.T a k else u.T a k).natAbs ≤ _
    split
    · rw [Int.natAbs_neg]; exact this
    · exact this
  · have := h.Tr k hk
    show (if i = i then - u.T i k else u.T i k).natAbs ≤ _
    rw [if_pos rfl, Int.natAbs_neg]
    exact this
  · have := h.dvd a k ha hk hai
    show u.d ∣ (if a = i then - u.T a k else u.T a k) * (if i = i then - u.T i e else u.T i e) - (if a = i then - u.T a e else u.T a e) * (if i = i then - u.T i k else u.T i k)
    rw [if_neg hai, if_neg hai, if_pos rfl, if_pos rfl, Int.mul_neg, Int.mul_neg, show -(u.T a k * u.T i e) - -(u.T a e * u.T i k) = -(u.T a k * u.T i e - u.T a e * u.T i k) by omega]
    exact Int.dvd_neg.2 this
theorem nU_piv {q : Rm} {u : Tabl} {i e : Nat} (h : RPv q u i e) (hn : u.T i e < 0) : (∀ a k, a < q.m + 1 → k < q.R + 1 → hp (nU u i) i e a k = (pivT u i e).T a k) ∧ up (nU u i).b i e = (pivT u i e).b ∧ (nU u i).T i e = (pivT u i e).d := by
  refine ⟨fun a k ha hk => ?_, rfl, ?_⟩
  · rw [piv_tn hn]
    unfold hp
    by_cases e1 : a = i
    · subst e1
      rw [if_pos rfl, if_pos rfl]
      show (if a = a then - u.T a k else u.T a k) = _
      rw [if_pos rfl]
    · rw [if_neg e1, if_neg e1]
      have := h.dvd a k ha hk e1
      show ((if a = i then - u.T a k else u.T a k) * (if i = i then - u.T i e else u.T i e) - (if a = i then - u.T a e else u.T a e) * (if i = i then - u.T i k else u.T i k)) / u.d = _
      rw [if_neg e1, if_neg e1, if_pos rfl, if_pos rfl, Int.mul_neg, Int.mul_neg, show -(u.T a k * u.T i e) - -(u.T a e * u.T i k) = -(u.T a k * u.T i e - u.T a e * u.T i k) by omega]
      exact Int.neg_ediv_of_dvd this
  · show (if i = i then - u.T i e else u.T i e) = _
    rw [if_pos rfl, piv_dn hn]
    omega
/-- Half way of the negation. -/
def nV (u : Tabl) (i j a k : Nat) : Int := bif a == i && decide (k < j) then 0 - u.T a k else u.T a k
theorem nV_zero (u : Tabl) (i a k : Nat) : nV u i 0 a k = u.T a k := by simp [nV]
theorem nV_at (u : Tabl) (i j : Nat) : nV u i j i j = u.T i j := by simp [nV]
theorem nV_set (u : Tabl) (i j a k : Nat) : (bif a == i && k == j then 0 - u.T i j else nV u i j a k) = nV u i (j + 1) a k := by
  unfold nV
  by_cases h : a = i <;> by_cases h2 : k = j
  · subst h h2; simp
  · subst h; simp only [beq_self_eq_true, Bool.true_and, beq_eq_false_iff_ne.2 h2, cond_false]; rw [show decide (k < j + 1) = decide (k < j) by rw [decide_eq_decide]; omega]
  · simp only [beq_eq_false_iff_ne.2 h, Bool.false_and, cond_false]
  · simp only [beq_eq_false_iff_ne.2 h, Bool.false_and, cond_false]
theorem nV_all (u : Tabl) (i : Nat) {N a k : Nat} (hk : k < N) : nV u i N a k = (nU u i).T a k := by
  unfold nV
  show _ = if a = i then - u.T a k else u.T a k
  by_cases h : a = i
  · subst h; simp [hk]
  · simp [h, beq_eq_false_iff_ne.2 h]
set_option maxHeartbeats 8000000 in
theorem rout_sp (q : Rm) (s : Tabl) (hK : OutOk q s) : Sp Tryz.prog 30 [svT q 0 s.d] (rtO q 0 s.T s.b)
    (fun r0 H => r0 = svT q 0 (drS q.F s q.m).d ∧ H = rtO q 0 (drS q.F s q.m).T (drS q.F s q.m).b) := by
  refine sp_weak ?_
  have hm := hK.m
  have hR := hK.R
  have hRF : q.R = q.F + q.m := rfl
  refine sp_of_ex true [] mixed Tryz.call30 Tryz.func30 rfl Tryz.ntmps30 Tryz.results30 (by decide +kernel) rfl ?_
  refine sxq ?_
  try with_reducible exact trivial
  refine tr_loop mixed (by kernel_rfl) (fun (i : Nat) => [(3, .v (.int .i64 i)), (2, .p 4 0 0), (1, .p 3 0 0)])
    (fun i => rtO q 0 (drS q.F s i).T (drS q.F s i).b ++ [bxT q 0 (drS q.F s i).d, zT]) (fun i => i ≤ q.m) (fun i => q.m - i) 0 (Nat.zero_le _) (Mt.wk (rl := [0, 1, 2, 3, 4]) ⟨by kernel_rfl, ?_, ?_⟩) ?_
  · refine sxq ?_
    try with_reducible exact trivial
  · refine sxq ?_
    try with_reducible exact trivial
    exact ⟨fun _ _ _ _ => rfl, fun _ _ _ _ => rfl, rfl⟩
  intro i hi
  have hPi := hK.P i
  have hst := drS_stay (F := q.F) (s := s) (i := i)
  have hgo := fun e => drS_go (F := q.F) (s := s) (i := i) (e := e)
  generalize hu : drS q.F s i = u at *
  refine sxq ?_
  try with_reducible exact trivial
  refine ⟨fun h1 => ?_, fun h1 => ?_⟩
  · have him : i < q.m := by omega
    repeat (with_reducible refine And.intro (by omega) ?_)
    refine ⟨fun h2 => ?_, fun h2 => ?_⟩
    · have hdr := hst fun h => by omega
      repeat (with_reducible refine And.intro (by omega) ?_)
      refine lpK_normal (i + 1) [0, 1, 2, 3, 4] (by omega) (by omega) (by kernel_rfl) ?_ ?_
      · refine sxq ?_
        try with_reducible exact trivial
      · simp only [push_cast, ↓branch_true, ↓branch_false, Nat.reduceBEq, Nat.reduceAdd, Nat.reduceMul, Nat.reduceSub, Int.reduceToNat, reduceCtorEq, Int.reduceAdd, Int.reduceEq, Int.reduceLE, Int.reduceLT, Nat.reduceLT, Nat.reduceLeDiff, hdr]
    · refine tr_loop0 mixed (by kernel_rfl) (fun (j : Nat) => [(4, .v (.int .i64 j)), (3, .v (.int .i64 i)), (2, .p 4 0 0), (1, .p 3 0 0)]) (fun j => j ≤ q.F ∧ ∀ k, k < j → u.T i k = 0) (fun j => q.F - j) 0 ⟨Nat.zero_le _, fun k hk => absurd hk (Nat.not_lt_zero _)⟩ ?_ ?_
      · refine sxq ?_
        try with_reducible exact trivial
      rintro j ⟨hj, hjn⟩
      refine sxq ?_
      try with_reducible exact trivial
      refine ⟨fun h3 => ?_, fun h3 => ?_⟩
      · repeat (with_reducible refine And.intro (by omega) ?_)
        refine ⟨fun h4 => ?_, fun h4 => ?_⟩
        · repeat (with_reducible refine And.intro (by omega) ?_)
          refine lp0_normal (j + 1) ⟨by omega, fun k hk => ?_⟩ (by omega) ?_
          · by_cases e : k = j
            · rw [e]; exact h4
            · exact hjn k (by omega)
          · refine sxq ?_
            try with_reducible exact trivial
        · have hdE : drE q.F u i = j := ent_is (by omega) (decide_eq_true h4) fun k hk => decide_eq_false fun h => h (hjn k hk)
          obtain ⟨g1, g2⟩ := hPi him (by omega) j hdE
          have hdr := hgo j (by omega) hdE
          repeat (with_reducible refine And.intro (by omega) ?_)
          intro h5
          repeat (with_reducible refine And.intro (by omega) ?_)
          refine ⟨fun h6 => ?_, fun h6 => ?_⟩
          · refine tr_loop mixed (by kernel_rfl) (fun (k : Nat) => [(5, .v (.int .i64 k)), (4, .v (.int .i64 j)), (3, .v (.int .i64 i)), (2, .p 4 0 0), (1, .p 3 0 0)])
              (fun k => rtO q 0 (nV u i k) u.b ++ [bxT q 0 u.d, zT]) (fun k => k ≤ q.R + 1) (fun k => q.R + 1 - k) 0 (Nat.zero_le _) (Mt.wk (rl := [0, 1, 2, 3, 4]) ⟨by kernel_rfl, ?_, ?_⟩) ?_
            · refine sxq ?_
              try with_reducible exact trivial
            · simp only [push_cast, ↓branch_true, ↓branch_false, Nat.reduceBEq, Nat.reduceAdd, Nat.reduceMul, Nat.reduceSub, Int.reduceToNat, reduceCtorEq, Int.reduceAdd, Int.reduceEq, Int.reduceLE, Int.reduceLT, Nat.reduceLT, Nat.reduceLeDiff, nV_zero]
            intro k hk
            have hat := nV_at u i k
            have hset := nV_set u i k
            refine sxq ?_
            try with_reducible exact trivial
            repeat (with_reducible refine And.intro (by omega) ?_)
            refine ⟨fun h7 => ?_, fun h7 => ?_⟩
            · have b1 := g1.Tr k (by omega)
              repeat (with_reducible refine And.intro (by omega) ?_)
              rw [hat]
              repeat (with_reducible refine And.intro (by omega) ?_)
              refine lpK_normal (k + 1) [0, 1, 2, 3, 4] (by omega) (by omega) (by kernel_rfl) ?_ ?_
              · refine sxq ?_
                try with_reducible exact trivial
              · simp only [push_cast, ↓branch_true, ↓branch_false, Nat.reduceBEq, Nat.reduceAdd, Nat.reduceMul, Nat.reduceSub, Int.reduceToNat, reduceCtorEq, Int.reduceAdd, Int.reduceEq, Int.reduceLE, Int.reduceLT, Nat.reduceLT, Nat.reduceLeDiff, hset]
                exact fun _ _ _ _ => mt_cond
            · obtain rfl : k = q.R + 1 := by omega
              obtain ⟨w1, w2, w3⟩ := nU_piv g1 h6
              have hpv := rpivot_sp q (nU u i) i j (nU_rpv g1) (by omega) (by omega)
              refine sxq ?_
              try with_reducible exact trivial
              refine sp_at hpv [0, 1, 2] (by kernel_rfl) ?_ ?_ ?_
              · refine sxq ?_
                try with_reducible exact trivial
                rfl
              · refine sxq ?_
                try with_reducible exact trivial
                exact ⟨fun a _ k hk => congrArg (Value.int .i64) (nV_all u i hk).symm, fun _ _ _ _ => rfl⟩
              rintro _ _ ⟨rfl, rfl⟩
              rw [w2, w3]
              refine sxq ?_
              try with_reducible exact trivial
              repeat (with_reducible refine And.intro (by omega) ?_)
              refine lpK_normal (i + 1) [0, 1, 2, 3, 4] (by omega) (by omega) (by kernel_rfl) ?_ ?_
              · refine sxq ?_
                try with_reducible exact trivial
              · simp only [push_cast, ↓branch_true, ↓branch_false, Nat.reduceBEq, Nat.reduceAdd, Nat.reduceMul, Nat.reduceSub, Int.reduceToNat, reduceCtorEq, Int.reduceAdd, Int.reduceEq, Int.reduceLE, Int.reduceLT, Nat.reduceLT, Nat.reduceLeDiff, hdr]
                exact fun a ha k hk => congrArg (Value.int .i64) (w1 a k ha hk).symm
          · obtain ⟨w1, w2, w3⟩ := hp_piv (s := u) (r := i) (e := j) (by omega)
            have hpv := rpivot_sp q u i j g1 (by omega) (by omega)
            refine sp_at hpv [0, 1, 2] (by kernel_rfl) ?_ ?_ ?_
            · refine sxq ?_
              try with_reducible exact trivial
            · refine sxq ?_
              try with_reducible exact trivial
            rintro _ _ ⟨rfl, rfl⟩
            rw [w1, w2, w3]
            refine sxq ?_
            try with_reducible exact trivial
            repeat (with_reducible refine And.intro (by omega) ?_)
            refine lpK_normal (i + 1) [0, 1, 2, 3, 4] (by omega) (by omega) (by kernel_rfl) ?_ ?_
            · refine sxq ?_
              try with_reducible exact trivial
            · simp only [push_cast, ↓branch_true, ↓branch_false, Nat.reduceBEq, Nat.reduceAdd, Nat.reduceMul, Nat.reduceSub, Int.reduceToNat, reduceCtorEq, Int.reduceAdd, Int.reduceEq, Int.reduceLE, Int.reduceLT, Nat.reduceLT, Nat.reduceLeDiff, hdr]
      · obtain rfl : j = q.F := by omega
        have hdr := hst fun h => by
          have : drE q.F u i = -1 := ent_no fun k hk => decide_eq_false fun h9 => h9 (hjn k hk)
          omega
        refine sxq ?_
        try with_reducible exact trivial
        repeat (with_reducible refine And.intro (by omega) ?_)
        refine lpK_normal (i + 1) [0, 1, 2, 3, 4] (by omega) (by omega) (by kernel_rfl) ?_ ?_
        · refine sxq ?_
          try with_reducible exact trivial
        · simp only [push_cast, ↓branch_true, ↓branch_false, Nat.reduceBEq, Nat.reduceAdd, Nat.reduceMul, Nat.reduceSub, Int.reduceToNat, reduceCtorEq, Int.reduceAdd, Int.reduceEq, Int.reduceLE, Int.reduceLT, Nat.reduceLT, Nat.reduceLeDiff, hdr]
  · obtain rfl : i = q.m := by omega
    refine ⟨_, _, [0, 1, 2], ?_, by kernel_rfl, ?_, rfl, rfl⟩
    · simp only [push_cast, ↓branch_true, ↓branch_false, Nat.reduceBEq, Nat.reduceAdd, Nat.reduceMul, Nat.reduceSub, Int.reduceToNat, reduceCtorEq, Int.reduceAdd, Int.reduceEq, Int.reduceLE, Int.reduceLT, Nat.reduceLT, Nat.reduceLeDiff, hu]
    · simp only [push_cast, ↓branch_true, ↓branch_false, Nat.reduceBEq, Nat.reduceAdd, Nat.reduceMul, Nat.reduceSub, Int.reduceToNat, reduceCtorEq, Int.reduceAdd, Int.reduceEq, Int.reduceLE, Int.reduceLT, Nat.reduceLT, Nat.reduceLeDiff, hu]
end Go.Proofs.YtdeaaonppokgkaaGreat
