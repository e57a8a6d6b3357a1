/- Contracts of the reference: sign, Valid, All, Sum, Feasible. Contracts of the reference: Column, Rights, Signed, below. Contracts of the reference: Proves, Check, Refutes. -/
import Derived.Test.YtdeaaonppokgkaaGreatRD
import Derived.Test.YtdeaaonppokgkaaGreatGA
set_option maxRecDepth 100000
set_option linter.unusedSimpArgs false
set_option linter.unusedVariables false
namespace Go.Proofs.YtdeaaonppokgkaaGreat
open Go.RowKit Lp
theorem frc_zero : Frc 0 1 := frc_one (by decide)
def sgS (n : Int) : Int := if n < 0 then -1 else if n = 0 then 0 else 1
theorem sign_pu {n : Int} {d : Nat} (h : Frc n d) : Pu Tryz.prog 72 [frV n d] [] (.v (.int .i64 (sgS n))) := by
  have hc := rcmp_pu h frc_zero
  rw [show ((1 : Nat) : Int) = 1 from rfl, Int.mul_one, Int.zero_mul] at hc
  have ho := rof_pu 0
  have hc' := (fun H => pu_a hc rfl H)
  have ho' := (fun H => pu_a ho rfl H)
  have he : cmpS n 0 = sgS n := rfl
  rw [he] at hc'
  refine pu_of_ex true [(1, .alt [(0, .one 1 (.one 2 (.one 3 .fin))), (1, .one 0 (.one 2 (.one 3 .fin)))])] mixed Tryz.call72 Tryz.func72 rfl Tryz.ntmps72 Tryz.results72 (by decide +kernel) rfl rfl rfl ?_
  refine sxq ?_
  try with_reducible exact trivial
  repeat' (first
    | (with_reducible apply And.intro)
    | (refine sp_pu (ho' _) ?_
       refine sxq ?_
       try with_reducible exact trivial
       )
    | (refine sp_pu (hc' _) ?_
       refine sxq ?_
       try with_reducible exact trivial
       ))
/-- What the reference's sum returns. -/
def sumN (s : Option (Int × Nat)) : Int := match s with | some s => s.1 | none => 0
def sumD (s : Option (Int × Nat)) : Int := match s with | some s => (s.2 : Nat) | none => 0
def sumE (s : Option (Int × Nat)) : Int := match s with | some _ => 0 | none => 5
def sumV (s : Option (Int × Nat)) : SV := .t [frV (sumN s) (sumD s), .v (.int .i64 (sumE s))]
attribute [push_cast] sumV
@[push_cast] theorem sumN_some (n : Int) (d : Nat) : sumN (some (n, d)) = n := rfl
@[push_cast] theorem sumD_some (n : Int) (d : Nat) : sumD (some (n, d)) = (d : Nat) := rfl
@[push_cast] theorem sumE_some (s : Int × Nat) : sumE (some s) = 0 := rfl
@[push_cast] theorem sumN_none : sumN none = 0 := rfl
@[push_cast] theorem sumD_none : sumD none = 0 := rfl
@[push_cast] theorem sumE_none : sumE none = 5 := rfl
set_option maxHeartbeats 8000000 in
theorem rsum_pu (M i : Nat) (ln cp : Nat → Nat) (a : Nat → Nat → Int) (m cap : Nat) (N : Nat → Int) (D : Nat → Nat) (hi : i < M) (hl : ln i ≤ m) (hm : m ≤ 1000000) (ha : ∀ k, k < ln i → (a i k).natAbs ≤ 1152921504606846976) (hf : ∀ k, k < m → Frc (N k) (D k)) :
    Pu Tryz.prog 34 [.s 0 i 0 (ln i) (cp i) 1, .s 1 0 0 m cap 2] [rFm M ln cp a, rFx m cap N D] (sumV (ofS (a i) N D (ln i))) := by
  have ho := rof_pu 0
  refine pu_of_ex true [(5, .pre [0, 1] [0, 1, 2, 3, 5, 6, 7, 8] (.alt [(4, .alt [(9, .one 10 (.one 11 (.one 12 (.one 13 (.one 14 (.one 15 .fin)))))), (13, .one 9 (.one 10 (.one 11 (.one 12 (.one 14 (.one 15 .fin))))))]), (13, .one 4 (.one 9 (.one 10 (.one 11 (.one 12 (.one 14 (.one 15 .fin)))))))]))] mixed Tryz.call34 Tryz.func34 rfl Tryz.ntmps34 Tryz.results34 (by decide +kernel) rfl rfl rfl ?_
  refine sxq ?_
  try with_reducible exact trivial
  refine sp_c ho rfl [] ?_
  refine sxq ?_
  try with_reducible exact trivial
  refine tr_loop mixed (by kernel_rfl) (fun (x : Nat × Int × Nat) => [(7, .v (.int .i64 x.1)), (0, .s 0 i 0 (ln i) (cp i) 1), (1, .s 1 0 0 m cap 2), (4, .p 2 0 0), (6, .p 3 0 0)])
    (fun x => [rFm M ln cp a, rFx m cap N D, oF false 0 0, oF false x.2.1 (x.2.2 : Nat)]) (fun x => x.1 ≤ ln i ∧ ofS (a i) N D x.1 = some x.2 ∧ Frc x.2.1 x.2.2) (fun x => ln i - x.1) (0, 0, 1) ⟨Nat.zero_le _, rfl, frc_one (by decide)⟩ (Mt.wk (rl := [0, 1, 2, 3]) ⟨by kernel_rfl, ?_, ?_⟩) ?_
  · refine sxq ?_
    try with_reducible exact trivial
    try trivial
  · refine sxq ?_
    try with_reducible exact trivial
  rintro ⟨k, sn, sd⟩ ⟨h1, h2, h3⟩
  simp only at h1 h2 h3
  refine sxq ?_
  try with_reducible exact trivial
  refine ⟨fun h4 => ?_, fun h4 => ?_⟩
  · have hk : k < ln i := by omega
    have hfk := hf k (by omega)
    have hmu := rtimes_pu (frc_one (ha k hk)) hfk
    rw [Nat.one_mul, show ((1 : Nat) : Int) = 1 from rfl] at hmu
    have hof := rof_pu (a i k)
    have hof' := (fun H => pu_a hof rfl H)
    have hst : ofS (a i) N D (k + 1) = if OkQ (a i k * N k) (D k) ∧ OkQ (sn * (rd (a i k * N k) (D k) : Nat) + rn (a i k * N k) (D k) * (sd : Nat)) (sd * rd (a i k * N k) (D k)) then
      some (rn (sn * (rd (a i k * N k) (D k) : Nat) + rn (a i k * N k) (D k) * (sd : Nat)) (sd * rd (a i k * N k) (D k)), rd (sn * (rd (a i k * N k) (D k) : Nat) + rn (a i k * N k) (D k) * (sd : Nat)) (sd * rd (a i k * N k) (D k))) else none := by
        rw [ofS, h2]; rfl
    by_cases c1 : OkQ (a i k * N k) (D k)
    · rw [rsQ_ok hfk.d0 c1] at hmu
      have hfm := frc_of hfk.d0 c1
      have had := radd_pu h3 hfm
      generalize rn (a i k * N k) (D k) = mn at *
      generalize rd (a i k * N k) (D k) = md at *
      have hd0 : 0 < sd * md := Nat.mul_pos h3.d0 hfm.d0
      have hmu' := (fun H => pu_a hmu rfl H)
      by_cases c2 : OkQ (sn * (md : Nat) + mn * (sd : Nat)) (sd * md)
      · rw [rsQ_ok hd0 c2] at had
        rw [if_pos ⟨c1, c2⟩] at hst
        have hfs := frc_of hd0 c2
        generalize rn (sn * (md : Nat) + mn * (sd : Nat)) (sd * md) = tn at *
        generalize rd (sn * (md : Nat) + mn * (sd : Nat)) (sd * md) = td at *
        have had' := (fun H => pu_a had rfl H)
        repeat' (first
          | (with_reducible apply And.intro)
          | omega
          | (refine sp_pu (hof' _) ?_
             refine sxq ?_
             try with_reducible exact trivial
             )
          | (refine sp_pu (hmu' _) ?_
             refine sxq ?_
             try with_reducible exact trivial
             )
          | (refine sp_pu (had' _) ?_
             refine sxq ?_
             try with_reducible exact trivial
             )
          | (refine lpK_normal (k + 1, tn, td) [0, 1, 2, 3] ⟨by simp only; omega, hst, hfs⟩ (by simp only; omega) (by kernel_rfl) ?_ ?_
             · refine sxq ?_
               try with_reducible exact trivial
               try trivial
             · refine sxq ?_
               try with_reducible exact trivial
             ))
      · rw [rsQ_no c2] at had
        rw [if_neg (fun h => c2 h.2)] at hst
        have hno := ofS_none hst (show k + 1 ≤ ln i by omega)
        have had' := (fun H => pu_a had rfl H)
        rw [hno]
        repeat' (first
          | (with_reducible apply And.intro)
          | omega
          | (refine sp_pu (hof' _) ?_
             refine sxq ?_
             try with_reducible exact trivial
             )
          | (refine sp_pu (hmu' _) ?_
             refine sxq ?_
             try with_reducible exact trivial
             )
          | (refine sp_pu (had' _) ?_
             refine sxq ?_
             try with_reducible exact trivial
             ))
        all_goals rfl
    · rw [rsQ_no c1] at hmu
      rw [if_neg (fun h => c1 h.1)] at hst
      have hno := ofS_none hst (show k + 1 ≤ ln i by omega)
      have hmu' := (fun H => pu_a hmu rfl H)
      rw [hno]
      repeat' (first
        | (with_reducible apply And.intro)
        | omega
        | (refine sp_pu (hof' _) ?_
           refine sxq ?_
           try with_reducible exact trivial
           )
        | (refine sp_pu (hmu' _) ?_
           refine sxq ?_
           try with_reducible exact trivial
           ))
      all_goals rfl
  · obtain rfl : k = ln i := by omega
    rw [h2]
    rfl
theorem ofS_frc {f N : Nat → Int} {D : Nat → Nat} : ∀ {n : Nat} {s : Int × Nat}, (∀ k, k < n → 0 < D k) → ofS f N D n = some s → Frc s.1 s.2
  | 0, s, _, h => by
    cases h
    exact frc_one (by decide)
  | n + 1, s, hd, h => by
    rw [ofS] at h
    cases e : ofS f N D n with
    | none => rw [e] at h; cases h
    | some s0 =>
      rw [e] at h
      have h0 := ofS_frc (fun k hk => hd k (by omega)) e
      simp only [Option.bind_some] at h
      split at h
      · next hc =>
        cases h
        have hm := frc_of (hd n (by omega)) hc.1
        exact frc_of (Nat.mul_pos h0.d0 hm.d0) hc.2
      · cases h
end Go.Proofs.YtdeaaonppokgkaaGreat
namespace Go.Proofs.YtdeaaonppokgkaaGreat
open Go.RowKit Lp
theorem rcolumn_sp (p : Pm) (j : Nat) (hj : j < p.n) (hl : ∀ t, t < p.m → p.ln t = p.n) (hm : p.m ≤ 1000000) (hn : p.n ≤ 1000000) : Sp Tryz.prog 67 [svP p, .v (.int .i64 (j : Nat))] (obP p) (fun r H => ∃ cap, p.m ≤ cap ∧ r = .s 3 0 0 p.m cap 1 ∧ H = obP p ++ [oI p.m cap (fun t => p.a t j)]) := by
  refine sp_weak ?_
  refine sp_of_ex true [] mixed Tryz.call67 Tryz.func67 rfl Tryz.ntmps67 Tryz.results67 (by decide +kernel) rfl ?_
  refine sxq ?_
  try with_reducible exact trivial
  refine tr_loop mixed (by kernel_rfl) (fun (x : Nat × Nat) => [(6, .v (.int .i64 x.1)), (5, .s 4 0 0 x.1 x.2 1), (1, .v (.int .i64 j)), (2, .p 3 0 0)])
    (fun x => obP p ++ [oBx p, oI x.1 x.2 (fun t => p.a t j)]) (fun x => x.1 ≤ p.m ∧ x.1 ≤ x.2) (fun x => p.m - x.1) (0, 0) ⟨Nat.zero_le _, Nat.le_refl _⟩ (Mt.wk (rl := [0, 1, 2, 3, 1000]) ⟨by kernel_rfl, ?_, ?_⟩) ?_
  · refine sxq ?_
    try with_reducible exact trivial
    try trivial
  · refine sxq ?_
    try with_reducible exact trivial
    try exact .inl rfl
  rintro ⟨t, cap⟩ ⟨h1, h2⟩
  simp only at h1 h2
  refine sxq ?_
  try with_reducible exact trivial
  refine ⟨fun h3 => ?_, fun h3 => ?_⟩
  · have htm : t < p.m := by omega
    have hlt := hl t htm
    have hfz := p.fzm
    repeat (with_reducible refine And.intro (by omega) ?_)
    refine Or.inr ⟨by omega, by omega, fun c2 hc2 => ?_⟩
    repeat (with_reducible refine And.intro (by omega) ?_)
    refine lpK_normal (t + 1, c2) [0, 1, 2, 3, 6] ⟨by simp only; omega, by simp only; omega⟩ (by simp only; omega) (by kernel_rfl) ?_ ?_
    · refine sxq ?_
      try with_reducible exact trivial
      try trivial
    · refine sxq ?_
      try with_reducible exact trivial
      exact lf3 (fun t => p.a t j)
  · obtain rfl : t = p.m := by omega
    refine ⟨_, _, [0, 1, 2, 4], ?_, by kernel_rfl, ?_, cap, h2, rfl, rfl⟩
    · refine sxq ?_
      try with_reducible exact trivial
    · refine sxq ?_
      try with_reducible exact trivial
theorem rrights_sp (p : Pm) (hm : p.m ≤ 1000000) (hn : p.n ≤ 1000000) : Sp Tryz.prog 35 [svP p] (obP p) (fun r H => ∃ cap, p.m ≤ cap ∧ r = .s 3 0 0 p.m cap 1 ∧ H = obP p ++ [oI p.m cap p.b]) := by
  refine sp_weak ?_
  refine sp_of_ex true [] mixed Tryz.call35 Tryz.func35 rfl Tryz.ntmps35 Tryz.results35 (by decide +kernel) rfl ?_
  refine sxq ?_
  try with_reducible exact trivial
  refine tr_loop mixed (by kernel_rfl) (fun (x : Nat × Nat) => [(4, .v (.int .i64 x.1)), (3, .s 4 0 0 x.1 x.2 1), (1, .p 3 0 0)])
    (fun x => obP p ++ [oBx p, oI x.1 x.2 p.b]) (fun x => x.1 ≤ p.m ∧ x.1 ≤ x.2) (fun x => p.m - x.1) (0, 0) ⟨Nat.zero_le _, Nat.le_refl _⟩ (Mt.wk (rl := [0, 1, 2, 3, 1000]) ⟨by kernel_rfl, ?_, ?_⟩) ?_
  · refine sxq ?_
    try with_reducible exact trivial
    try trivial
  · refine sxq ?_
    try with_reducible exact trivial
    try exact .inl rfl
  rintro ⟨t, cap⟩ ⟨h1, h2⟩
  simp only at h1 h2
  refine sxq ?_
  try with_reducible exact trivial
  refine ⟨fun h3 => ?_, fun h3 => ?_⟩
  · have htm : t < p.m := by omega
    repeat (with_reducible refine And.intro (by omega) ?_)
    refine Or.inr ⟨by omega, by omega, fun c2 hc2 => ?_⟩
    repeat (with_reducible refine And.intro (by omega) ?_)
    refine lpK_normal (t + 1, c2) [0, 1, 2, 3, 6] ⟨by simp only; omega, by simp only; omega⟩ (by simp only; omega) (by kernel_rfl) ?_ ?_
    · refine sxq ?_
      try with_reducible exact trivial
      try trivial
    · refine sxq ?_
      try with_reducible exact trivial
      exact lf3 p.b
  · obtain rfl : t = p.m := by omega
    refine ⟨_, _, [0, 1, 2, 4], ?_, by kernel_rfl, ?_, cap, h2, rfl, rfl⟩
    · refine sxq ?_
      try with_reducible exact trivial
    · refine sxq ?_
      try with_reducible exact trivial
set_option maxHeartbeats 8000000 in
theorem rsigned_pu (p : Pm) (hp : PmOk p) (cap : Nat) (N : Nat → Int) (D : Nat → Nat) (hf : ∀ k, k < p.m → Frc (N k) (D k)) : Pu Tryz.prog 36 [svP p, .s 3 0 0 p.m cap 2] (obP p ++ [rFx p.m cap N D]) (.v (.bool (sgB p N))) := by
  have hm := hp.m
  have hmc := hp.mc
  refine pu_of_ex true [] mixed Tryz.call36 Tryz.func36 rfl Tryz.ntmps36 Tryz.results36 (by decide +kernel) rfl rfl rfl ?_
  refine sxq ?_
  try with_reducible exact trivial
  refine tr_loop0 mixed (by kernel_rfl) (fun (t : Nat) => [(5, .v (.int .i64 t)), (1, .s 3 0 0 p.m cap 2), (2, .p 4 0 0)]) (fun t => t ≤ p.m ∧ ∀ u, u < t → sgOk p N u = true) (fun t => p.m - t) 0 ⟨Nat.zero_le _, fun u hu => absurd hu (Nat.not_lt_zero _)⟩ ?_ ?_
  · refine sxq ?_
    try with_reducible exact trivial
    try trivial
  rintro t ⟨g1, g2⟩
  refine sxq ?_
  try with_reducible exact trivial
  refine ⟨fun h3 => ?_, fun h3 => ?_⟩
  · have htm : t < p.m := by omega
    have hsg := sign_pu (hf t htm)
    have hno : sgOk p N t = false → SV.v (.bool false) = SV.v (.bool (sgB p N)) := fun h => by
      refine vb ?_
      symm
      unfold sgB
      exact decide_eq_false fun h2 => by rw [h2 t htm] at h; cases h
    have hyes : sgOk p N t = true → ∀ u, u < t + 1 → sgOk p N u = true := fun h u hu => by
      by_cases e : u = t
      · rw [e]; exact h
      · exact g2 u (by omega)
    have hso : sgOk p N t = !((p.kd t == 1 && decide (0 < N t)) || (p.kd t == 2 && decide (N t < 0))) := rfl
    have hs1 : (0 < sgS (N t) ↔ 0 < N t) ∧ (sgS (N t) < 0 ↔ N t < 0) := by
      unfold sgS
      split
      · omega
      · split <;> omega
    generalize sgS (N t) = c at *
    rcases hp.kd t htm with hk | hk | hk
    · simp only [push_cast, ↓branch_true, ↓branch_false, Nat.reduceBEq, Nat.reduceAdd, Nat.reduceMul, Nat.reduceSub, Int.reduceToNat, reduceCtorEq, Int.reduceAdd, Int.reduceEq, Int.reduceLE, Int.reduceLT, Nat.reduceLT, Nat.reduceLeDiff, hk]
      repeat (with_reducible refine And.intro (by omega) ?_)
      refine sp_c hsg rfl [] ?_
      simp only [push_cast, ↓branch_true, ↓branch_false, Nat.reduceBEq, Nat.reduceAdd, Nat.reduceMul, Nat.reduceSub, Int.reduceToNat, reduceCtorEq, Int.reduceAdd, Int.reduceEq, Int.reduceLE, Int.reduceLT, Nat.reduceLT, Nat.reduceLeDiff, hk]
      have hso : sgOk p N t = !decide (0 < N t) := by rw [hso, hk]; simp
      refine ⟨fun h4 => hno (by rw [hso, decide_eq_true (by omega)]; rfl), fun h4 => ?_⟩
      repeat (with_reducible refine And.intro (by omega) ?_)
      refine lp0_normal (t + 1) ⟨by omega, hyes (by rw [hso, decide_eq_false (by omega)]; rfl)⟩ (by omega) ?_
      refine sxq ?_
      try with_reducible exact trivial
      try trivial
    · simp only [push_cast, ↓branch_true, ↓branch_false, Nat.reduceBEq, Nat.reduceAdd, Nat.reduceMul, Nat.reduceSub, Int.reduceToNat, reduceCtorEq, Int.reduceAdd, Int.reduceEq, Int.reduceLE, Int.reduceLT, Nat.reduceLT, Nat.reduceLeDiff, hk]
      repeat (with_reducible refine And.intro (by omega) ?_)
      refine sp_c hsg rfl [] ?_
      refine sxq ?_
      try with_reducible exact trivial
      have hso : sgOk p N t = !decide (N t < 0) := by rw [hso, hk]; simp
      refine ⟨fun h4 => hno (by rw [hso, decide_eq_true (by omega)]; rfl), fun h4 => ?_⟩
      repeat (with_reducible refine And.intro (by omega) ?_)
      refine lp0_normal (t + 1) ⟨by omega, hyes (by rw [hso, decide_eq_false (by omega)]; rfl)⟩ (by omega) ?_
      refine sxq ?_
      try with_reducible exact trivial
      try trivial
    · simp only [push_cast, ↓branch_true, ↓branch_false, Nat.reduceBEq, Nat.reduceAdd, Nat.reduceMul, Nat.reduceSub, Int.reduceToNat, reduceCtorEq, Int.reduceAdd, Int.reduceEq, Int.reduceLE, Int.reduceLT, Nat.reduceLT, Nat.reduceLeDiff, hk]
      repeat (with_reducible refine And.intro (by omega) ?_)
      refine lp0_normal (t + 1) ⟨by omega, hyes (by rw [hso, hk]; rfl)⟩ (by omega) ?_
      refine sxq ?_
      try with_reducible exact trivial
      try trivial
  · obtain rfl : t = p.m := by omega
    refine vb ?_
    symm
    unfold sgB
    exact decide_eq_true g2
/-- The first j columns hold. -/
def bokT (p : Pm) (c : Nat → Int) (N : Nat → Int) (D : Nat → Nat) (j : Nat) : Bool := decide (∀ k, k < j → okO (cOk c k) (colS p N D k) = true)
theorem bokT_succ (p : Pm) (c : Nat → Int) (N : Nat → Int) (D : Nat → Nat) (j : Nat) : bokT p c N D (j + 1) = (bokT p c N D j && okO (cOk c j) (colS p N D j)) := by
  unfold bokT
  rw [Bool.eq_iff_iff]
  simp only [decide_eq_true_eq, Bool.and_eq_true]
  constructor
  · exact fun h => ⟨fun k hk => h k (by omega), h j (by omega)⟩
  · intro ⟨h1, h2⟩ k hk
    by_cases e : k = j
    · rw [e]; exact h2
    · exact h1 k (by omega)
set_option maxHeartbeats 16000000 in
theorem rbelow1_sp (p : Pm) (hp : PmOk p) (cap : Nat) (N : Nat → Int) (D : Nat → Nat) (hf : ∀ k, k < p.m → Frc (N k) (D k)) :
    Sp Tryz.prog 33 [svP p, .s 3 0 0 p.m cap 2, .s 0 0 0 p.n p.nc 1] (obP p ++ [rFx p.m cap N D]) (fun r H => r = .t [.v (.bool (decide (∀ j, j < p.n → colS p N D j ≠ none) && belB p p.co N D)), .v (.int .i64 (errQ (decide (∀ j, j < p.n → colS p N D j ≠ none))))] ∧ H = obP p ++ [rFx p.m cap N D]) := by
  have hn := hp.n
  have hmo : ∀ j, j < p.n → (p.co j).natAbs ≤ 1152921504606846976 := fun j hj => by have := hp.co j hj; omega
  have hm := hp.m
  refine sp_weak ?_
  refine sp_of_ex true [] mixed Tryz.call33 Tryz.func33 rfl Tryz.ntmps33 Tryz.results33 (by decide +kernel) rfl ?_
  refine sxq ?_
  try with_reducible exact trivial
  refine tr_loop mixed (by kernel_rfl) (fun (j : Nat) => [(9, .v (.int .i64 j)), (8, .v (.bool (bokT p p.co N D j))), (1, .s 3 0 0 p.m cap 2), (2, .s 0 0 0 p.n p.nc 1), (3, .p 4 0 0)]) (fun _ => obP p ++ [rFx p.m cap N D, rBx p]) (fun j => j ≤ p.n ∧ ∀ k, k < j → colS p N D k ≠ none) (fun j => p.n - j) 0 ⟨Nat.zero_le _, fun k hk => absurd hk (Nat.not_lt_zero _)⟩ (Mt.wk (rl := [0, 1, 2, 3, 4]) ⟨by kernel_rfl, ?_, ?_⟩) ?_
  · refine sxq ?_
    try with_reducible exact trivial
    refine congrArg Value.bool ?_
    exact decide_eq_true fun j hj => absurd hj (Nat.not_lt_zero _)
  · refine sxq ?_
    try with_reducible exact trivial
    try trivial
  rintro j ⟨g1, g2⟩
  refine sxq ?_
  try with_reducible exact trivial
  refine ⟨fun h3 => ?_, fun h3 => ?_⟩
  · have hjn : j < p.n := by omega
    repeat (with_reducible refine And.intro (by omega) ?_)
    refine sp_at (rcolumn_sp p j hjn hp.ln (by omega) (by omega)) [0, 1, 2] (by kernel_rfl) ?_ ?_ ?_
    · refine sxq ?_
      try with_reducible exact trivial
    · refine sxq ?_
      try with_reducible exact trivial
    rintro _ _ ⟨cc, hcc, rfl, rfl⟩
    have hs := rsum_pu 1 0 (fun _ => p.m) (fun _ => cc) (fun _ t => p.a t j) p.m cap N D (by decide) (Nat.le_refl _) (by omega) (fun t ht => by have := hp.a t j ht hjn; omega) hf
    have hcol : ofS (fun t => p.a t j) N D p.m = colS p N D j := rfl
    rw [hcol] at hs
    refine sxq ?_
    try with_reducible exact trivial
    refine sp_c hs rfl [5, 3] ?_
    cases hr : colS p N D j with
    | none =>
      have hA : decide (∀ j, j < p.n → colS p N D j ≠ none) = false := decide_eq_false fun h => h j hjn hr
      refine sxq ?_
      try with_reducible exact trivial
      refine ⟨_, _, [0, 1, 2, 3], ?_, by kernel_rfl, ?_, by rw [hA], rfl⟩
      · refine sxq ?_
        try with_reducible exact trivial
        rfl
      · refine sxq ?_
        try with_reducible exact trivial
    | some s =>
      obtain ⟨fn, fd⟩ := s
      have hfr : Frc fn fd := ofS_frc (fun k hk => (hf k hk).d0) (hcol.trans hr)
      have hmj := hmo j hjn
      have hcm := rcmp_pu hfr (frc_one hmj)
      have hof := rof_pu (p.co j)
      rw [show ((1 : Nat) : Int) = 1 from rfl, Int.mul_one] at hcm
      have hck := cOk_cmp p.co j (fn, fd) _ rfl
      change cOk p.co j (fn, fd) = decide (cmpS fn (p.co j * (fd : Nat)) ≤ 0) at hck
      have hnx : bokT p p.co N D (j + 1) = (bokT p p.co N D j && cOk p.co j (fn, fd)) := by rw [bokT_succ, hr]; rfl
      have hnext : ∀ k, k < j + 1 → colS p N D k ≠ none := fun k hk => by
        by_cases e : k = j
        · rw [e, hr]; exact fun h => by cases h
        · exact g2 k (by omega)
      generalize cmpS fn (p.co j * (fd : Nat)) = c at *
      rw [hck] at hnx
      cases hb : bokT p p.co N D j with
      | true =>
        rw [hb, Bool.true_and] at hnx
        refine sxq ?_
        try with_reducible exact trivial
        repeat (with_reducible refine And.intro (by omega) ?_)
        refine qc_c (hof) rfl [] ?_
        refine sxq ?_
        try with_reducible exact trivial
        refine qc_c (hcm) rfl [] ?_
        refine sxq ?_
        try with_reducible exact trivial
        repeat (with_reducible refine And.intro (by omega) ?_)
        refine lpK_normal (j + 1) [0, 1, 2, 3, 4] ⟨by omega, hnext⟩ (by omega) (by kernel_rfl) ?_ ?_
        · refine sxq ?_
          try with_reducible exact trivial
          rw [hnx]
          try trivial
        · refine sxq ?_
          try with_reducible exact trivial
      | false =>
        rw [hb, Bool.false_and] at hnx
        refine sxq ?_
        try with_reducible exact trivial
        repeat (with_reducible refine And.intro (by omega) ?_)
        refine lpK_normal (j + 1) [0, 1, 2, 3, 4] ⟨by omega, hnext⟩ (by omega) (by kernel_rfl) ?_ ?_
        · refine sxq ?_
          try with_reducible exact trivial
          rw [hnx]
          try trivial
        · refine sxq ?_
          try with_reducible exact trivial
  · obtain rfl : j = p.n := by omega
    have hA : decide (∀ j, j < p.n → colS p N D j ≠ none) = true := decide_eq_true g2
    refine ⟨_, _, [0, 1, 2, 3], ?_, by kernel_rfl, ?_, by rw [hA], rfl⟩
    · refine sxq ?_
      try with_reducible exact trivial
      exact ⟨rfl, rfl⟩
    · refine sxq ?_
      try with_reducible exact trivial
end Go.Proofs.YtdeaaonppokgkaaGreat
namespace Go.Proofs.YtdeaaonppokgkaaGreat
open Go.RowKit Lp
@[push_cast] theorem errQ_t : errQ true = 0 := rfl
@[push_cast] theorem errQ_f : errQ false = 5 := rfl
set_option maxHeartbeats 16000000 in
theorem rproves_sp (p : Pm) (hp : PmOk p) (cap : Nat) (N : Nat → Int) (D : Nat → Nat) (hf : ∀ k, k < p.m → Frc (N k) (D k)) (vn vd : Int) :
    Sp Tryz.prog 12 [svP p, .s 3 0 0 p.m cap 2, frV vn vd] (obP p ++ [rFx p.m cap N D]) (fun r H => (∃ b, r = .t [.v (.bool b), .v (.int .i64 (errQ (yAll p N D)))] ∧ (yAll p N D = true → b = (belB p p.co N D && (sumN (ofS p.b N D p.m) == vn && sumD (ofS p.b N D p.m) == vd && sgB p N)))) ∧ H = obP p ++ [rFx p.m cap N D]) := by
  have hn := hp.n
  have hm := hp.m
  have hbe := rbelow1_sp p hp cap N D hf
  have hsg := rsigned_pu p hp cap N D hf
  refine sp_weak ?_
  refine sp_of_ex true [] mixed Tryz.call12 Tryz.func12 rfl Tryz.ntmps12 Tryz.results12 (by decide +kernel) rfl ?_
  refine sxq ?_
  try with_reducible exact trivial
  refine sp_at hbe [0, 1, 2, 3] (by kernel_rfl) ?_ ?_ ?_
  · refine sxq ?_
    try with_reducible exact trivial
  · refine sxq ?_
    try with_reducible exact trivial
  rintro _ _ ⟨rfl, rfl⟩
  have hyA : yAll p N D = (decide (∀ j, j < p.n → colS p N D j ≠ none) && (ofS p.b N D p.m).isSome) := rfl
  generalize decide (∀ j, j < p.n → colS p N D j ≠ none) = A at *
  generalize belB p p.co N D = B at *
  cases A with
  | false =>
    have hy : yAll p N D = false := hyA
    refine sxq ?_
    try with_reducible exact trivial
    refine ⟨_, _, [0, 1, 2, 3], ?_, by kernel_rfl, ?_, ⟨false, rfl, fun h => by rw [hy] at h; cases h⟩, rfl⟩
    · simp only [push_cast, ↓branch_true, ↓branch_false, Nat.reduceBEq, Nat.reduceAdd, Nat.reduceMul, Nat.reduceSub, Int.reduceToNat, reduceCtorEq, Int.reduceAdd, Int.reduceEq, Int.reduceLE, Int.reduceLT, Nat.reduceLT, Nat.reduceLeDiff, hy]
      try trivial
    · refine sxq ?_
      try with_reducible exact trivial
  | true =>
  rw [Bool.true_and] at hyA
  refine sxq ?_
  try with_reducible exact trivial
  refine sp_at (rrights_sp p (by omega) (by omega)) [0, 1, 2] (by kernel_rfl) ?_ ?_ ?_
  · refine sxq ?_
    try with_reducible exact trivial
  · refine sxq ?_
    try with_reducible exact trivial
  rintro _ _ ⟨cc, hcc, rfl, rfl⟩
  have hs := rsum_pu 1 0 (fun _ => p.m) (fun _ => cc) (fun _ => p.b) p.m cap N D (by decide) (Nat.le_refl _) (by omega) (fun t ht => by have := hp.b t ht; omega) hf
  refine sxq ?_
  try with_reducible exact trivial
  refine sp_c hs rfl [6, 3] ?_
  refine sxq ?_
  try with_reducible exact trivial
  have hye : errQ (yAll p N D) = sumE (ofS p.b N D p.m) := by
    rw [hyA]
    cases ofS p.b N D p.m <;> rfl
  rw [hye]
  generalize sumN (ofS p.b N D p.m) = sn at *
  generalize sumD (ofS p.b N D p.m) = sd at *
  generalize sumE (ofS p.b N D p.m) = se at *
  have fin : ∀ b : Bool, b = (B && ((sn == vn && sd == vd) && sgB p N)) → (∃ b', SV.t [SV.v (.bool b), SV.v (.int .i64 se)] = SV.t [SV.v (.bool b'), SV.v (.int .i64 se)] ∧ (yAll p N D = true → b' = (B && (sn == vn && sd == vd && sgB p N)))) := fun b hb => ⟨b, rfl, fun _ => by rw [hb]⟩
  cases B with
  | false =>
    refine sxq ?_
    try with_reducible exact trivial
    refine ⟨_, _, [0, 1, 2, 3], ?_, by kernel_rfl, ?_, fin false rfl, rfl⟩
    · refine sxq ?_
      try with_reducible exact trivial
    · refine sxq ?_
      try with_reducible exact trivial
  | true =>
    refine sxq ?_
    try with_reducible exact trivial
    refine ⟨agg27 _ _ _ _, ?_⟩
    cases hE : (sn == vn && sd == vd) with
    | false =>
      rw [hE] at fin
      refine sxq ?_
      try with_reducible exact trivial
      refine ⟨_, _, [0, 1, 2, 3], ?_, by kernel_rfl, ?_, fin false rfl, rfl⟩
      · refine sxq ?_
        try with_reducible exact trivial
      · refine sxq ?_
        try with_reducible exact trivial
    | true =>
      rw [hE] at fin
      refine sxq ?_
      try with_reducible exact trivial
      refine sp_c hsg rfl [0, 1, 2, 3] ?_
      refine sxq ?_
      try with_reducible exact trivial
      refine ⟨_, _, [0, 1, 2, 3], ?_, by kernel_rfl, ?_, fin _ rfl, rfl⟩
      · refine sxq ?_
        try with_reducible exact trivial
        try trivial
      · refine sxq ?_
        try with_reducible exact trivial
end Go.Proofs.YtdeaaonppokgkaaGreat
