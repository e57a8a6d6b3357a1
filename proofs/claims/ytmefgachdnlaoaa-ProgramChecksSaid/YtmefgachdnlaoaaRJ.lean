/- Contracts of the reference: Column, Rights, Signed, below. -/
import Derived.Test.YtmefgachdnlaoaaRG
set_option maxRecDepth 100000
set_option linter.unusedSimpArgs false
set_option linter.unusedVariables false
namespace Go.Proofs.Ytmefgachdnlaoaa
open Go.RowKit Lp
theorem rcolumn_sp (p : Pm) (j : Nat) (hj : j < p.n) (hl : ∀ t, t < p.m → p.ln t = p.n) (hm : p.m ≤ 1000000) (hn : p.n ≤ 1000000) : Sp Try.prog 105 [svP p, .v (.int .i64 (j : Nat))] (obP p) (fun r H => ∃ cap, p.m ≤ cap ∧ r = .s 3 0 0 p.m cap 1 ∧ H = obP p ++ [oI p.m cap (fun t => p.a t j)]) := by
  refine sp_weak ?_
  refine sp_of_ex true [] mixed Try.call105 Try.func105 rfl Try.ntmps105 Try.results105 (by decide +kernel) rfl ?_
  simp only [push_cast, ↓branch_true, ↓branch_false, Nat.reduceBEq, Nat.reduceAdd, Nat.reduceMul, Nat.reduceSub, Int.reduceToNat, reduceCtorEq, Int.reduceAdd, Int.reduceEq, Int.reduceLE, Int.reduceLT, Nat.reduceLT, Nat.reduceLeDiff]
  refine tr_loop mixed (by kernel_rfl) (fun (x : Nat × Nat) => [(6, .v (.int .i64 x.1)), (5, .s 4 0 0 x.1 x.2 1), (1, .v (.int .i64 j)), (2, .p 3 0 0)])
    (fun x => obP p ++ [oBx p, oI x.1 x.2 (fun t => p.a t j)]) (fun x => x.1 ≤ p.m ∧ x.1 ≤ x.2) (fun x => p.m - x.1) (0, 0) ⟨Nat.zero_le _, Nat.le_refl _⟩ (Mt.wk (rl := [0, 1, 2, 3, 1000]) ⟨by kernel_rfl, ?_, ?_⟩) ?_
  · simp only [push_cast, ↓branch_true, ↓branch_false, Nat.reduceBEq, Nat.reduceAdd, Nat.reduceMul, Nat.reduceSub, Int.reduceToNat, reduceCtorEq, Int.reduceAdd, Int.reduceEq, Int.reduceLE, Int.reduceLT, Nat.reduceLT, Nat.reduceLeDiff]
    try trivial
  · simp only [push_cast, ↓branch_true, ↓branch_false, Nat.reduceBEq, Nat.reduceAdd, Nat.reduceMul, Nat.reduceSub, Int.reduceToNat, reduceCtorEq, Int.reduceAdd, Int.reduceEq, Int.reduceLE, Int.reduceLT, Nat.reduceLT, Nat.reduceLeDiff]
    try exact .inl rfl
  rintro ⟨t, cap⟩ ⟨h1, h2⟩
  simp only at h1 h2
  simp only [push_cast, ↓branch_true, ↓branch_false, Nat.reduceBEq, Nat.reduceAdd, Nat.reduceMul, Nat.reduceSub, Int.reduceToNat, reduceCtorEq, Int.reduceAdd, Int.reduceEq, Int.reduceLE, Int.reduceLT, Nat.reduceLT, Nat.reduceLeDiff]
  refine ⟨fun h3 => ?_, fun h3 => ?_⟩
  · have htm : t < p.m := by omega
    have hlt := hl t htm
    have hfz := p.fzm
    repeat (with_reducible refine And.intro (by omega) ?_)
    refine Or.inr ⟨by omega, by omega, fun c2 hc2 => ?_⟩
    repeat (with_reducible refine And.intro (by omega) ?_)
    refine lpK_normal (t + 1, c2) [0, 1, 2, 3, 6] ⟨by simp only; omega, by simp only; omega⟩ (by simp only; omega) (by kernel_rfl) ?_ ?_
    · simp only [push_cast, ↓branch_true, ↓branch_false, Nat.reduceBEq, Nat.reduceAdd, Nat.reduceMul, Nat.reduceSub, Int.reduceToNat, reduceCtorEq, Int.reduceAdd, Int.reduceEq, Int.reduceLE, Int.reduceLT, Nat.reduceLT, Nat.reduceLeDiff]
      try trivial
    · simp only [push_cast, ↓branch_true, ↓branch_false, Nat.reduceBEq, Nat.reduceAdd, Nat.reduceMul, Nat.reduceSub, Int.reduceToNat, reduceCtorEq, Int.reduceAdd, Int.reduceEq, Int.reduceLE, Int.reduceLT, Nat.reduceLT, Nat.reduceLeDiff]
      exact lf3 (fun t => p.a t j)
  · obtain rfl : t = p.m := by omega
    refine ⟨_, _, [0, 1, 2, 4], ?_, by kernel_rfl, ?_, cap, h2, rfl, rfl⟩
    · simp only [push_cast, ↓branch_true, ↓branch_false, Nat.reduceBEq, Nat.reduceAdd, Nat.reduceMul, Nat.reduceSub, Int.reduceToNat, reduceCtorEq, Int.reduceAdd, Int.reduceEq, Int.reduceLE, Int.reduceLT, Nat.reduceLT, Nat.reduceLeDiff]
    · simp only [push_cast, ↓branch_true, ↓branch_false, Nat.reduceBEq, Nat.reduceAdd, Nat.reduceMul, Nat.reduceSub, Int.reduceToNat, reduceCtorEq, Int.reduceAdd, Int.reduceEq, Int.reduceLE, Int.reduceLT, Nat.reduceLT, Nat.reduceLeDiff]
theorem rrights_sp (p : Pm) (hm : p.m ≤ 1000000) (hn : p.n ≤ 1000000) : Sp Try.prog 59 [svP p] (obP p) (fun r H => ∃ cap, p.m ≤ cap ∧ r = .s 3 0 0 p.m cap 1 ∧ H = obP p ++ [oI p.m cap p.b]) := by
  refine sp_weak ?_
  refine sp_of_ex true [] mixed Try.call59 Try.func59 rfl Try.ntmps59 Try.results59 (by decide +kernel) rfl ?_
  simp only [push_cast, ↓branch_true, ↓branch_false, Nat.reduceBEq, Nat.reduceAdd, Nat.reduceMul, Nat.reduceSub, Int.reduceToNat, reduceCtorEq, Int.reduceAdd, Int.reduceEq, Int.reduceLE, Int.reduceLT, Nat.reduceLT, Nat.reduceLeDiff]
  refine tr_loop mixed (by kernel_rfl) (fun (x : Nat × Nat) => [(4, .v (.int .i64 x.1)), (3, .s 4 0 0 x.1 x.2 1), (1, .p 3 0 0)])
    (fun x => obP p ++ [oBx p, oI x.1 x.2 p.b]) (fun x => x.1 ≤ p.m ∧ x.1 ≤ x.2) (fun x => p.m - x.1) (0, 0) ⟨Nat.zero_le _, Nat.le_refl _⟩ (Mt.wk (rl := [0, 1, 2, 3, 1000]) ⟨by kernel_rfl, ?_, ?_⟩) ?_
  · simp only [push_cast, ↓branch_true, ↓branch_false, Nat.reduceBEq, Nat.reduceAdd, Nat.reduceMul, Nat.reduceSub, Int.reduceToNat, reduceCtorEq, Int.reduceAdd, Int.reduceEq, Int.reduceLE, Int.reduceLT, Nat.reduceLT, Nat.reduceLeDiff]
    try trivial
  · simp only [push_cast, ↓branch_true, ↓branch_false, Nat.reduceBEq, Nat.reduceAdd, Nat.reduceMul, Nat.reduceSub, Int.reduceToNat, reduceCtorEq, Int.reduceAdd, Int.reduceEq, Int.reduceLE, Int.reduceLT, Nat.reduceLT, Nat.reduceLeDiff]
    try exact .inl rfl
  rintro ⟨t, cap⟩ ⟨h1, h2⟩
  simp only at h1 h2
  simp only [push_cast, ↓branch_true, ↓branch_false, Nat.reduceBEq, Nat.reduceAdd, Nat.reduceMul, Nat.reduceSub, Int.reduceToNat, reduceCtorEq, Int.reduceAdd, Int.reduceEq, Int.reduceLE, Int.reduceLT, Nat.reduceLT, Nat.reduceLeDiff]
  refine ⟨fun h3 => ?_, fun h3 => ?_⟩
  · have htm : t < p.m := by omega
    repeat (with_reducible refine And.intro (by omega) ?_)
    refine Or.inr ⟨by omega, by omega, fun c2 hc2 => ?_⟩
    repeat (with_reducible refine And.intro (by omega) ?_)
    refine lpK_normal (t + 1, c2) [0, 1, 2, 3, 6] ⟨by simp only; omega, by simp only; omega⟩ (by simp only; omega) (by kernel_rfl) ?_ ?_
    · simp only [push_cast, ↓branch_true, ↓branch_false, Nat.reduceBEq, Nat.reduceAdd, Nat.reduceMul, Nat.reduceSub, Int.reduceToNat, reduceCtorEq, Int.reduceAdd, Int.reduceEq, Int.reduceLE, Int.reduceLT, Nat.reduceLT, Nat.reduceLeDiff]
      try trivial
    · simp only [push_cast, ↓branch_true, ↓branch_false, Nat.reduceBEq, Nat.reduceAdd, Nat.reduceMul, Nat.reduceSub, Int.reduceToNat, reduceCtorEq, Int.reduceAdd, Int.reduceEq, Int.reduceLE, Int.reduceLT, Nat.reduceLT, Nat.reduceLeDiff]
      exact lf3 p.b
  · obtain rfl : t = p.m := by omega
    refine ⟨_, _, [0, 1, 2, 4], ?_, by kernel_rfl, ?_, cap, h2, rfl, rfl⟩
    · simp only [push_cast, ↓branch_true, ↓branch_false, Nat.reduceBEq, Nat.reduceAdd, Nat.reduceMul, Nat.reduceSub, Int.reduceToNat, reduceCtorEq, Int.reduceAdd, Int.reduceEq, Int.reduceLE, Int.reduceLT, Nat.reduceLT, Nat.reduceLeDiff]
    · simp only [push_cast, ↓branch_true, ↓branch_false, Nat.reduceBEq, Nat.reduceAdd, Nat.reduceMul, Nat.reduceSub, Int.reduceToNat, reduceCtorEq, Int.reduceAdd, Int.reduceEq, Int.reduceLE, Int.reduceLT, Nat.reduceLT, Nat.reduceLeDiff]
set_option maxHeartbeats 8000000 in
theorem rsigned_pu (p : Pm) (hp : PmOk p) (cap : Nat) (N : Nat → Int) (D : Nat → Nat) (hf : ∀ k, k < p.m → Frc (N k) (D k)) : Pu Try.prog 61 [svP p, .s 3 0 0 p.m cap 2] (obP p ++ [rFx p.m cap N D]) (.v (.bool (sgB p N))) := by
  have hm := hp.m
  have hmc := hp.mc
  refine pu_of_ex true [] mixed Try.call61 Try.func61 rfl Try.ntmps61 Try.results61 (by decide +kernel) rfl rfl rfl ?_
  simp only [push_cast, ↓branch_true, ↓branch_false, Nat.reduceBEq, Nat.reduceAdd, Nat.reduceMul, Nat.reduceSub, Int.reduceToNat, reduceCtorEq, Int.reduceAdd, Int.reduceEq, Int.reduceLE, Int.reduceLT, Nat.reduceLT, Nat.reduceLeDiff]
  refine tr_loop0 mixed (by kernel_rfl) (fun (t : Nat) => [(5, .v (.int .i64 t)), (1, .s 3 0 0 p.m cap 2), (2, .p 4 0 0)]) (fun t => t ≤ p.m ∧ ∀ u, u < t → sgOk p N u = true) (fun t => p.m - t) 0 ⟨Nat.zero_le _, fun u hu => absurd hu (Nat.not_lt_zero _)⟩ ?_ ?_
  · simp only [push_cast, ↓branch_true, ↓branch_false, Nat.reduceBEq, Nat.reduceAdd, Nat.reduceMul, Nat.reduceSub, Int.reduceToNat, reduceCtorEq, Int.reduceAdd, Int.reduceEq, Int.reduceLE, Int.reduceLT, Nat.reduceLT, Nat.reduceLeDiff]
    try trivial
  rintro t ⟨g1, g2⟩
  simp only [push_cast, ↓branch_true, ↓branch_false, Nat.reduceBEq, Nat.reduceAdd, Nat.reduceMul, Nat.reduceSub, Int.reduceToNat, reduceCtorEq, Int.reduceAdd, Int.reduceEq, Int.reduceLE, Int.reduceLT, Nat.reduceLT, Nat.reduceLeDiff]
  refine ⟨fun h3 => ?_, fun h3 => ?_⟩
  · have htm : t < p.m := by omega
    have hsg := sign_pu (hf t htm)
    have hno : sgOk p N t = false → SV.v (.bool false) = SV.v (.bool (sgB p N)) := fun h => by
      refine vb ?_
      symm
      unfold sgB
      exact decide_eq_false fun h2 => by rw [h2 t htm] at h; cases h
    have hyes : sgOk p N t = true → ∀ u, u < t + 1 → sgOk p N u = true := fun h u hu => by
      by_cases e : u = t
      · rw [e]; exact h
      · exact g2 u (by omega)
    have hso : sgOk p N t = !((p.kd t == 1 && decide (0 < N t)) || (p.kd t == 2 && decide (N t < 0))) := rfl
    have hs1 : (0 < sgS (N t) ↔ 0 < N t) ∧ (sgS (N t) < 0 ↔ N t < 0) := by
      unfold sgS
      split
      · omega
      · split <;> omega
    generalize sgS (N t) = c at *
    rcases hp.kd t htm with hk | hk | hk
    · simp only [push_cast, ↓branch_true, ↓branch_false, Nat.reduceBEq, Nat.reduceAdd, Nat.reduceMul, Nat.reduceSub, Int.reduceToNat, reduceCtorEq, Int.reduceAdd, Int.reduceEq, Int.reduceLE, Int.reduceLT, Nat.reduceLT, Nat.reduceLeDiff, hk]
      repeat (with_reducible refine And.intro (by omega) ?_)
      refine sp_c hsg rfl [] ?_
      simp only [push_cast, ↓branch_true, ↓branch_false, Nat.reduceBEq, Nat.reduceAdd, Nat.reduceMul, Nat.reduceSub, Int.reduceToNat, reduceCtorEq, Int.reduceAdd, Int.reduceEq, Int.reduceLE, Int.reduceLT, Nat.reduceLT, Nat.reduceLeDiff, hk]
      have hso : sgOk p N t = !decide (0 < N t) := by rw [hso, hk]; simp
      refine ⟨fun h4 => hno (by rw [hso, decide_eq_true (by omega)]; rfl), fun h4 => ?_⟩
      repeat (with_reducible refine And.intro (by omega) ?_)
      refine lp0_normal (t + 1) ⟨by omega, hyes (by rw [hso, decide_eq_false (by omega)]; rfl)⟩ (by omega) ?_
      simp only [push_cast, ↓branch_true, ↓branch_false, Nat.reduceBEq, Nat.reduceAdd, Nat.reduceMul, Nat.reduceSub, Int.reduceToNat, reduceCtorEq, Int.reduceAdd, Int.reduceEq, Int.reduceLE, Int.reduceLT, Nat.reduceLT, Nat.reduceLeDiff]
      try trivial
    · simp only [push_cast, ↓branch_true, ↓branch_false, Nat.reduceBEq, Nat.reduceAdd, Nat.reduceMul, Nat.reduceSub, Int.reduceToNat, reduceCtorEq, Int.reduceAdd, Int.reduceEq, Int.reduceLE, Int.reduceLT, Nat.reduceLT, Nat.reduceLeDiff, hk]
      repeat (with_reducible refine And.intro (by omega) ?_)
      refine sp_c hsg rfl [] ?_
      simp only [push_cast, ↓branch_true, ↓branch_false, Nat.reduceBEq, Nat.reduceAdd, Nat.reduceMul, Nat.reduceSub, Int.reduceToNat, reduceCtorEq, Int.reduceAdd, Int.reduceEq, Int.reduceLE, Int.reduceLT, Nat.reduceLT, Nat.reduceLeDiff]
      have hso : sgOk p N t = !decide (N t < 0) := by rw [hso, hk]; simp
      refine ⟨fun h4 => hno (by rw [hso, decide_eq_true (by omega)]; rfl), fun h4 => ?_⟩
      repeat (with_reducible refine And.intro (by omega) ?_)
      refine lp0_normal (t + 1) ⟨by omega, hyes (by rw [hso, decide_eq_false (by omega)]; rfl)⟩ (by omega) ?_
      simp only [push_cast, ↓branch_true, ↓branch_false, Nat.reduceBEq, Nat.reduceAdd, Nat.reduceMul, Nat.reduceSub, Int.reduceToNat, reduceCtorEq, Int.reduceAdd, Int.reduceEq, Int.reduceLE, Int.reduceLT, Nat.reduceLT, Nat.reduceLeDiff]
      try trivial
    · simp only [push_cast, ↓branch_true, ↓branch_false, Nat.reduceBEq, Nat.reduceAdd, Nat.reduceMul, Nat.reduceSub, Int.reduceToNat, reduceCtorEq, Int.reduceAdd, Int.reduceEq, Int.reduceLE, Int.reduceLT, Nat.reduceLT, Nat.reduceLeDiff, hk]
      repeat (with_reducible refine And.intro (by omega) ?_)
      refine lp0_normal (t + 1) ⟨by omega, hyes (by rw [hso, hk]; rfl)⟩ (by omega) ?_
      simp only [push_cast, ↓branch_true, ↓branch_false, Nat.reduceBEq, Nat.reduceAdd, Nat.reduceMul, Nat.reduceSub, Int.reduceToNat, reduceCtorEq, Int.reduceAdd, Int.reduceEq, Int.reduceLE, Int.reduceLT, Nat.reduceLT, Nat.reduceLeDiff]
      try trivial
  · obtain rfl : t = p.m := by omega
    refine vb ?_
    symm
    unfold sgB
    exact decide_eq_true g2
/-- The first j columns hold. -/
def bokT (p : Pm) (c : Nat → Int) (N : Nat → Int) (D : Nat → Nat) (j : Nat) : Bool := decide (∀ k, k < j → okO (cOk c k) (colS p N D k) = true)
theorem bokT_succ (p : Pm) (c : Nat → Int) (N : Nat → Int) (D : Nat → Nat) (j : Nat) : bokT p c N D (j + 1) = (bokT p c N D j && okO (cOk c j) (colS p N D j)) := by
  unfold bokT
  rw [Bool.eq_iff_iff]
  simp only [decide_eq_true_eq, Bool.and_eq_true]
  constructor
  · exact fun h => ⟨fun k hk => h k (by omega), h j (by omega)⟩
  · intro ⟨h1, h2⟩ k hk
    by_cases e : k = j
    · rw [e]; exact h2
    · exact h1 k (by omega)
set_option maxHeartbeats 16000000 in
theorem rbelow_sp (p : Pm) (hp : PmOk p) (cap mc : Nat) (N : Nat → Int) (D : Nat → Nat) (hf : ∀ k, k < p.m → Frc (N k) (D k)) (most : Nat → Int) (hmo : ∀ j, j < p.n → (most j).natAbs ≤ 1152921504606846976) :
    Sp Try.prog 58 [svP p, .s 3 0 0 p.m cap 2, .s 4 0 0 p.n mc 1] (obP p ++ [rFx p.m cap N D, rI p.n mc most]) (fun r H => r = .t [.v (.bool (decide (∀ j, j < p.n → colS p N D j ≠ none) && belB p most N D)), .v (.int .i64 (errQ (decide (∀ j, j < p.n → colS p N D j ≠ none))))] ∧ H = obP p ++ [rFx p.m cap N D, rI p.n mc most]) := by
  have hn := hp.n
  have hm := hp.m
  refine sp_weak ?_
  refine sp_of_ex true [] mixed Try.call58 Try.func58 rfl Try.ntmps58 Try.results58 (by decide +kernel) rfl ?_
  simp only [push_cast, ↓branch_true, ↓branch_false, Nat.reduceBEq, Nat.reduceAdd, Nat.reduceMul, Nat.reduceSub, Int.reduceToNat, reduceCtorEq, Int.reduceAdd, Int.reduceEq, Int.reduceLE, Int.reduceLT, Nat.reduceLT, Nat.reduceLeDiff]
  refine tr_loop mixed (by kernel_rfl) (fun (j : Nat) => [(9, .v (.int .i64 j)), (8, .v (.bool (bokT p most N D j))), (1, .s 3 0 0 p.m cap 2), (2, .s 4 0 0 p.n mc 1), (3, .p 5 0 0)]) (fun _ => obP p ++ [rFx p.m cap N D, rI p.n mc most, rBx p]) (fun j => j ≤ p.n ∧ ∀ k, k < j → colS p N D k ≠ none) (fun j => p.n - j) 0 ⟨Nat.zero_le _, fun k hk => absurd hk (Nat.not_lt_zero _)⟩ (Mt.wk (rl := [0, 1, 2, 3, 4, 5]) ⟨by kernel_rfl, ?_, ?_⟩) ?_
  · simp only [push_cast, ↓branch_true, ↓branch_false, Nat.reduceBEq, Nat.reduceAdd, Nat.reduceMul, Nat.reduceSub, Int.reduceToNat, reduceCtorEq, Int.reduceAdd, Int.reduceEq, Int.reduceLE, Int.reduceLT, Nat.reduceLT, Nat.reduceLeDiff]
    refine congrArg Value.bool ?_
    exact decide_eq_true fun j hj => absurd hj (Nat.not_lt_zero _)
  · simp only [push_cast, ↓branch_true, ↓branch_false, Nat.reduceBEq, Nat.reduceAdd, Nat.reduceMul, Nat.reduceSub, Int.reduceToNat, reduceCtorEq, Int.reduceAdd, Int.reduceEq, Int.reduceLE, Int.reduceLT, Nat.reduceLT, Nat.reduceLeDiff]
    try trivial
  rintro j ⟨g1, g2⟩
  simp only [push_cast, ↓branch_true, ↓branch_false, Nat.reduceBEq, Nat.reduceAdd, Nat.reduceMul, Nat.reduceSub, Int.reduceToNat, reduceCtorEq, Int.reduceAdd, Int.reduceEq, Int.reduceLE, Int.reduceLT, Nat.reduceLT, Nat.reduceLeDiff]
  refine ⟨fun h3 => ?_, fun h3 => ?_⟩
  · have hjn : j < p.n := by omega
    repeat (with_reducible refine And.intro (by omega) ?_)
    refine sp_at (rcolumn_sp p j hjn hp.ln (by omega) (by omega)) [0, 1, 2] (by kernel_rfl) ?_ ?_ ?_
    · simp only [push_cast, ↓branch_true, ↓branch_false, Nat.reduceBEq, Nat.reduceAdd, Nat.reduceMul, Nat.reduceSub, Int.reduceToNat, reduceCtorEq, Int.reduceAdd, Int.reduceEq, Int.reduceLE, Int.reduceLT, Nat.reduceLT, Nat.reduceLeDiff]
    · simp only [push_cast, ↓branch_true, ↓branch_false, Nat.reduceBEq, Nat.reduceAdd, Nat.reduceMul, Nat.reduceSub, Int.reduceToNat, reduceCtorEq, Int.reduceAdd, Int.reduceEq, Int.reduceLE, Int.reduceLT, Nat.reduceLT, Nat.reduceLeDiff]
    rintro _ _ ⟨cc, hcc, rfl, rfl⟩
    have hs := rsum_pu 1 0 (fun _ => p.m) (fun _ => cc) (fun _ t => p.a t j) p.m cap N D (by decide) (Nat.le_refl _) (by omega) (fun t ht => by have := hp.a t j ht hjn; omega) hf
    have hcol : ofS (fun t => p.a t j) N D p.m = colS p N D j := rfl
    rw [hcol] at hs
    simp only [push_cast, ↓branch_true, ↓branch_false, Nat.reduceBEq, Nat.reduceAdd, Nat.reduceMul, Nat.reduceSub, Int.reduceToNat, reduceCtorEq, Int.reduceAdd, Int.reduceEq, Int.reduceLE, Int.reduceLT, Nat.reduceLT, Nat.reduceLeDiff]
    refine sp_c hs rfl [6, 3] ?_
    cases hr : colS p N D j with
    | none =>
      have hA : decide (∀ j, j < p.n → colS p N D j ≠ none) = false := decide_eq_false fun h => h j hjn hr
      simp only [push_cast, ↓branch_true, ↓branch_false, Nat.reduceBEq, Nat.reduceAdd, Nat.reduceMul, Nat.reduceSub, Int.reduceToNat, reduceCtorEq, Int.reduceAdd, Int.reduceEq, Int.reduceLE, Int.reduceLT, Nat.reduceLT, Nat.reduceLeDiff]
      refine ⟨_, _, [0, 1, 2, 3, 4], ?_, by kernel_rfl, ?_, by rw [hA], rfl⟩
      · simp only [push_cast, ↓branch_true, ↓branch_false, Nat.reduceBEq, Nat.reduceAdd, Nat.reduceMul, Nat.reduceSub, Int.reduceToNat, reduceCtorEq, Int.reduceAdd, Int.reduceEq, Int.reduceLE, Int.reduceLT, Nat.reduceLT, Nat.reduceLeDiff]
        rfl
      · simp only [push_cast, ↓branch_true, ↓branch_false, Nat.reduceBEq, Nat.reduceAdd, Nat.reduceMul, Nat.reduceSub, Int.reduceToNat, reduceCtorEq, Int.reduceAdd, Int.reduceEq, Int.reduceLE, Int.reduceLT, Nat.reduceLT, Nat.reduceLeDiff]
    | some s =>
      obtain ⟨fn, fd⟩ := s
      have hfr : Frc fn fd := ofS_frc (fun k hk => (hf k hk).d0) (hcol.trans hr)
      have hmj := hmo j hjn
      have hcm := rcmp_pu hfr (frc_one hmj)
      have hof := rof_pu (most j)
      rw [show ((1 : Nat) : Int) = 1 from rfl, Int.mul_one] at hcm
      have hck := cOk_cmp most j (fn, fd) _ rfl
      change cOk most j (fn, fd) = decide (cmpS fn (most j * (fd : Nat)) ≤ 0) at hck
      have hnx : bokT p most N D (j + 1) = (bokT p most N D j && cOk most j (fn, fd)) := by rw [bokT_succ, hr]; rfl
      have hnext : ∀ k, k < j + 1 → colS p N D k ≠ none := fun k hk => by
        by_cases e : k = j
        · rw [e, hr]; exact fun h => by cases h
        · exact g2 k (by omega)
      generalize cmpS fn (most j * (fd : Nat)) = c at *
      rw [hck] at hnx
      cases hb : bokT p most N D j with
      | true =>
        rw [hb, Bool.true_and] at hnx
        simp only [push_cast, ↓branch_true, ↓branch_false, Nat.reduceBEq, Nat.reduceAdd, Nat.reduceMul, Nat.reduceSub, Int.reduceToNat, reduceCtorEq, Int.reduceAdd, Int.reduceEq, Int.reduceLE, Int.reduceLT, Nat.reduceLT, Nat.reduceLeDiff]
        repeat (with_reducible refine And.intro (by omega) ?_)
        refine qc_c (hof) rfl [] ?_
        simp only [push_cast, ↓branch_true, ↓branch_false, Nat.reduceBEq, Nat.reduceAdd, Nat.reduceMul, Nat.reduceSub, Int.reduceToNat, reduceCtorEq, Int.reduceAdd, Int.reduceEq, Int.reduceLE, Int.reduceLT, Nat.reduceLT, Nat.reduceLeDiff]
        refine qc_c (hcm) rfl [] ?_
        simp only [push_cast, ↓branch_true, ↓branch_false, Nat.reduceBEq, Nat.reduceAdd, Nat.reduceMul, Nat.reduceSub, Int.reduceToNat, reduceCtorEq, Int.reduceAdd, Int.reduceEq, Int.reduceLE, Int.reduceLT, Nat.reduceLT, Nat.reduceLeDiff]
        repeat (with_reducible refine And.intro (by omega) ?_)
        refine lpK_normal (j + 1) [0, 1, 2, 3, 4, 5] ⟨by omega, hnext⟩ (by omega) (by kernel_rfl) ?_ ?_
        · simp only [push_cast, ↓branch_true, ↓branch_false, Nat.reduceBEq, Nat.reduceAdd, Nat.reduceMul, Nat.reduceSub, Int.reduceToNat, reduceCtorEq, Int.reduceAdd, Int.reduceEq, Int.reduceLE, Int.reduceLT, Nat.reduceLT, Nat.reduceLeDiff]
          rw [hnx]
          try trivial
        · simp only [push_cast, ↓branch_true, ↓branch_false, Nat.reduceBEq, Nat.reduceAdd, Nat.reduceMul, Nat.reduceSub, Int.reduceToNat, reduceCtorEq, Int.reduceAdd, Int.reduceEq, Int.reduceLE, Int.reduceLT, Nat.reduceLT, Nat.reduceLeDiff]
      | false =>
        rw [hb, Bool.false_and] at hnx
        simp only [push_cast, ↓branch_true, ↓branch_false, Nat.reduceBEq, Nat.reduceAdd, Nat.reduceMul, Nat.reduceSub, Int.reduceToNat, reduceCtorEq, Int.reduceAdd, Int.reduceEq, Int.reduceLE, Int.reduceLT, Nat.reduceLT, Nat.reduceLeDiff]
        repeat (with_reducible refine And.intro (by omega) ?_)
        refine lpK_normal (j + 1) [0, 1, 2, 3, 4, 5] ⟨by omega, hnext⟩ (by omega) (by kernel_rfl) ?_ ?_
        · simp only [push_cast, ↓branch_true, ↓branch_false, Nat.reduceBEq, Nat.reduceAdd, Nat.reduceMul, Nat.reduceSub, Int.reduceToNat, reduceCtorEq, Int.reduceAdd, Int.reduceEq, Int.reduceLE, Int.reduceLT, Nat.reduceLT, Nat.reduceLeDiff]
          rw [hnx]
          try trivial
        · simp only [push_cast, ↓branch_true, ↓branch_false, Nat.reduceBEq, Nat.reduceAdd, Nat.reduceMul, Nat.reduceSub, Int.reduceToNat, reduceCtorEq, Int.reduceAdd, Int.reduceEq, Int.reduceLE, Int.reduceLT, Nat.reduceLT, Nat.reduceLeDiff]
  · obtain rfl : j = p.n := by omega
    have hA : decide (∀ j, j < p.n → colS p N D j ≠ none) = true := decide_eq_true g2
    refine ⟨_, _, [0, 1, 2, 3, 4], ?_, by kernel_rfl, ?_, by rw [hA], rfl⟩
    · simp only [push_cast, ↓branch_true, ↓branch_false, Nat.reduceBEq, Nat.reduceAdd, Nat.reduceMul, Nat.reduceSub, Int.reduceToNat, reduceCtorEq, Int.reduceAdd, Int.reduceEq, Int.reduceLE, Int.reduceLT, Nat.reduceLT, Nat.reduceLeDiff]
      exact ⟨rfl, rfl⟩
    · simp only [push_cast, ↓branch_true, ↓branch_false, Nat.reduceBEq, Nat.reduceAdd, Nat.reduceMul, Nat.reduceSub, Int.reduceToNat, reduceCtorEq, Int.reduceAdd, Int.reduceEq, Int.reduceLE, Int.reduceLT, Nat.reduceLT, Nat.reduceLeDiff]
set_option maxHeartbeats 16000000 in
theorem rbelow1_sp (p : Pm) (hp : PmOk p) (cap : Nat) (N : Nat → Int) (D : Nat → Nat) (hf : ∀ k, k < p.m → Frc (N k) (D k)) :
    Sp Try.prog 58 [svP p, .s 3 0 0 p.m cap 2, .s 0 0 0 p.n p.nc 1] (obP p ++ [rFx p.m cap N D]) (fun r H => r = .t [.v (.bool (decide (∀ j, j < p.n → colS p N D j ≠ none) && belB p p.co N D)), .v (.int .i64 (errQ (decide (∀ j, j < p.n → colS p N D j ≠ none))))] ∧ H = obP p ++ [rFx p.m cap N D]) := by
  have hn := hp.n
  have hmo : ∀ j, j < p.n → (p.co j).natAbs ≤ 1152921504606846976 := fun j hj => by have := hp.co j hj; omega
  have hm := hp.m
  refine sp_weak ?_
  refine sp_of_ex true [] mixed Try.call58 Try.func58 rfl Try.ntmps58 Try.results58 (by decide +kernel) rfl ?_
  simp only [push_cast, ↓branch_true, ↓branch_false, Nat.reduceBEq, Nat.reduceAdd, Nat.reduceMul, Nat.reduceSub, Int.reduceToNat, reduceCtorEq, Int.reduceAdd, Int.reduceEq, Int.reduceLE, Int.reduceLT, Nat.reduceLT, Nat.reduceLeDiff]
  refine tr_loop mixed (by kernel_rfl) (fun (j : Nat) => [(9, .v (.int .i64 j)), (8, .v (.bool (bokT p p.co N D j))), (1, .s 3 0 0 p.m cap 2), (2, .s 0 0 0 p.n p.nc 1), (3, .p 4 0 0)]) (fun _ => obP p ++ [rFx p.m cap N D, rBx p]) (fun j => j ≤ p.n ∧ ∀ k, k < j → colS p N D k ≠ none) (fun j => p.n - j) 0 ⟨Nat.zero_le _, fun k hk => absurd hk (Nat.not_lt_zero _)⟩ (Mt.wk (rl := [0, 1, 2, 3, 4]) ⟨by kernel_rfl, ?_, ?_⟩) ?_
  · simp only [push_cast, ↓branch_true, ↓branch_false, Nat.reduceBEq, Nat.reduceAdd, Nat.reduceMul, Nat.reduceSub, Int.reduceToNat, reduceCtorEq, Int.reduceAdd, Int.reduceEq, Int.reduceLE, Int.reduceLT, Nat.reduceLT, Nat.reduceLeDiff]
    refine congrArg Value.bool ?_
    exact decide_eq_true fun j hj => absurd hj (Nat.not_lt_zero _)
  · simp only [push_cast, ↓branch_true, ↓branch_false, Nat.reduceBEq, Nat.reduceAdd, Nat.reduceMul, Nat.reduceSub, Int.reduceToNat, reduceCtorEq, Int.reduceAdd, Int.reduceEq, Int.reduceLE, Int.reduceLT, Nat.reduceLT, Nat.reduceLeDiff]
    try trivial
  rintro j ⟨g1, g2⟩
  simp only [push_cast, ↓branch_true, ↓branch_false, Nat.reduceBEq, Nat.reduceAdd, Nat.reduceMul, Nat.reduceSub, Int.reduceToNat, reduceCtorEq, Int.reduceAdd, Int.reduceEq, Int.reduceLE, Int.reduceLT, Nat.reduceLT, Nat.reduceLeDiff]
  refine ⟨fun h3 => ?_, fun h3 => ?_⟩
  · have hjn : j < p.n := by omega
    repeat (with_reducible refine And.intro (by omega) ?_)
    refine sp_at (rcolumn_sp p j hjn hp.ln (by omega) (by omega)) [0, 1, 2] (by kernel_rfl) ?_ ?_ ?_
    · simp only [push_cast, ↓branch_true, ↓branch_false, Nat.reduceBEq, Nat.reduceAdd, Nat.reduceMul, Nat.reduceSub, Int.reduceToNat, reduceCtorEq, Int.reduceAdd, Int.reduceEq, Int.reduceLE, Int.reduceLT, Nat.reduceLT, Nat.reduceLeDiff]
    · simp only [push_cast, ↓branch_true, ↓branch_false, Nat.reduceBEq, Nat.reduceAdd, Nat.reduceMul, Nat.reduceSub, Int.reduceToNat, reduceCtorEq, Int.reduceAdd, Int.reduceEq, Int.reduceLE, Int.reduceLT, Nat.reduceLT, Nat.reduceLeDiff]
    rintro _ _ ⟨cc, hcc, rfl, rfl⟩
    have hs := rsum_pu 1 0 (fun _ => p.m) (fun _ => cc) (fun _ t => p.a t j) p.m cap N D (by decide) (Nat.le_refl _) (by omega) (fun t ht => by have := hp.a t j ht hjn; omega) hf
    have hcol : ofS (fun t => p.a t j) N D p.m = colS p N D j := rfl
    rw [hcol] at hs
    simp only [push_cast, ↓branch_true, ↓branch_false, Nat.reduceBEq, Nat.reduceAdd, Nat.reduceMul, Nat.reduceSub, Int.reduceToNat, reduceCtorEq, Int.reduceAdd, Int.reduceEq, Int.reduceLE, Int.reduceLT, Nat.reduceLT, Nat.reduceLeDiff]
    refine sp_c hs rfl [5, 3] ?_
    cases hr : colS p N D j with
    | none =>
      have hA : decide (∀ j, j < p.n → colS p N D j ≠ none) = false := decide_eq_false fun h => h j hjn hr
      simp only [push_cast, ↓branch_true, ↓branch_false, Nat.reduceBEq, Nat.reduceAdd, Nat.reduceMul, Nat.reduceSub, Int.reduceToNat, reduceCtorEq, Int.reduceAdd, Int.reduceEq, Int.reduceLE, Int.reduceLT, Nat.reduceLT, Nat.reduceLeDiff]
      refine ⟨_, _, [0, 1, 2, 3], ?_, by kernel_rfl, ?_, by rw [hA], rfl⟩
      · simp only [push_cast, ↓branch_true, ↓branch_false, Nat.reduceBEq, Nat.reduceAdd, Nat.reduceMul, Nat.reduceSub, Int.reduceToNat, reduceCtorEq, Int.reduceAdd, Int.reduceEq, Int.reduceLE, Int.reduceLT, Nat.reduceLT, Nat.reduceLeDiff]
        rfl
      · simp only [push_cast, ↓branch_true, ↓branch_false, Nat.reduceBEq, Nat.reduceAdd, Nat.reduceMul, Nat.reduceSub, Int.reduceToNat, reduceCtorEq, Int.reduceAdd, Int.reduceEq, Int.reduceLE, Int.reduceLT, Nat.reduceLT, Nat.reduceLeDiff]
    | some s =>
      obtain ⟨fn, fd⟩ := s
      have hfr : Frc fn fd := ofS_frc (fun k hk => (hf k hk).d0) (hcol.trans hr)
      have hmj := hmo j hjn
      have hcm := rcmp_pu hfr (frc_one hmj)
      have hof := rof_pu (p.co j)
      rw [show ((1 : Nat) : Int) = 1 from rfl, Int.mul_one] at hcm
      have hck := cOk_cmp p.co j (fn, fd) _ rfl
      change cOk p.co j (fn, fd) = decide (cmpS fn (p.co j * (fd : Nat)) ≤ 0) at hck
      have hnx : bokT p p.co N D (j + 1) = (bokT p p.co N D j && cOk p.co j (fn, fd)) := by rw [bokT_succ, hr]; rfl
      have hnext : ∀ k, k < j + 1 → colS p N D k ≠ none := fun k hk => by
        by_cases e : k = j
        · rw [e, hr]; exact fun h => by cases h
        · exact g2 k (by omega)
      generalize cmpS fn (p.co j * (fd : Nat)) = c at *
      rw [hck] at hnx
      cases hb : bokT p p.co N D j with
      | true =>
        rw [hb, Bool.true_and] at hnx
        simp only [push_cast, ↓branch_true, ↓branch_false, Nat.reduceBEq, Nat.reduceAdd, Nat.reduceMul, Nat.reduceSub, Int.reduceToNat, reduceCtorEq, Int.reduceAdd, Int.reduceEq, Int.reduceLE, Int.reduceLT, Nat.reduceLT, Nat.reduceLeDiff]
        repeat (with_reducible refine And.intro (by omega) ?_)
        refine qc_c (hof) rfl [] ?_
        simp only [push_cast, ↓branch_true, ↓branch_false, Nat.reduceBEq, Nat.reduceAdd, Nat.reduceMul, Nat.reduceSub, Int.reduceToNat, reduceCtorEq, Int.reduceAdd, Int.reduceEq, Int.reduceLE, Int.reduceLT, Nat.reduceLT, Nat.reduceLeDiff]
        refine qc_c (hcm) rfl [] ?_
        simp only [push_cast, ↓branch_true, ↓branch_false, Nat.reduceBEq, Nat.reduceAdd, Nat.reduceMul, Nat.reduceSub, Int.reduceToNat, reduceCtorEq, Int.reduceAdd, Int.reduceEq, Int.reduceLE, Int.reduceLT, Nat.reduceLT, Nat.reduceLeDiff]
        repeat (with_reducible refine And.intro (by omega) ?_)
        refine lpK_normal (j + 1) [0, 1, 2, 3, 4] ⟨by omega, hnext⟩ (by omega) (by kernel_rfl) ?_ ?_
        · simp only [push_cast, ↓branch_true, ↓branch_false, Nat.reduceBEq, Nat.reduceAdd, Nat.reduceMul, Nat.reduceSub, Int.reduceToNat, reduceCtorEq, Int.reduceAdd, Int.reduceEq, Int.reduceLE, Int.reduceLT, Nat.reduceLT, Nat.reduceLeDiff]
          rw [hnx]
          try trivial
        · simp only [push_cast, ↓branch_true, ↓branch_false, Nat.reduceBEq, Nat.reduceAdd, Nat.reduceMul, Nat.reduceSub, Int.reduceToNat, reduceCtorEq, Int.reduceAdd, Int.reduceEq, Int.reduceLE, Int.reduceLT, Nat.reduceLT, Nat.reduceLeDiff]
      | false =>
        rw [hb, Bool.false_and] at hnx
        simp only [push_cast, ↓branch_true, ↓branch_false, Nat.reduceBEq, Nat.reduceAdd, Nat.reduceMul, Nat.reduceSub, Int.reduceToNat, reduceCtorEq, Int.reduceAdd, Int.reduceEq, Int.reduceLE, Int.reduceLT, Nat.reduceLT, Nat.reduceLeDiff]
        repeat (with_reducible refine And.intro (by omega) ?_)
        refine lpK_normal (j + 1) [0, 1, 2, 3, 4] ⟨by omega, hnext⟩ (by omega) (by kernel_rfl) ?_ ?_
        · simp only [push_cast, ↓branch_true, ↓branch_false, Nat.reduceBEq, Nat.reduceAdd, Nat.reduceMul, Nat.reduceSub, Int.reduceToNat, reduceCtorEq, Int.reduceAdd, Int.reduceEq, Int.reduceLE, Int.reduceLT, Nat.reduceLT, Nat.reduceLeDiff]
          rw [hnx]
          try trivial
        · simp only [push_cast, ↓branch_true, ↓branch_false, Nat.reduceBEq, Nat.reduceAdd, Nat.reduceMul, Nat.reduceSub, Int.reduceToNat, reduceCtorEq, Int.reduceAdd, Int.reduceEq, Int.reduceLE, Int.reduceLT, Nat.reduceLT, Nat.reduceLeDiff]
  · obtain rfl : j = p.n := by omega
    have hA : decide (∀ j, j < p.n → colS p N D j ≠ none) = true := decide_eq_true g2
    refine ⟨_, _, [0, 1, 2, 3], ?_, by kernel_rfl, ?_, by rw [hA], rfl⟩
    · simp only [push_cast, ↓branch_true, ↓branch_false, Nat.reduceBEq, Nat.reduceAdd, Nat.reduceMul, Nat.reduceSub, Int.reduceToNat, reduceCtorEq, Int.reduceAdd, Int.reduceEq, Int.reduceLE, Int.reduceLT, Nat.reduceLT, Nat.reduceLeDiff]
      exact ⟨rfl, rfl⟩
    · simp only [push_cast, ↓branch_true, ↓branch_false, Nat.reduceBEq, Nat.reduceAdd, Nat.reduceMul, Nat.reduceSub, Int.reduceToNat, reduceCtorEq, Int.reduceAdd, Int.reduceEq, Int.reduceLE, Int.reduceLT, Nat.reduceLT, Nat.reduceLeDiff]
end Go.Proofs.Ytmefgachdnlaoaa
