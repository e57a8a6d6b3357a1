/- Contract: the reference's first table. -/
import Derived.Test.YtdeaaonppokgkaaGreatZE
import Derived.Test.YtdeaaonppokgkaaGreatZA
set_option maxRecDepth 100000
set_option linter.unusedSimpArgs false
set_option linter.unusedVariables false
namespace Go.Proofs.YtdeaaonppokgkaaGreat
open Go.RowKit Lp
def bxP (p : Pm) : Ob := ⟨35, false, .st [.s 0 0 0 p.n p.nc 1, .s 1 0 0 p.m p.mc 3]⟩
/-- The table while it is built: t rows. -/
def bgT (p : Pm) (t cc bc : Nat) : List Ob :=
  [bxP p, zT, ⟨70, false, .st [.s 7 0 0 t cc 1, .s 9 0 0 t bc 1, .v (.int .i64 1), .v (.int .i64 (rF p : Nat))]⟩, oI (rR p + 1) (rR p + 1) (L0 p t), oCl 8 t (rR p + 1) cc, oCf t (rR p + 1) (rA p), oI t bc (fun k => (rF p + k : Nat))]
attribute [push_cast] bxP bgT
theorem r0_le {p : Pm} (hp : PmOk p) {t : Nat} (ht : t < p.m) (j : Nat) : (sgn p t * r0 p t j).natAbs ≤ 1073741824 := by
  have h1 : (r0 p t j).natAbs ≤ 1073741824 := by
    have hb := hp.b t ht
    unfold r0
    by_cases e1 : j < p.n
    · rw [if_pos e1]
      have := hp.a t j ht e1
      omega
    · rw [if_neg e1]
      split
      · cases kdOf (p.kd t) <;> decide
      · split
        · omega
        · decide
  unfold sgn
  split <;> omega
theorem L0_succ (p : Pm) (t j : Nat) : L0 p (t + 1) j = L0 p t j - sgn p t * r0 p t j := by
  unfold L0
  rw [sm]
  omega
theorem L0_le {p : Pm} (hp : PmOk p) (j : Nat) {t : Nat} : t ≤ p.m → (L0 p t j).natAbs ≤ t * 1073741824 := by
  induction t with
  | zero => intro _; simp [L0, sm]
  | succ t ih =>
    intro h
    have h1 := ih (by omega)
    have h2 := r0_le hp (t := t) (by omega) j
    rw [L0_succ]
    omega
theorem rA_bif (p : Pm) (t k : Nat) : rA p t k = bif k == rF p + t then 1 else sgn p t * r0 p t k := by
  unfold rA rF
  by_cases e : k = p.n + p.m + t
  · rw [if_pos e, e, beq_self_eq_true]
    rfl
  · rw [if_neg e, beq_eq_false_iff_ne.2 e]
    rfl
def l1 (p : Pm) (t j k : Nat) : Int := bif decide (k < j) then L0 p (t + 1) k else L0 p t k
theorem l1_zero (p : Pm) (t k : Nat) : l1 p t 0 k = L0 p t k := by simp [l1]
theorem l1_at (p : Pm) (t j : Nat) : l1 p t j j = L0 p t j := by simp [l1]
theorem l1_all (p : Pm) (t : Nat) {N k : Nat} (h : k < N) : l1 p t N k = L0 p (t + 1) k := by simp [l1, h]
theorem l1_set (p : Pm) (t j k : Nat) : l1 p t (j + 1) k = bif 0 == 0 && k == j then L0 p t j - sgn p t * r0 p t j else l1 p t j k := by
  unfold l1
  by_cases e : k = j
  · subst e; simp [L0_succ]
  · rw [beq_eq_false_iff_ne.2 e, show decide (k < j + 1) = decide (k < j) by rw [decide_eq_decide]; omega]
    simp
set_option maxHeartbeats 8000000 in
theorem rbegin_sp (p : Pm) (hp : PmOk p) : Sp Tryz.prog 29 [svP p] (obP p) (fun r H => ∃ q : Rm, q.m = p.m ∧ q.F = rF p ∧ r = svT q 3 1 ∧ H = obP p ++ rtO q 3 (fT p).T (fT p).b) := by
  have hn := hp.n
  have hm := hp.m
  have hmc := hp.mc
  have hnc := hp.nc
  have hfz := p.fzm
  have hF : rF p = p.n + p.m := rfl
  have hR : rR p = p.n + p.m + p.m := rfl
  refine sp_wk ?_
  refine sp_of_ex true [] mixed Tryz.call29 Tryz.func29 rfl Tryz.ntmps29 Tryz.results29 (by decide +kernel) rfl ?_
  refine sxq ?_
  try with_reducible exact trivial
  repeat (with_reducible refine And.intro (by omega) ?_)
  have hW : ((p.n : Int) + 2 * (p.m : Int) + 1).toNat = rR p + 1 := by omega
  simp only [push_cast, ↓branch_true, ↓branch_false, Nat.reduceBEq, Nat.reduceAdd, Nat.reduceMul, Nat.reduceSub, Int.reduceToNat, reduceCtorEq, Int.reduceAdd, Int.reduceEq, Int.reduceLE, Int.reduceLT, Nat.reduceLT, Nat.reduceLeDiff, hW]
  refine tr_loop mixed (by kernel_rfl) (fun (x : Nat × Nat × Nat) => [(7, .v (.int .i64 x.1)), (6, .s 6 0 0 (rR p + 1) (rR p + 1) 1), (5, .p 5 0 0), (4, .v (.int .i64 p.m)), (3, .v (.int .i64 p.n)), (2, .p 4 0 0), (1, .p 3 0 0)])
    (fun x => obP p ++ bgT p x.1 x.2.1 x.2.2) (fun x => x.1 ≤ p.m ∧ x.1 ≤ x.2.1 ∧ x.1 ≤ x.2.2) (fun x => p.m - x.1) (0, 0, 0) ⟨Nat.zero_le _, Nat.le_refl _, Nat.le_refl _⟩ (Mt.wk (rl := [0, 1, 2, 3, 4, 5, 6, 1000, 1001, 1002]) ⟨by kernel_rfl, ?_, ?_⟩) ?_
  · refine sxq ?_
    try with_reducible exact trivial
  · refine sxq ?_
    try with_reducible exact trivial
    exact ⟨congrArg (Value.int .i64) (by omega), fun _ _ _ _ => rfl⟩
  rintro ⟨t, cc, bc⟩ ⟨g1, g2, g3⟩
  simp only at g1 g2 g3
  rcases Nat.lt_or_ge t p.m with htm | htm
  · have hln := hp.ln t htm
    have hkd := hp.kd t htm
    have hbb := hp.b t htm
    have hnt : ((p.n : Int) + (t : Nat)).toNat = p.n + t := by omega
    have hnm : ((p.n : Int) + 2 * (p.m : Nat)).toNat = rR p := by omega
    have hnmt : ((p.n : Int) + (p.m : Nat) + (t : Nat)).toNat = rF p + t := by omega
    simp only [push_cast, ↓branch_true, ↓branch_false, Nat.reduceBEq, Nat.reduceAdd, Nat.reduceMul, Nat.reduceSub, Int.reduceToNat, reduceCtorEq, Int.reduceAdd, Int.reduceEq, Int.reduceLE, Int.reduceLT, Nat.reduceLT, Nat.reduceLeDiff, hW]
    refine ⟨fun h1 => ?_, fun h1 => absurd h1 (by omega)⟩
    repeat (with_reducible refine And.intro (by omega) ?_)
    have hcp := copyF_sp p t (rR p + 1) (rR p + 1) (fun _ => 0) htm (by omega) (by omega)
    rw [hln] at hcp ⊢
    refine sp_at hcp [10, 2] (by kernel_rfl) ?_ ?_ ?_
    · refine sxq ?_
      try with_reducible exact trivial
    · refine sxq ?_
      try with_reducible exact trivial
    rintro _ _ ⟨rfl, rfl⟩
    refine sxq ?_
    try with_reducible exact trivial
    refine' share (X := Unit) (fun _ => [(10, .v (.int .i64 0)), (8, .s 10 0 0 (rR p + 1) (rR p + 1) 1), (7, .v (.int .i64 t)), (6, .s 6 0 0 (rR p + 1) (rR p + 1) 1), (5, .p 5 0 0), (4, .v (.int .i64 p.m)), (3, .v (.int .i64 p.n)), (2, .p 4 0 0), (1, .p 3 0 0)])
      (fun _ => obP p ++ bgT p t cc bc ++ [oI (rR p + 1) (rR p + 1) (fun j => sgn p t * r0 p t j)]) (fun _ => True) ?_ ?_
    case refine'_4 =>
      intro hrest
      have hrest := hrest () trivial
      have hr0 : ∀ j, r0 p t j = if j < p.n then p.a t j else if j = p.n + t then (kdOf (p.kd t)).slack else if j = rR p then p.b t else 0 := fun _ => rfl
      have hkd2 := hkd
      rcases hkd2 with k | k | k
      case' inl => have hrow : ∀ j, r0 p t j = if j < p.n then p.a t j else if j = p.n + t then 1 else if j = rR p then p.b t else 0 := fun j => by rw [hr0 j, k]; rfl
      case' inr.inl => have hrow : ∀ j, r0 p t j = if j < p.n then p.a t j else if j = p.n + t then -1 else if j = rR p then p.b t else 0 := fun j => by rw [hr0 j, k]; rfl
      case' inr.inr => have hrow : ∀ j, r0 p t j = if j < p.n then p.a t j else if j = p.n + t then 0 else if j = rR p then p.b t else 0 := fun j => by rw [hr0 j, k]; rfl
      all_goals
        simp only [push_cast, ↓branch_true, ↓branch_false, Nat.reduceBEq, Nat.reduceAdd, Nat.reduceMul, Nat.reduceSub, Int.reduceToNat, reduceCtorEq, Int.reduceAdd, Int.reduceEq, Int.reduceLE, Int.reduceLT, Nat.reduceLT, Nat.reduceLeDiff, k]
        rw [hnm]
        try rw [hnt]
        repeat (with_reducible refine And.intro (by omega) ?_)
        refine ⟨fun hb => ?_, fun hb => ?_⟩
        · have hsg : sgn p t = -1 := by unfold sgn; rw [if_pos hb]
          rw [hsg] at hrest
          refine tr_loop mixed (by kernel_rfl) (fun (j : Nat) => [(9, .v (.int .i64 j)), (8, .s 10 0 0 (rR p + 1) (rR p + 1) 1), (7, .v (.int .i64 t)), (6, .s 6 0 0 (rR p + 1) (rR p + 1) 1), (5, .p 5 0 0), (4, .v (.int .i64 p.m)), (3, .v (.int .i64 p.n)), (2, .p 4 0 0), (1, .p 3 0 0)])
            (fun j => obP p ++ bgT p t cc bc ++ [oI (rR p + 1) (rR p + 1) (fun k => bif decide (k < j) then 0 - r0 p t k else r0 p t k)]) (fun j => j ≤ rR p + 1) (fun j => rR p + 1 - j) 0 (Nat.zero_le _) (Mt.wk (rl := [0, 1, 2, 3, 4, 5, 6, 7, 8, 9, 10]) ⟨by kernel_rfl, ?_, ?_⟩) ?_
          · refine sxq ?_
            try with_reducible exact trivial
          · refine sxq ?_
            try with_reducible exact trivial
            intro i hi k hk
            obtain rfl : i = 0 := by omega
            refine ⟨congrArg (Value.int .i64) ?_, ?_⟩
            · simp only [hrow, kpF, Bool.cond_eq_ite]
              simp
              (repeat' split) <;> first | rfl | (exfalso; omega)
            · simp only [Bool.cond_self, mrg_nil]
              exact mt_nil
          intro j hj
          have hset := negR_set (r0 p t) j
          refine sxq ?_
          try with_reducible exact trivial
          refine ⟨fun h3 => ?_, fun h3 => ?_⟩
          · have hjR : j < rR p + 1 := by omega
            have hat : (bif decide (j < j) then 0 - r0 p t j else r0 p t j) = r0 p t j := by simp
            have hrb : (r0 p t j).natAbs ≤ 1073741824 := by
              rw [hrow]
              by_cases e1 : j < p.n
              · rw [if_pos e1]
                have := hp.a t j htm e1
                omega
              · rw [if_neg e1]
                split
                · first | decide | omega
                · split
                  · omega
                  · decide
            repeat (with_reducible refine And.intro (by omega) ?_)
            rw [hat]
            repeat (with_reducible refine And.intro (by omega) ?_)
            refine lpK_normal (j + 1) [0, 1, 2, 3, 4, 5, 6, 7, 8, 9, 10] (by omega) (by omega) (by kernel_rfl) ?_ ?_
            · refine sxq ?_
              try with_reducible exact trivial
            · refine sxq ?_
              try with_reducible exact trivial
              intro i hi k hk
              obtain rfl : i = 0 := by omega
              refine ⟨congrArg (Value.int .i64) (hset k), ?_⟩
              simp only [Bool.cond_self, mrg_nil]
              exact mt_nil
          · obtain rfl : j = rR p + 1 := by omega
            refine tr_wk (Mt.wk (rl := [0, 1, 2, 3, 4, 5, 6, 7, 8, 9, 10]) ⟨by kernel_rfl, ?_, ?_⟩) hrest
            · refine sxq ?_
              try with_reducible exact trivial
            · refine sxq ?_
              try with_reducible exact trivial
              exact fun _ _ k hk => congrArg (Value.int .i64) (by rw [decide_eq_true hk]; simp)
        · have hsg : sgn p t = 1 := by unfold sgn; rw [if_neg hb]
          rw [hsg] at hrest
          refine tr_wk (Mt.wk (rl := [0, 1, 2, 3, 4, 5, 6, 7, 8, 9, 10]) ⟨by kernel_rfl, ?_, ?_⟩) hrest
          · refine sxq ?_
            try with_reducible exact trivial
          · refine sxq ?_
            try with_reducible exact trivial
            intro i hi k hk
            obtain rfl : i = 0 := by omega
            refine ⟨congrArg (Value.int .i64) ?_, ?_⟩
            · simp only [hrow, kpF, Bool.cond_eq_ite]
              simp
              (repeat' split) <;> first | rfl | (exfalso; omega)
            · simp only [Bool.cond_self, mrg_nil]
              exact mt_nil
    intro _ _
    refine tr_loop mixed (by kernel_rfl) (fun (j : Nat) => [(10, .v (.int .i64 j)), (8, .s 10 0 0 (rR p + 1) (rR p + 1) 1), (7, .v (.int .i64 t)), (6, .s 6 0 0 (rR p + 1) (rR p + 1) 1), (5, .p 5 0 0), (4, .v (.int .i64 p.m)), (3, .v (.int .i64 p.n)), (2, .p 4 0 0), (1, .p 3 0 0)])
      (fun j => obP p ++ [bxP p, zT, ⟨70, false, .st [.s 7 0 0 t cc 1, .s 9 0 0 t bc 1, .v (.int .i64 1), .v (.int .i64 (rF p : Nat))]⟩, oI (rR p + 1) (rR p + 1) (l1 p t j), oCl 8 t (rR p + 1) cc, oCf t (rR p + 1) (rA p), oI t bc (fun k => (rF p + k : Nat)), oI (rR p + 1) (rR p + 1) (fun j => sgn p t * r0 p t j)]) (fun j => j ≤ rR p + 1) (fun j => rR p + 1 - j) 0 (Nat.zero_le _) (Mt.wk (rl := [0, 1, 2, 3, 4, 5, 6, 7, 8, 9, 10]) ⟨by kernel_rfl, ?_, ?_⟩) ?_
    · refine sxq ?_
      try with_reducible exact trivial
    · simp only [push_cast, ↓branch_true, ↓branch_false, Nat.reduceBEq, Nat.reduceAdd, Nat.reduceMul, Nat.reduceSub, Int.reduceToNat, reduceCtorEq, Int.reduceAdd, Int.reduceEq, Int.reduceLE, Int.reduceLT, Nat.reduceLT, Nat.reduceLeDiff, l1_zero]
    intro j hj
    have hset := l1_set p t j
    have hat := l1_at p t j
    have b1 := r0_le hp htm j
    have b2 := L0_le hp j (t := t) (by omega)
    refine sxq ?_
    try with_reducible exact trivial
    refine ⟨fun h3 => ?_, fun h3 => ?_⟩
    · repeat (with_reducible refine And.intro (by omega) ?_)
      rw [hat]
      repeat (with_reducible refine And.intro (by omega) ?_)
      refine lpK_normal (j + 1) [0, 1, 2, 3, 4, 5, 6, 7, 8, 9, 10] (by omega) (by omega) (by kernel_rfl) ?_ ?_
      · refine sxq ?_
        try with_reducible exact trivial
      · refine sxq ?_
        try with_reducible exact trivial
        intro i hi k hk
        obtain rfl : i = 0 := by omega
        refine ⟨congrArg (Value.int .i64) (hset k), ?_⟩
        simp only [Bool.cond_self, mrg_nil]
        exact mt_nil
    · obtain rfl : j = rR p + 1 := by omega
      have hFt : ((p.n : Int) + (p.m : Nat) + (t : Nat)) = ((rF p : Nat) : Int) + (t : Nat) := by omega
      rw [hnmt]
      repeat (with_reducible refine And.intro (by omega) ?_)
      refine Or.inr ⟨by omega, by omega, fun c1 hc1 => ?_⟩
      repeat (with_reducible refine And.intro (by omega) ?_)
      refine Or.inr ⟨by omega, by omega, fun c2 hc2 => ?_⟩
      repeat (with_reducible refine And.intro (by omega) ?_)
      refine lpK_wk (t + 1, c1, c2) ⟨by simp only; omega, by simp only; omega, by simp only; omega⟩ (by simp only; omega) ((swk_join 8 10 (by omega) (by omega) ?_).trans (Mt.wk (rl := [0, 1, 2, 3, 4, 5, 6, 12, 8, 14]) ⟨by kernel_rfl, ?_, ?_⟩))
      · refine sxq ?_
        try with_reducible exact trivial
      · refine sxq ?_
        try with_reducible exact trivial
      · refine sxq ?_
        try with_reducible exact trivial
        refine ⟨fun _ _ k hk => congrArg (Value.int .i64) (l1_all p t hk).symm, fun _ _ k hk => ?_, fun i hi => ⟨?_, ?_, fun k hk => ?_⟩, fun _ _ k hk => ?_⟩
        · by_cases e : k < t
          · simp only [decide_eq_true e, cond_true]
            refine sxq ?_
            try with_reducible exact trivial
          · obtain rfl : k = t := by omega
            simp only [Nat.lt_irrefl, decide_false, cond_false]
            refine sxq ?_
            try with_reducible exact trivial
        · cases (i == t) <;> exact Nat.le_refl _
        · cases (i == t) <;> rfl
        · by_cases e : i = t
          · subst e
            rw [beq_self_eq_true, cond_true, rA_bif]
            cases (k == rF p + i)
            · refine sxq ?_
              try with_reducible exact trivial
            · refine sxq ?_
              try with_reducible exact trivial
          · have eb : (i == t) = false := by simpa using e
            rw [eb, cond_false]
            refine sxq ?_
            try with_reducible exact trivial
        · by_cases e : k < t
          · simp only [decide_eq_true e, cond_true]
            refine sxq ?_
            try with_reducible exact trivial
          · obtain rfl : k = t := by omega
            simp only [Nat.lt_irrefl, decide_false, cond_false]
            refine sxq ?_
            try with_reducible exact trivial
            rw [hFt]
  · obtain rfl : t = p.m := by omega
    refine sxq ?_
    try with_reducible exact trivial
    refine ⟨fun h => absurd h (by omega), fun _ => ?_⟩
    refine Or.inr ⟨by omega, by omega, fun c1 hc1 => ?_⟩
    refine ⟨_, _, (vwk_join 8 6 (by omega) (by omega) ?_).trans (vwk_mt [0, 1, 2, 11, 8, 9] ?_ (by kernel_rfl) ?_), ⟨p.m, rF p, c1, bc⟩, rfl, rfl, rfl, rfl⟩
    · refine sxq ?_
      try with_reducible exact trivial
    · refine sxq ?_
      try with_reducible exact trivial
    · have hRq : (Rm.R ⟨p.m, rF p, c1, bc⟩) = rR p := rfl
      simp only [push_cast, ↓branch_true, ↓branch_false, Nat.reduceBEq, Nat.reduceAdd, Nat.reduceMul, Nat.reduceSub, Int.reduceToNat, reduceCtorEq, Int.reduceAdd, Int.reduceEq, Int.reduceLE, Int.reduceLT, Nat.reduceLT, Nat.reduceLeDiff, hRq]
      refine ⟨fun _ _ k hk => ?_, fun i hi => ⟨?_, ?_, fun k hk => ?_⟩, fun _ _ k _ => ?_⟩
      · by_cases e : k < p.m
        · simp only [decide_eq_true e, cond_true]
          refine sxq ?_
          try with_reducible exact trivial
        · obtain rfl : k = p.m := by omega
          simp only [Nat.lt_irrefl, decide_false, cond_false]
          refine sxq ?_
          try with_reducible exact trivial
      · cases (i == p.m) <;> exact Nat.le_refl _
      · cases (i == p.m) <;> rfl
      · show mtL _ [.v (.int .i64 (if i < p.m then rA p i k else L0 p p.m k))] _
        by_cases e : i = p.m
        · rw [if_neg (by omega), e, beq_self_eq_true, cond_true]
          refine sxq ?_
          try with_reducible exact trivial
        · rw [if_pos (by omega), beq_eq_false_iff_ne.2 e, cond_false]
          refine sxq ?_
          try with_reducible exact trivial
      · exact congrArg (Value.int .i64) (Int.natCast_add _ _)
end Go.Proofs.YtdeaaonppokgkaaGreat
