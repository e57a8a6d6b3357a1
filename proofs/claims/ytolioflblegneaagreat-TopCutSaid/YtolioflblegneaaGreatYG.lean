/- TopCut: the walk. -/
import Derived.Test.YtolioflblegneaaGreatYC
set_option maxRecDepth 100000
set_option linter.unusedSimpArgs false
set_option linter.unusedVariables false
namespace Go.Proofs.YtolioflblegneaaGreat
open Go.RowKit
set_option maxHeartbeats 8000000 in
theorem topcut_sp (lim sc : Int) (l : List Pc) (pr : List Int) (c c2 : Nat) (hll : l.length ≤ 9223372036854775807) (hpr : pr.length ≤ 9223372036854775807) : Sp Tryz.prog 3 [.v (.int .i64 lim), .s 0 0 0 l.length c 2, .s 1 0 0 pr.length c2 1, .v (.int .i64 sc)] [rPc l, rInt 3 pr] (fun r _ => r = .v (.bool true)) := by
  have hbig := big_eq
  have hgr := greedy_sp (lotS lim) l 1 c (by show (1 : Nat) ≤ 9223372036854775807; decide) (by omega)
  refine sp_of_ex true [] mixed Tryz.call3 Tryz.func3 rfl Tryz.ntmps3 Tryz.results3 (by decide +kernel) rfl ?_
  refine sxq ?_
  try with_reducible exact trivial
  refine sp_c (awake_pu) rfl [] ?_
  refine sxq ?_
  try with_reducible exact trivial
  refine fun h20 => fun h25 => ?_
  refine sp_c (rorder_pu l c (by omega)) rfl [0] ?_
  refine sxq ?_
  try with_reducible exact trivial
  have hlot : ∀ i : Nat, i < 1 → (lotS lim).length ≤ 1 ∧ ∀ k, k < (lotS lim).length → mtL [2, 0] [SV.v (Value.int IntKind.i64 (ix (lotS lim) k).len), SV.v (Value.int IntKind.i64 (ix (lotS lim) k).cnt)] (List.take 2 (List.drop (k * 2) [.v (.int .i64 lim), .v (.int .i64 (-1))])) := fun _ _ => ⟨Nat.le_refl _, fun k hk => by
    have hk2 : k < 1 := hk
    have e : k = 0 := Nat.lt_one_iff.mp hk2
    subst e
    exact ⟨rfl, rfl, trivial⟩⟩
  cases ho : orderB l with
  | false =>
    have hg : givE lim l ≠ 0 := fun h => by rw [show givE lim l = 1 from if_pos ho] at h; cases h
    obtain ⟨n1, n2⟩ := greedy_no hg
    rw [n2] at hgr
    refine sxq ?_
    try with_reducible exact trivial
    refine sp_at hgr [2, 0] (by kernel_rfl) ?_ ?_ ?_
    · refine sxq ?_
      try with_reducible exact trivial
      rfl
    · refine sxq ?_
      try with_reducible exact trivial
      exact hlot
    rintro _ _ ⟨oc, cp, hoc, rfl, rfl⟩
    refine sxq ?_
    try with_reducible exact trivial
    refine sp_c (bbest_pu lim l c (by omega)) rfl [0] ?_
    refine sxq ?_
    try with_reducible exact trivial
    rw [if_neg hg]
    refine sxq ?_
    try with_reducible exact trivial
    refine ⟨fun h => absurd h n1, fun _ => ?_⟩
    have q1 : (gErr (lotS lim) l == 0) = false := by simp [n1]
    have q2 : (givE lim l == 0) = false := by simp [hg]
    rw [q1, q2]
    exact ⟨fun _ => ⟨fun _ => rfl, fun _ => rfl⟩, fun _ => ⟨fun _ => rfl, fun _ => rfl⟩⟩
  | true =>
  refine sxq ?_
  try with_reducible exact trivial
  refine sp_c (pieces_pu l c ho) rfl [0] ?_
  refine sxq ?_
  try with_reducible exact trivial
  intro h40
  by_cases hg : givE lim l = 0
  rotate_left
  · obtain ⟨n1, n2⟩ := greedy_no hg
    rw [n2] at hgr
    refine sp_at hgr [2, 0] (by kernel_rfl) ?_ ?_ ?_
    · refine sxq ?_
      try with_reducible exact trivial
      rfl
    · refine sxq ?_
      try with_reducible exact trivial
      exact hlot
    rintro _ _ ⟨oc, cp, hoc, rfl, rfl⟩
    refine sxq ?_
    try with_reducible exact trivial
    refine sp_c (bbest_pu lim l c (by omega)) rfl [0] ?_
    refine sxq ?_
    try with_reducible exact trivial
    rw [if_neg hg]
    refine sxq ?_
    try with_reducible exact trivial
    refine ⟨fun h => absurd h n1, fun _ => ?_⟩
    have q1 : (gErr (lotS lim) l == 0) = false := by simp [n1]
    have q2 : (givE lim l == 0) = false := by simp [hg]
    rw [q1, q2]
    exact ⟨fun _ => ⟨fun _ => rfl, fun _ => rfl⟩, fun _ => ⟨fun _ => rfl, fun _ => rfl⟩⟩
  have gE := greedy_lots hg (by omega)
  rw [gE] at hgr
  obtain ⟨p, hp⟩ : ∃ p, gRes (lotS lim) l = p := ⟨_, rfl⟩
  have hF := cut_facts hg (gplan gE).right
  rw [hp] at hF hgr
  refine sp_at hgr [2, 0] (by kernel_rfl) ?_ ?_ ?_
  · refine sxq ?_
    try with_reducible exact trivial
    rfl
  · refine sxq ?_
    try with_reducible exact trivial
    exact hlot
  rintro _ _ ⟨oc, cp, hoc, rfl, rfl⟩
  refine sxq ?_
  try with_reducible exact trivial
  refine sp_c (bbest_pu lim l c (by omega)) rfl [0] ?_
  refine sxq ?_
  try with_reducible exact trivial
  rw [if_pos hg, hg]
  refine sxq ?_
  try with_reducible exact trivial
  obtain ⟨_, hl1, hl2, hl3⟩ := givE_0 hg
  have hs := stB_lots hl1 hl2
  have hpp := right_plan hF.right
  obtain ⟨hp1, hp2⟩ := hF.small
  have hps : ∀ k, k < p.length → (ix p k).ps.length ≤ 9223372036854775806 := fun k hk => by have := hp2 k hk; omega
  obtain ⟨T, hT⟩ : ∃ T, timesT p p.length = T := ⟨_, rfl⟩
  have hTr := times_range hs hpp p.length (Nat.le_refl _)
  obtain ⟨u1, u2, u3⟩ := hF.used
  obtain ⟨w1, w2⟩ := hF.waste
  have hb := hF.best
  rw [hT] at hTr u2 u3 w2 hb
  have hmm := mul_le (show 0 ≤ T by omega) (show T ≤ 1000000000 by omega) (show 0 ≤ lim by omega) hl2
  have h1l : (1 : Nat) ≤ 9223372036854775807 := by decide
  refine sp_call (used_pu (lotS lim) p cp (big + 2) 1 oc (fmP p) h1l (by omega)) rfl [2, 3, 4] rfl ?_ ?_ ?_
  · refine sxq ?_
    try with_reducible exact trivial
    try rfl
  · refine sxq ?_
    try with_reducible exact trivial
    try exact fun _ _ => Nat.le_refl _
  rw [u1, u2, u3]
  refine sxq ?_
  try with_reducible exact trivial
  refine sp_call (check_pu (lotS lim) l p cp (big + 2) 1 c oc (fmP p) h1l (by omega) (by omega) (fun _ _ => rfl) hps (by omega)) rfl [2, 0, 3, 4] rfl ?_ ?_ ?_
  · refine sxq ?_
    try with_reducible exact trivial
    try rfl
  · refine sxq ?_
    try with_reducible exact trivial
    try exact fun _ _ => Nat.le_refl _
  rw [hs, ho, hF.right]
  refine sxq ?_
  try with_reducible exact trivial
  refine sp_call (waste_pu (lotS lim) l p cp (big + 2) 1 c oc (fmP p) h1l (by omega) (by omega) (fun _ _ => rfl) hps (by omega)) rfl [2, 0, 3, 4] rfl ?_ ?_ ?_
  · refine sxq ?_
    try with_reducible exact trivial
    try rfl
  · refine sxq ?_
    try with_reducible exact trivial
    try exact fun _ _ => Nat.le_refl _
  rw [w1, w2]
  refine sxq ?_
  try with_reducible exact trivial
  refine sp_c (total_pu l c (by omega)) rfl [0] ?_
  refine sxq ?_
  try with_reducible exact trivial
  rw [ho]
  refine sxq ?_
  try with_reducible exact trivial
  have htr := tot_range ho l.length (Nat.le_refl _)
  have htl : totT l l.length = totL l := rfl
  rw [htl] at htr
  refine sp_call (made_pu (lotS lim) l p cp (big + 2) c oc (fmP p) ho hF.right (by omega) (fun _ _ => rfl)) rfl [0, 3, 4] rfl ?_ ?_ ?_
  · refine sxq ?_
    try with_reducible exact trivial
    try rfl
  · refine sxq ?_
    try with_reducible exact trivial
    try exact fun _ _ => Nat.le_refl _
  refine sxq ?_
  try with_reducible exact trivial
  refine ⟨fun h => by omega, fun _ => ?_⟩
  repeat (with_reducible refine And.intro (by omega) ?_)
  have hA : (decide (givE lim l = 0) && provB lim l p) = (T == bestR lim l) := by
    rw [decide_eq_true hg, Bool.true_and, provB, hF.right, Bool.true_and, hT, beq_dec]
  have hpv := proved_pu lim l p cp (big + 2) c oc (fmP p) (by omega) (by omega) (fun _ _ => rfl) hps (by omega)
  rw [hA, hg] at hpv
  refine sp_call (hpv) rfl [0, 3, 4] rfl ?_ ?_ ?_
  · refine sxq ?_
    try with_reducible exact trivial
    try rfl
  · refine sxq ?_
    try with_reducible exact trivial
    try exact fun _ _ => Nat.le_refl _
  refine sxq ?_
  try with_reducible exact trivial
  have hcv := cutv_pu lim l p cp (big + 2) c oc (fmP p) pr c2 sc (by omega) ho hl1 hl2 hF.right (by omega) (fun _ _ => rfl) hps (by omega) (by omega)
  have hCf : clB lim l p pr sc = true → ∀ q, rightB (lotS lim) l q = true → T ≤ timesT q q.length := fun h q hq => by
    simp only [clB, Bool.and_eq_true, decide_eq_true_eq] at h
    have := prov_le h.1 hq
    omega
  obtain ⟨C, hC⟩ : ∃ C, clB lim l p pr sc = C := ⟨_, rfl⟩
  rw [hC] at hcv hCf
  refine sp_call (hcv) rfl [0, 3, 4, 1] rfl ?_ ?_ ?_
  · refine sxq ?_
    try with_reducible exact trivial
    try rfl
  · refine sxq ?_
    try with_reducible exact trivial
    try exact fun _ _ => Nat.le_refl _
  refine sxq ?_
  try with_reducible exact trivial
  have hAf : (T == bestR lim l) = true → T = bestR lim l := fun h => by rw [beq_dec] at h; exact of_decide_eq_true h
  obtain ⟨A, hAe⟩ : ∃ A, (T == bestR lim l) = A := ⟨_, rfl⟩
  rw [hAe, bne_self_eq_false]
  rw [hAe] at hAf
  have hle := least_sp l lim c (by omega)
  by_cases h10 : 10 < cntL l
  · obtain ⟨e1, e2, e3⟩ := lst_10 hg h10
    rw [e1, e2, e3] at hle
    cases C
    all_goals
      refine sxq ?_
      try with_reducible exact trivial
      refine sp_at hle [0] (by kernel_rfl) ?_ ?_ ?_
      · refine sxq ?_
        try with_reducible exact trivial
      · refine sxq ?_
        try with_reducible exact trivial
      rintro _ _ ⟨oc2, cp2, _, _, rfl, rfl⟩
      refine sxq ?_
      try with_reducible exact trivial
      try rfl
  have e1 := lst_yes hg (by omega)
  obtain ⟨r1, r2⟩ := lst_right e1
  have hF2 := cut_facts hg r1
  have hmT := hF.least e1
  obtain ⟨q, hq⟩ : ∃ q, lstR lim l = q := ⟨_, rfl⟩
  obtain ⟨m, hm⟩ : ∃ m, (lstB lim l).length = m := ⟨_, rfl⟩
  rw [hq] at r1 r2 hF2
  rw [hm] at r2 hmT
  rw [hT] at hmT
  rw [e1, hq, hm] at hle
  have hCm : C = true → T = (m : Int) := fun h => by have := hCf h q r1; omega
  have hb2 := hF2.best
  rw [r2] at hb2
  have hAm : A = true → T = (m : Int) := fun h => by have := hAf h; omega
  obtain ⟨v1, v2, v3⟩ := hF2.used
  obtain ⟨hq1, hq2⟩ := hF2.small
  have hqs : ∀ k, k < q.length → (ix q k).ps.length ≤ 9223372036854775806 := fun k hk => by have := hq2 k hk; omega
  rw [r2] at v2
  have hqp := right_plan hF2.right
  have hcv2 := fun cp2 oc2 => cutv_pu lim l q cp2 (big + 2) c oc2 (fmP q) pr c2 sc (by omega) ho hl1 hl2 hF2.right (by omega) (fun _ _ => rfl) hqs (by omega) (by omega)
  obtain ⟨C2, hC2⟩ : ∃ C2, clB lim l q pr sc = C2 := ⟨_, rfl⟩
  rw [hC2] at hcv2
  cases C
  all_goals
    refine sxq ?_
    try with_reducible exact trivial
    refine sp_at hle [0] (by kernel_rfl) ?_ ?_ ?_
    · refine sxq ?_
      try with_reducible exact trivial
    · refine sxq ?_
      try with_reducible exact trivial
    rintro _ _ ⟨oc2, cp2, _, _, rfl, rfl⟩
    refine sxq ?_
    try with_reducible exact trivial
    refine sp_call (used_pu (lotS lim) q cp2 (big + 2) 1 oc2 (fmP q) h1l (by omega)) rfl [2, 5, 6] rfl ?_ ?_ ?_
    · refine sxq ?_
      try with_reducible exact trivial
      try rfl
    · refine sxq ?_
      try with_reducible exact trivial
      try exact fun _ _ => Nat.le_refl _
    rw [v1, v2]
    refine sxq ?_
    try with_reducible exact trivial
    refine sp_call (check_pu (lotS lim) l q cp2 (big + 2) 1 c oc2 (fmP q) h1l (by omega) (by omega) (fun _ _ => rfl) hqs (by omega)) rfl [2, 0, 5, 6] rfl ?_ ?_ ?_
    · refine sxq ?_
      try with_reducible exact trivial
      try rfl
    · refine sxq ?_
      try with_reducible exact trivial
      try exact fun _ _ => Nat.le_refl _
    rw [hs, ho, hF2.right]
    refine sxq ?_
    try with_reducible exact trivial
    refine sp_call (made_pu (lotS lim) l q cp2 (big + 2) c oc2 (fmP q) ho hF2.right (by omega) (fun _ _ => rfl)) rfl [0, 5, 6] rfl ?_ ?_ ?_
    · refine sxq ?_
      try with_reducible exact trivial
      try rfl
    · refine sxq ?_
      try with_reducible exact trivial
      try exact fun _ _ => Nat.le_refl _
    refine sxq ?_
    try with_reducible exact trivial
    refine ⟨fun h => by omega, fun _ => ⟨fun h => by omega, fun _ => ?_⟩⟩
    cases A
    all_goals ((simp only [push_cast, ↓branch_true, ↓branch_false, Nat.reduceBEq, Nat.reduceAdd, Nat.reduceMul, Nat.reduceSub, Int.reduceToNat, reduceCtorEq, Int.reduceAdd, Int.reduceEq, Int.reduceLE, Int.reduceLT, Nat.reduceLT, Nat.reduceLeDiff]))
    all_goals first
      | refine ⟨fun _ => ?_, fun h => absurd (hAm rfl) h⟩
      | refine ⟨fun _ => ?_, fun h => absurd (hCm rfl) h⟩
      | skip
    all_goals
      refine sp_call (hcv2 cp2 oc2) rfl [0, 5, 6, 1] rfl ?_ ?_ ?_
      · refine sxq ?_
        try with_reducible exact trivial
      · refine sxq ?_
        try with_reducible exact trivial
        try exact fun _ _ => Nat.le_refl _
      refine sxq ?_
      try with_reducible exact trivial
end Go.Proofs.YtolioflblegneaaGreat
