/- BoundPrices: the walk. -/
import Derived.Test.YtdeaaonppokgkaaGreatBF
import Derived.Test.YtdeaaonppokgkaaGreatPR
import Derived.Test.YtdeaaonppokgkaaGreatZH
import Derived.Test.YtdeaaonppokgkaaGreatGC
import Derived.Test.YtdeaaonppokgkaaGreatGB
set_option maxRecDepth 100000
set_option linter.unusedSimpArgs false
set_option linter.unusedVariables false
namespace Go.Proofs.YtdeaaonppokgkaaGreat.Pat
open Go.RowKit Lp
set_option maxHeartbeats 2000000 in
theorem rfits9_sp (p : Pm) (hp : PmOk p) : Sp Tryz.prog 9 [svP p] (obP p) (fun r H => r = .v (.bool (fitB p)) ∧ H = obP p) := by
  refine sp_weak ?_
  refine sp_of_ex true [] mixed Tryz.call9 Tryz.func9 rfl Tryz.ntmps9 Tryz.results9 (by decide +kernel) rfl ?_
  refine sxq ?_
  try with_reducible exact trivial
  refine sp_at (rfits_sp p hp) [0, 1, 2] (by kernel_rfl) ?_ ?_ ?_
  · refine sxq ?_
    try with_reducible exact trivial
  · refine sxq ?_
    try with_reducible exact trivial
  rintro _ _ ⟨rfl, rfl⟩
  refine sxq ?_
  try with_reducible exact trivial
  refine ⟨_, _, [0, 1, 2], ?_, by kernel_rfl, ?_, rfl, rfl⟩
  · refine sxq ?_
    try with_reducible exact trivial
  · refine sxq ?_
    try with_reducible exact trivial
theorem prv_true {p : Pm} {s : Tabl} (hp : PmOk p) (hf : Fit p) (hL : Last p s) {b : Bool} (h : yAll p (fun k => rn (mulP p s k) s.d.toNat) (fun k => rd (mulP p s k) s.d.toNat) = true → b = (belB p p.co (fun k => rn (mulP p s k) s.d.toNat) (fun k => rd (mulP p s k) s.d.toNat) && (sumN (ofS p.b (fun k => rn (mulP p s k) s.d.toNat) (fun k => rd (mulP p s k) s.d.toNat) p.m) == rn (valP p s) s.d.toNat && sumD (ofS p.b (fun k => rn (mulP p s k) s.d.toNat) (fun k => rd (mulP p s k) s.d.toNat) p.m) == (rd (valP p s) s.d.toNat : Nat) && sgB p (fun k => rn (mulP p s k) s.d.toNat)))) :
    errQ (yAll p (fun k => rn (mulP p s k) s.d.toNat) (fun k => rd (mulP p s k) s.d.toNat)) = 0 ∧ b = true := by
  obtain ⟨c1, c2⟩ := chk_true hp hf hL
  generalize (fun k => rn (mulP p s k) s.d.toNat) = YN at *
  generalize (fun k => rd (mulP p s k) s.d.toNat) = YD at *
  rw [Bool.and_eq_true] at c1
  have hy := c1.2
  rw [h hy, hy]
  refine ⟨rfl, ?_⟩
  unfold yAll at hy
  unfold chkB at c2
  rw [Bool.and_eq_true] at hy
  simp only [Bool.and_eq_true] at c2
  cases ho : ofS p.b YN YD p.m with
  | none => rw [ho] at hy; cases hy.2
  | some x =>
    rw [ho] at c2
    obtain ⟨_, _, c5, c6, c7⟩ := c2
    simp only [isQ, Bool.and_eq_true] at c6
    simp only [sumN, sumD, Bool.and_eq_true]
    exact ⟨c5, ⟨c6.1, c6.2⟩, c7⟩
section
variable {l : List Pc} {P : List (List Int)} {nc mc nc2 mc2 : Nat} {cps cps2 : Nat → Nat} {hb hb2 : l.length ≤ big + 2} {s : Tabl}
theorem ord_last (hL : Last (ordP l P nc mc cps hb) s) : Last (ordP l P nc2 mc2 cps2 hb2) s := by
  obtain ⟨h1, h2, h3⟩ := hL
  have e1 : Feas (tA (ordP l P nc mc cps hb)) (ordP l P nc mc cps hb).m (ordP l P nc mc cps hb).R s = Feas (tA (ordP l P nc2 mc2 cps2 hb2)) (ordP l P nc2 mc2 cps2 hb2).m (ordP l P nc2 mc2 cps2 hb2).R s := by kernel_rfl
  have e2 : NoArt (ordP l P nc mc cps hb).m (ordP l P nc mc cps hb).F (ordP l P nc mc cps hb).R s = NoArt (ordP l P nc2 mc2 cps2 hb2).m (ordP l P nc2 mc2 cps2 hb2).F (ordP l P nc2 mc2 cps2 hb2).R s := by kernel_rfl
  have e3 : (∀ j, j < (ordP l P nc mc cps hb).F → 0 ≤ rc (ordP l P nc mc cps hb).m (cqP (ordP l P nc mc cps hb)) s j) = (∀ j, j < (ordP l P nc2 mc2 cps2 hb2).F → 0 ≤ rc (ordP l P nc2 mc2 cps2 hb2).m (cqP (ordP l P nc2 mc2 cps2 hb2)) s j) := by kernel_rfl
  exact ⟨e1 ▸ h1, e2 ▸ h2, e3 ▸ h3⟩
theorem ord_val : valP (ordP l P nc mc cps hb) s = valP (ordP l P nc2 mc2 cps2 hb2) s := by kernel_rfl
theorem ord_mul : mulP (ordP l P nc mc cps hb) s = mulP (ordP l P nc2 mc2 cps2 hb2) s := by kernel_rfl
end
theorem ord_ln {l : List Pc} {P : List (List Int)} {nc mc : Nat} {cps : Nat → Nat} {hb : l.length ≤ big + 2} {t : Nat} (ht : t < l.length) : (ordP l P nc mc cps hb).ln t = P.length := by
  show (bif decide (t < l.length) then _ else 0) = _
  rw [decide_eq_true ht]; rfl
set_option maxHeartbeats 8000000 in
theorem lprices_sp (lim : Int) (l : List Pc) (c : Nat) (hl : l.length ≤ 9223372036854775807) : Sp Tryz.prog 3 [.v (.int .i64 lim), .s 0 0 0 l.length c 2] [rPc l] (isK (.v (.bool true))) := by
  refine sp_of_ex true [] mixed Tryz.call3 Tryz.func3 rfl Tryz.ntmps3 Tryz.results3 (by decide +kernel) rfl ?_
  refine sxq ?_
  try with_reducible exact trivial
  refine sp_at awake_sp [] rfl ?_ ?_ ?_
  · refine sxq ?_
    try with_reducible exact trivial
  · refine sxq ?_
    try with_reducible exact trivial
  rintro _ _ ⟨rfl, rfl⟩
  refine sxq ?_
  try with_reducible exact trivial
  refine sp_c (few_pu lim l c hl) rfl [0] ?_
  cases hf : fewB lim l with
  | false =>
    refine sxq ?_
    try with_reducible exact trivial
    try rfl
  | true =>
  obtain ⟨hl205, hfk⟩ := few_ok hf
  have hgv := rgivenB_pu lim l c (by omega)
  rw [givR_E] at hgv
  refine sxq ?_
  try with_reducible exact trivial
  refine sp_at (prices_sp lim l c hl) [0] (by kernel_rfl) ?_ ?_ ?_
  · refine sxq ?_
    try with_reducible exact trivial
  · refine sxq ?_
    try with_reducible exact trivial
  intro r0 H0 hR
  cases hR with
  | given h =>
    refine sxq ?_
    try with_reducible exact trivial
    refine ⟨agg34 _ _ _ _, ?_⟩
    refine sp_c hgv rfl [0] ?_
    refine sxq ?_
    try with_reducible exact trivial
    exact fun e => absurd e h
  | none h h0 =>
    rw [h] at hgv
    refine sxq ?_
    try with_reducible exact trivial
    refine ⟨agg34 _ _ _ _, ?_⟩
    refine sp_c hgv rfl [0] ?_
    simp only [push_cast, ↓branch_true, ↓branch_false, Nat.reduceBEq, Nat.reduceAdd, Nat.reduceMul, Nat.reduceSub, Int.reduceToNat, reduceCtorEq, Int.reduceAdd, Int.reduceEq, Int.reduceLE, Int.reduceLT, Nat.reduceLT, Nat.reduceLeDiff, h0]
    exact agg34 _ _ _ _
  | limit h h0 h1 =>
    rw [h] at hgv
    have hpr := rprog_sp lim l c (by omega) h h0 fun g1 g2 => by have := (hfk g1 g2).1; omega
    refine sxq ?_
    try with_reducible exact trivial
    refine ⟨agg34 _ _ _ _, ?_⟩
    refine sp_c hgv rfl [0] ?_
    refine sxq ?_
    try with_reducible exact trivial
    refine ⟨fun e => absurd e (by omega), fun _ => ?_⟩
    refine sp_at hpr [0] (by kernel_rfl) ?_ ?_ ?_
    · refine sxq ?_
      try with_reducible exact trivial
    · refine sxq ?_
      try with_reducible exact trivial
    intro r1 H1 hP
    cases hP with
    | ok _ _ _ _ q1 q2 q3 _ => exact absurd h1 (by omega)
    | limit _ =>
    refine sxq ?_
    try with_reducible exact trivial
    skip
  | big nc mc cps hb h h0 h6 hE h12 hp hfi =>
    rw [h] at hgv
    have hpr := rprog_sp lim l c (by omega) h h0 fun g1 g2 => by have := (hfk g1 g2).1; omega
    refine sxq ?_
    try with_reducible exact trivial
    refine ⟨agg34 _ _ _ _, ?_⟩
    refine sp_c hgv rfl [0] ?_
    refine sxq ?_
    try with_reducible exact trivial
    refine ⟨fun e => absurd e (by omega), fun _ => ?_⟩
    refine sp_at hpr [0] (by kernel_rfl) ?_ ?_ ?_
    · refine sxq ?_
      try with_reducible exact trivial
    · refine sxq ?_
      try with_reducible exact trivial
    intro r1 H1 hP
    cases hP with
    | limit h1 => exact absurd h1 (by omega)
    | ok nc2 mc2 cps2 hb2 _ _ _ hp2 =>
    have hfi2 : fitB (ordP l (allL lim l) nc2 mc2 cps2 hb2) = false := hfi
    refine sxq ?_
    try with_reducible exact trivial
    refine sp_at (rfits9_sp _ hp2) [2, 3, 4] (by kernel_rfl) ?_ ?_ ?_
    · refine sxq ?_
      try with_reducible exact trivial
      exact ⟨⟨rfl, rfl⟩, rfl, rfl⟩
    · refine sxq ?_
      try with_reducible exact trivial
      refine ⟨fun _ _ => ⟨Nat.le_refl _, fun _ _ => rfl⟩, fun _ _ => ⟨Nat.le_refl _, fun k hk => ⟨⟨ord_ln hk, rfl⟩, rfl, rfl⟩⟩, rfl, fun s _ => ⟨Nat.le_refl _, fun _ _ => rfl⟩⟩
    rintro _ _ ⟨rfl, rfl⟩
    simp only [push_cast, ↓branch_true, ↓branch_false, Nat.reduceBEq, Nat.reduceAdd, Nat.reduceMul, Nat.reduceSub, Int.reduceToNat, reduceCtorEq, Int.reduceAdd, Int.reduceEq, Int.reduceLE, Int.reduceLT, Nat.reduceLT, Nat.reduceLeDiff, hfi2]
    skip
  | ok nc mc cy cps hb s h h0 h6 hE h12 hp hv hfi hL hz =>
    rw [h] at hgv
    have hpr := rprog_sp lim l c (by omega) h h0 fun g1 g2 => by have := (hfk g1 g2).1; omega
    refine sxq ?_
    try with_reducible exact trivial
    refine ⟨fun e => absurd e (by omega), fun _ => ?_⟩
    refine sp_c hgv rfl [0] ?_
    refine sxq ?_
    try with_reducible exact trivial
    refine ⟨fun e => absurd e (by omega), fun _ => ?_⟩
    refine sp_at hpr [0] (by kernel_rfl) ?_ ?_ ?_
    · refine sxq ?_
      try with_reducible exact trivial
    · refine sxq ?_
      try with_reducible exact trivial
    intro r1 H1 hP
    cases hP with
    | limit h1 => exact absurd h1 (by omega)
    | ok nc2 mc2 cps2 hb2 _ _ _ hp2 =>
    have hfi2 : fitB (ordP l (allL lim l) nc2 mc2 cps2 hb2) = true := hfi
    obtain ⟨q, hq⟩ : ∃ q, q = ordP l (allL lim l) nc2 mc2 cps2 hb2 := ⟨_, rfl⟩
    refine sxq ?_
    try with_reducible exact trivial
    refine sp_at (rfits9_sp _ hp2) [3, 4, 5] (by kernel_rfl) ?_ ?_ ?_
    · refine sxq ?_
      try with_reducible exact trivial
      exact ⟨⟨rfl, rfl⟩, rfl, rfl⟩
    · refine sxq ?_
      try with_reducible exact trivial
      refine ⟨fun _ _ => ⟨Nat.le_refl _, fun _ _ => rfl⟩, fun _ _ => ⟨Nat.le_refl _, fun k hk => ⟨⟨ord_ln hk, rfl⟩, rfl, rfl⟩⟩, rfl, fun s _ => ⟨Nat.le_refl _, fun _ _ => rfl⟩⟩
    rintro _ _ ⟨rfl, rfl⟩
    have hL2 : Last (ordP l (allL lim l) nc2 mc2 cps2 hb2) s := ord_last hL
    have hv2 : vPm (ordP l (allL lim l) nc2 mc2 cps2 hb2) = true := hv
    have hF := (fit_iff _).1 hfi2
    have hdb := last_bound hp2 hF hL2
    have hd : 0 < s.d.toNat := by omega
    have hd2 : s.d.toNat ≤ 1152921504606846976 := by omega
    have hsm := rsmall_sp _ hp2
    have hle := rleast_sp _ hp2
    have hol := fun (e' N' D' : Int) => out_le (e' := e') (N' := N') (D' := D') hp2 hv2 hfi2 (.ok s hv2 hfi2 hL2)
    have hfr : ∀ k, k < l.length → Frc (rn (mulP (ordP l (allL lim l) nc2 mc2 cps2 hb2) s k) s.d.toNat) (rd (mulP (ordP l (allL lim l) nc2 mc2 cps2 hb2) s k) s.d.toNat) := fun k hk => by
      have := mulP_fac hp2 hF hL2.feas (t := k) hk
      have hf1 := fac_pos (ordP l (allL lim l) nc2 mc2 cps2 hb2) k
      exact frc_rn (Nat.le_trans (Nat.le_trans (Nat.le_mul_of_pos_right _ hf1) this) (show 105553116266496 ≤ 1152921504606846976 by decide)) hd hd2
    have hpv := rproves_sp (ordP l (allL lim l) nc2 mc2 cps2 hb2) hp2 cy (fun k => rn (mulP (ordP l (allL lim l) nc2 mc2 cps2 hb2) s k) s.d.toNat) (fun k => rd (mulP (ordP l (allL lim l) nc2 mc2 cps2 hb2) s k) s.d.toNat) hfr (rn (valP (ordP l (allL lim l) nc2 mc2 cps2 hb2) s) s.d.toNat) (rd (valP (ordP l (allL lim l) nc2 mc2 cps2 hb2) s) s.d.toNat : Nat)
    have hpt := fun b => prv_true (b := b) hp2 hF hL2
    have ev : valP (ordP l (allL lim l) nc mc cps hb) s = valP (ordP l (allL lim l) nc2 mc2 cps2 hb2) s := ord_val
    have em : mulP (ordP l (allL lim l) nc mc cps hb) s = mulP (ordP l (allL lim l) nc2 mc2 cps2 hb2) s := ord_mul
    rw [ev, em]
    simp only [push_cast, ↓branch_true, ↓branch_false, Nat.reduceBEq, Nat.reduceAdd, Nat.reduceMul, Nat.reduceSub, Int.reduceToNat, reduceCtorEq, Int.reduceAdd, Int.reduceEq, Int.reduceLE, Int.reduceLT, Nat.reduceLT, Nat.reduceLeDiff, hfi2]
    refine sp_at hsm [3, 4, 5] (by kernel_rfl) ?_ ?_ ?_
    · refine sxq ?_
      try with_reducible exact trivial
      exact ⟨⟨rfl, rfl⟩, rfl, rfl⟩
    · refine sxq ?_
      try with_reducible exact trivial
    rintro _ _ ⟨rfl, rfl⟩
    cases hsb : smB (ordP l (allL lim l) nc2 mc2 cps2 hb2) with
    | false =>
      refine sxq ?_
      try with_reducible exact trivial
      refine sp_at hpv [3, 4, 5, 1] (by kernel_rfl) ?_ ?_ ?_
      · refine sxq ?_
        try with_reducible exact trivial
        exact ⟨⟨⟨rfl, rfl⟩, rfl, rfl⟩, rfl⟩
      · refine sxq ?_
        try with_reducible exact trivial
        exact fun _ _ => Nat.le_refl _
      rintro _ _ ⟨⟨b, rfl, hb5⟩, rfl⟩
      obtain ⟨e1, rfl⟩ := hpt b hb5
      rw [e1]
      refine sxq ?_
      try with_reducible exact trivial
      try rfl
    | true =>
      have hSm : Sm (ordP l (allL lim l) nc2 mc2 cps2 hb2) := ⟨by
        unfold smB at hsb
        have := of_decide_eq_true hsb
        rw [prd_all] at this
        exact this⟩
      refine sxq ?_
      try with_reducible exact trivial
      refine sp_at (hle hSm) [3, 4, 5] (by kernel_rfl) ?_ ?_ ?_
      · refine sxq ?_
        try with_reducible exact trivial
        exact ⟨⟨rfl, rfl⟩, rfl, rfl⟩
      · refine sxq ?_
        try with_reducible exact trivial
      rintro _ _ ⟨⟨e', N', D', hle', rfl⟩, rfl⟩
      obtain ⟨rfl, rfl, rfl⟩ := hol _ _ _ hle'
      refine sxq ?_
      try with_reducible exact trivial
      refine ⟨agg34 _ _ _ _, ?_⟩
      refine sp_at hpv [3, 4, 5, 1] (by kernel_rfl) ?_ ?_ ?_
      · refine sxq ?_
        try with_reducible exact trivial
        exact ⟨⟨⟨rfl, rfl⟩, rfl, rfl⟩, rfl⟩
      · refine sxq ?_
        try with_reducible exact trivial
        exact fun _ _ => Nat.le_refl _
      rintro _ _ ⟨⟨b, rfl, hb5⟩, rfl⟩
      obtain ⟨e1, rfl⟩ := hpt b hb5
      rw [e1]
      refine sxq ?_
      try with_reducible exact trivial
      try rfl
end Go.Proofs.YtdeaaonppokgkaaGreat.Pat
