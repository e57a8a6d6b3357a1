/- Plain: from a program's numbers to the conditions of the contracts. -/
import Derived.Test.YtdeaaonppokgkaaI
import Derived.Test.YtdeaaonppokgkaaJ
import Derived.Test.YtdeaaonppokgkaaL
set_option maxRecDepth 100000
set_option linter.unusedSimpArgs false
set_option linter.unusedVariables false
namespace Go.Proofs.Ytdeaaonppokgkaa
open Go.RowKit Lp
def kdOf (z : Int) : Kd := if z = 1 then .le else if z = 2 then .ge else .eq
/-- A program, as a plain one. -/
def lpP (p : Pm) : Lp.Lp := ⟨p.n, p.m, p.a, fun t => kdOf (p.kd t), p.b, p.co⟩
theorem nsl_lt (p : Pm) {t : Nat} (ht : t < p.m) (hk : p.kd t ≠ 3) : nsl p t < nsl p p.m := by
  have := nsl_mono p (t := t + 1) (u := p.m) ht
  rw [nsl, if_neg hk] at this
  omega
theorem nsl_inj (p : Pm) {t u : Nat} (hk : p.kd t ≠ 3) (hk2 : p.kd u ≠ 3) (h : nsl p t = nsl p u) : t = u := by
  rcases Nat.lt_trichotomy t u with e | e | e
  · have := nsl_mono p (t := t + 1) (u := u) e
    rw [nsl, if_neg hk] at this
    omega
  · exact e
  · have := nsl_mono p (t := u + 1) (u := t) e
    rw [nsl, if_neg hk2] at this
    omega
theorem nsl_has (p : Pm) : ∀ {m v : Nat}, v < nsl p m → ∃ t, t < m ∧ p.kd t ≠ 3 ∧ nsl p t = v
  | 0, v, h => absurd h (Nat.not_lt_zero _)
  | m + 1, v, h => by
    rw [nsl] at h
    by_cases e : p.kd m = 3
    · rw [if_pos e] at h
      obtain ⟨t, h1, h2⟩ := nsl_has p h
      exact ⟨t, by omega, h2⟩
    · rw [if_neg e] at h
      by_cases e2 : v = nsl p m
      · exact ⟨m, by omega, e, e2.symm⟩
      · obtain ⟨t, h1, h2⟩ := nsl_has p (show v < nsl p m by omega)
        exact ⟨t, by omega, h2⟩
def srowP (p : Pm) (j : Nat) : Nat := (ent (fun t => decide (p.kd t ≠ 3 ∧ p.n + nsl p t = j)) p.m).toNat
def scolP (p : Pm) (t : Nat) : Nat := p.n + nsl p t
theorem srow_is (p : Pm) {t : Nat} (ht : t < p.m) (hk : p.kd t ≠ 3) : srowP p (p.n + nsl p t) = t := by
  unfold srowP
  rw [ent_is ht (decide_eq_true ⟨hk, rfl⟩) fun i hi => decide_eq_false fun h => ?_]
  · rfl
  · have := nsl_inj p h.1 hk (by omega)
    omega
theorem srow_spec (p : Pm) {j : Nat} (h1 : p.n ≤ j) (h2 : j < p.F) : srowP p j < p.m ∧ p.kd (srowP p j) ≠ 3 ∧ p.n + nsl p (srowP p j) = j := by
  have hF : p.F = p.n + nsl p p.m := rfl
  obtain ⟨t, h3, h4, h5⟩ := nsl_has p (show j - p.n < nsl p p.m by omega)
  have e : j = p.n + nsl p t := by omega
  subst e
  rw [srow_is p h3 h4]
  exact ⟨h3, h4, rfl⟩
theorem form {p : Pm} (hp : PmOk p) : Lp.Form (lpP p) (tA p) p.F (sgn p) (srowP p) (scolP p) := by
  have hF : p.F = p.n + nsl p p.m := rfl
  have hR : p.R = p.F + p.m := rfl
  refine ⟨?_, fun t ht => ?_, fun t j ht hj => ?_, fun t j ht h1 h2 => ?_, fun j h1 h2 => (srow_spec p h1 h2).1, fun t ht hs => ?_, fun t q ht hq => ?_, fun t ht => ?_, fun t ht => ?_⟩
  · show p.n ≤ p.F; omega
  · unfold sgn
    split
    · exact .inr rfl
    · exact .inl rfl
  · have hj : j < p.n := hj
    show tA p t j = sgn p t * p.a t j
    unfold tA rw0
    rw [if_neg (by omega), if_pos hj]
  · have h1 : p.n ≤ j := h1
    have ht : t < p.m := ht
    show tA p t j = if t = srowP p j then sgn p t * (kdOf (p.kd t)).slack else 0
    obtain ⟨s1, s2, s3⟩ := srow_spec p h1 h2
    have hkd := hp.kd t ht
    unfold tA rw0
    rw [if_neg (by omega), if_neg (by omega), if_neg (by omega)]
    by_cases e : t = srowP p j
    · rw [if_pos e]
      rw [← e] at s2 s3
      rcases hkd with k | k | k
      · rw [if_pos ⟨k, s3.symm⟩, k]; rfl
      · rw [if_neg (by omega), if_pos ⟨k, s3.symm⟩, k]; rfl
      · exact absurd k s2
    · rw [if_neg e]
      have e1 : ¬ (p.kd t = 1 ∧ j = p.n + nsl p t) := fun h => e (by rw [h.2, srow_is p ht (by omega)])
      have e2 : ¬ (p.kd t = 2 ∧ j = p.n + nsl p t) := fun h => e (by rw [h.2, srow_is p ht (by omega)])
      rw [if_neg e1, if_neg e2, Int.mul_zero]
  · have hk : p.kd t ≠ 3 := fun h => hs (by show (kdOf (p.kd t)).slack = 0; rw [h]; rfl)
    have h2 := nsl_lt p ht hk
    refine ⟨?_, ?_, srow_is p ht hk⟩
    · show p.n ≤ p.n + _; omega
    · show p.n + nsl p t < p.F; omega
  · have ht : t < p.m := ht
    have hq : q < p.m := hq
    show tA p t (p.F + q) = if t = q then 1 else 0
    unfold tA
    by_cases e : t = q
    · rw [if_pos (by omega), if_pos e]
    · rw [if_neg (by omega), if_neg e]
      unfold rw0
      have h3 : p.kd t ≠ 3 → nsl p t < nsl p p.m := nsl_lt p ht
      rw [if_neg (by omega), if_neg (by omega), if_neg (by omega), if_neg (by omega), Int.mul_zero]
  · have ht : t < p.m := ht
    show tA p t (p.F + p.m) = sgn p t * p.b t
    unfold tA rw0
    rw [if_neg (by omega), if_neg (by omega), if_pos (by omega)]
  · show 0 ≤ sgn p t * p.b t
    unfold sgn
    split <;> omega
/- ===== what fits ===== -/
theorem prd_shift (f : Nat → Nat) : ∀ m, prd (m + 1) f = f 0 * prd m fun t => f (t + 1)
  | 0 => by simp [prd]
  | m + 1 => by rw [prd, prd_shift f m, prd, Nat.mul_assoc]
theorem prd_pos {f : Nat → Nat} : ∀ {m : Nat}, (∀ i, i < m → 0 < f i) → 0 < prd m f
  | 0, _ => Nat.one_pos
  | m + 1, h => Nat.mul_pos (prd_pos fun i hi => h i (by omega)) (h m (by omega))
theorem szs_sm (f : Nat → Int) (more : Int) : ∀ k, ((szs f more k : Nat) : Int) = 1 + more.natAbs + sm k fun j => ((f j).natAbs : Int)
  | 0 => by simp [szs, sm]
  | k + 1 => by rw [szs, sm, Int.natCast_add, szs_sm f more k]; omega
theorem szs_at (f : Nat → Int) (more : Int) {j : Nat} : ∀ {k : Nat}, j < k → (f j).natAbs ≤ szs f more k
  | k + 1, h => by
    rw [szs]
    by_cases e : j = k
    · rw [e]; omega
    · have := szs_at f more (j := j) (k := k) (by omega)
      omega
theorem fac_is (p : Pm) (t : Nat) : fac (lpP p) t = fcs p (t + 1) := by
  have h := szs_sm (p.a t) (p.b t) p.n
  show 1 + (sm p.n fun j => ((p.a t j).natAbs : Int)).toNat + (p.b t).natAbs = szs (p.a t) (p.b t) p.n
  have h0 : 0 ≤ sm p.n fun j => ((p.a t j).natAbs : Int) := sm_nonneg fun j _ => by omega
  omega
/-- The product of the rows' factors. -/
def PrR (p : Pm) : Nat := prd p.m (fac (lpP p))
theorem PrR_pos (p : Pm) : 0 < PrR p := prd_pos fun i _ => by rw [fac_is]; exact fcs_pos p _
theorem prd_all (p : Pm) : prd (p.m + 1) (fcs p) = fcs p 0 * PrR p := by
  rw [prd_shift]
  congr 1
  exact prd_congr fun i _ => (fac_is p i).symm
structure Fit (p : Pm) : Prop where
  all : fcs p 0 * PrR p ≤ 17592186044416
  each : ∀ t, t < p.m + 1 → fcs p 0 * PrR p * fcs p t ≤ 144115188075855872
theorem fit_of {p : Pm} (h : fitB p = true) : Fit p := by
  unfold fitB at h
  rw [Bool.and_eq_true, decide_eq_true_eq, decide_eq_true_eq] at h
  obtain ⟨h1, h2⟩ := h
  refine ⟨?_, fun t ht => ?_⟩
  · have := h1 p.m (by omega)
    rw [Nat.le_div_iff_mul_le (fcs_pos p _)] at this
    rw [← prd_all]
    exact this
  · have hm := mxk_ge (fcs p) ht
    have h0 := fcs_pos p t
    rw [Nat.le_div_iff_mul_le (by omega), prd_all] at h2
    exact Nat.le_trans (Nat.mul_le_mul_left _ hm) h2
theorem Fit.pr {p : Pm} (h : Fit p) : PrR p ≤ 17592186044416 := by
  have h1 := h.all
  have h2 := Nat.mul_le_mul_right (PrR p) (fcs_pos p 0)
  rw [Nat.succ_mul, Nat.zero_mul] at h2
  omega
theorem Fit.prt {p : Pm} (h : Fit p) {t : Nat} (ht : t < p.m) : fac (lpP p) t * PrR p ≤ 144115188075855872 := by
  have h1 := h.each (t + 1) (by omega)
  rw [← fac_is] at h1
  have h2 := Nat.mul_le_mul_right (PrR p * fac (lpP p) t) (fcs_pos p 0)
  rw [Nat.succ_mul, Nat.zero_mul, Nat.zero_add, ← Nat.mul_assoc, Nat.mul_comm (PrR p)] at h2
  omega
/-- A program's frame of tables. -/
def qF (p : Pm) (cc bc sc nc : Nat) : Fm := ⟨p.m, p.n, p.F, cc, bc, sc, nc, sgn p, p.co⟩
def cqP (p : Pm) (j : Nat) : Int := if j < p.n then p.co j else 0
theorem cqP_le (p : Pm) (j : Nat) : (cqP p j).natAbs ≤ fcs p 0 := by
  unfold cqP
  split
  · rename_i h; exact szs_at p.co 0 h
  · exact Nat.zero_le _
section
variable {p : Pm} {cc bc sc nc : Nat}
theorem cell_P (hp : PmOk p) {s : Tabl} {g : Int} (ht : Tab (tA p) p.m (p.R + 1) s g) {i j : Nat} (hi : i < p.m) (hj : j < p.R + 1) : (s.T i j).natAbs ≤ PrR p := (form hp).cell_le ht hi hj
theorem den_P (hp : PmOk p) {s : Tabl} {g : Int} (ht : Tab (tA p) p.m (p.R + 1) s g) : s.d.natAbs ≤ PrR p := (form hp).den_le ht
theorem sml_of (hp : PmOk p) (hf : Fit p) {s : Tabl} (hs : Feas (tA p) p.m p.R s) : Sml (qF p cc bc sc nc) s := by
  obtain ⟨g, ht⟩ := hs.tab
  have hpr := hf.pr
  have hal := hf.all
  have hd := den_P hp ht
  have hpos := ht.pos
  have hn := hp.n
  have hm := hp.m
  have hF : p.F = p.n + nsl p p.m := rfl
  have hR : p.R = p.F + p.m := rfl
  have hns := nsl_le p p.m
  refine ⟨fun i j hi hj => ?_, hm, ?_, hn.2, ⟨hpos, by omega⟩, hs.bas, fun k j hk hj => ?_, fun j => ?_⟩
  · have := cell_P hp ht hi hj
    omega
  · show p.R ≤ 24; omega
  · show (cqP p _ * _).natAbs ≤ _
    rw [Int.natAbs_mul]
    have := Nat.mul_le_mul (cqP_le p (s.b k)) (cell_P hp ht hk hj)
    omega
  · show (cqP p _ * _).natAbs ≤ _
    rw [Int.natAbs_mul]
    have := Nat.mul_le_mul (cqP_le p j) hd
    omega
theorem piv_of (hp : PmOk p) (hf : Fit p) {s : Tabl} {g : Int} (ht : Tab (tA p) p.m (p.R + 1) s g) {r e : Nat} (hr : r < p.m) (he : e < p.R + 1) (h0 : s.T r e ≠ 0) : Piv (qF p cc bc sc nc) s r e := by
  have hpr := hf.pr
  have hd := den_P hp ht
  have ht2 := pivT_tab ht hr he h0
  refine ⟨hr, he, ht.pos, by omega, h0, fun i j hi hj => ?_, fun i j hi hj => ?_, fun i j hi hj hir => ?_⟩
  · have := cell_P hp ht hi hj
    omega
  · have := cell_P hp ht2 hi hj
    by_cases h1 : s.T r e < 0
    · rw [piv_tn h1] at this; omega
    · rw [piv_tp h1] at this; omega
  · exact ⟨_, (ht.exact hr he hi hj hir).symm⟩
/-- What a phase needs. -/
theorem goes_piv (hp : PmOk p) (hf : Fit p) {c : Nat → Int} {s : Tabl} (hs : Feas (tA p) p.m p.R s) (hg : Goes p.m p.R p.F c s) : Piv (qF p cc bc sc nc) s (phR p.m p.R p.F c s).toNat (phE p.m p.F c s).toNat := by
  have hR : p.R = p.F + p.m := rfl
  obtain ⟨g, ht⟩ := hs.tab
  have hb := goes_step (by omega) hs hg
  exact piv_of hp hf ht hb.row (by have := hb.lt; omega) (by have := hb.pos; omega)
/-- The first phase. -/
theorem start_ok (hp : PmOk p) (hf : Fit p) : ∃ K, StartOk (qF p cc bc sc nc) (firstT (tA p) p.F) K ∧ Feas (tA p) p.m p.R (S1 (qF p cc bc sc nc) (firstT (tA p) p.F) K) := by
  have hR : p.R = p.F + p.m := rfl
  have h0 : Feas (tA p) p.m p.R (firstT (tA p) p.F) := (form hp).first
  have hc : artC p.F p.m p.R = 0 := by unfold artC; rw [if_neg (by omega)]
  obtain ⟨K, h1, h2, h3⟩ := phase_ends (F := p.F) (by omega) hc h0
  refine ⟨K, ⟨rfl, fun n hn => sml_of hp hf (h3 n hn), h1, fun n hn => goes_piv hp hf (h3 n (by omega)) (h1 n hn), ?_, fun hsm i hi hb he => ?_⟩, h3 K (Nat.le_refl _)⟩
  · refine Int.lt_of_not_ge fun hge => h2 ⟨hge, ?_⟩
    exact phase1_row (h3 K (Nat.le_refl _)) hge
  · have hK := h3 K (Nat.le_refl _)
    have hD : Driven (tA p) p.m p.F (phS p.m p.R p.F (artC p.F p.m) (firstT (tA p) p.F) K) 0 := by
      refine ⟨hK, noart_of hK ?_, fun k hk => absurd hk (Nat.not_lt_zero _)⟩
      rw [art_sum hK.bas]
      exact Int.not_lt.2 hsm
    have hDi := drive hD i (Nat.le_of_lt hi)
    obtain ⟨g, ht⟩ := hDi.feas.tab
    change 0 ≤ drE p.F (drS p.F (phS p.m p.R p.F (artC p.F p.m) (firstT (tA p) p.F) K) i) i at he
    show Piv (qF p cc bc sc nc) (drS p.F (phS p.m p.R p.F (artC p.F p.m) (firstT (tA p) p.F) K) i) i (drE p.F (drS p.F (phS p.m p.R p.F (artC p.F p.m) (firstT (tA p) p.F) K) i) i).toNat
    generalize drS p.F (phS p.m p.R p.F (artC p.F p.m) (firstT (tA p) p.F) K) i = u at *
    rcases ent_spec (p := fun j => decide (u.T i j ≠ 0)) (F := p.F) with ⟨q1, _⟩ | ⟨e, q1, q2, q3, _⟩
    · unfold drE at he; omega
    have hee : (drE p.F u i).toNat = e := by unfold drE; rw [q2]; rfl
    have : e < p.R + 1 := by omega
    rw [hee]
    exact piv_of hp hf ht hi this (by simpa using q3)
theorem start_driven (hp : PmOk p) {s : Tabl} (hK : Feas (tA p) p.m p.R s) (hsm : sm p.m (artF (qF p cc bc sc nc) s p.R) ≤ 0) : Driven (tA p) p.m p.F (drS p.F s p.m) p.m := by
  have hR : p.R = p.F + p.m := rfl
  refine drive ⟨hK, noart_of hK ?_, fun k hk => absurd hk (Nat.not_lt_zero _)⟩ p.m (Nat.le_refl _)
  rw [art_sum hK.bas]
  exact Int.not_lt.2 hsm
/-- The second phase. -/
theorem imp_ok (hp : PmOk p) (hf : Fit p) {s0 : Tabl} (h0 : Driven (tA p) p.m p.F s0 p.m) : ∃ K, ImpOk (qF p cc bc sc nc) s0 K ∧ Driven (tA p) p.m p.F (S2 (qF p cc bc sc nc) s0 K) p.m := by
  have hR : p.R = p.F + p.m := rfl
  have hF : p.F = p.n + nsl p p.m := rfl
  have hc : cqP p p.R = 0 := by unfold cqP; rw [if_neg (by omega)]
  obtain ⟨K, h1, h2, h3⟩ := phase_ends (F := p.F) (by omega) hc h0.feas
  exact ⟨K, ⟨rfl, fun n hn => sml_of hp hf (h3 n hn), h1, fun n hn => goes_piv hp hf (h3 n (by omega)) (h1 n hn), h2⟩, driven_phase h0 h1 K (Nat.le_refl _)⟩
end
end Go.Proofs.Ytdeaaonppokgkaa
