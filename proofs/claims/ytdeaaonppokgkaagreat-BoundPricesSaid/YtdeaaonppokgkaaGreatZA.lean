/- Plain: the reference's table: its columns, its last row, and what its end says. -/
import Derived.Test.YtdeaaonppokgkaaGreatGB
set_option maxRecDepth 100000
set_option linter.unusedSimpArgs false
set_option linter.unusedVariables false
namespace Go.Proofs.YtdeaaonppokgkaaGreat
open Go.RowKit Lp
def rF (p : Pm) : Nat := p.n + p.m
def rR (p : Pm) : Nat := p.n + p.m + p.m
def r0 (p : Pm) (t j : Nat) : Int := if j < p.n then p.a t j else if j = p.n + t then (kdOf (p.kd t)).slack else if j = rR p then p.b t else 0
def rA (p : Pm) (t j : Nat) : Int := if j = p.n + p.m + t then 1 else sgn p t * r0 p t j
theorem rform (p : Pm) : Lp.Form (lpP p) (rA p) (rF p) (sgn p) (fun j => j - p.n) (fun t => p.n + t) := by
  refine ⟨Nat.le_add_right _ _, fun t _ => ?_, fun t j ht hj => ?_, fun t j ht h1 h2 => ?_, fun j h1 h2 => ?_, fun t ht _ => ?_, fun t q ht hq => ?_, fun t ht => ?_, fun t ht => ?_⟩
  · unfold sgn; split
    · exact .inr rfl
    · exact .inl rfl
  · have hj : j < p.n := hj
    show rA p t j = sgn p t * p.a t j
    unfold rA r0
    rw [if_neg (by omega), if_pos hj]
  · have ht : t < p.m := ht
    have h1 : p.n ≤ j := h1
    have h2 : j < p.n + p.m := h2
    show rA p t j = if t = j - p.n then sgn p t * (kdOf (p.kd t)).slack else 0
    unfold rA r0 rR
    rw [if_neg (by omega), if_neg (by omega)]
    by_cases e : t = j - p.n
    · rw [if_pos (by omega), if_pos e]
    · rw [if_neg (by omega), if_neg (by omega), if_neg e, Int.mul_zero]
  · have h1 : p.n ≤ j := h1
    have h2 : j < p.n + p.m := h2
    show j - p.n < p.m
    omega
  · have ht : t < p.m := ht
    refine ⟨Nat.le_add_right _ _, by show p.n + t < p.n + p.m; omega, by show p.n + t - p.n = t; omega⟩
  · have ht : t < p.m := ht
    have hq : q < p.m := hq
    show rA p t (p.n + p.m + q) = _
    unfold rA r0 rR
    by_cases e : t = q
    · rw [if_pos (by omega), if_pos e]
    · rw [if_neg (by omega), if_neg e, if_neg (by omega), if_neg (by omega), if_neg (by omega), Int.mul_zero]
  · have ht : t < p.m := ht
    show rA p t (p.n + p.m + p.m) = sgn p t * p.b t
    unfold rA r0 rR
    rw [if_neg (by omega), if_neg (by omega), if_neg (by omega), if_pos rfl]
  · show 0 ≤ sgn p t * p.b t
    unfold sgn
    split <;> omega
/- ===== the last row ===== -/
section
variable {A : Nat → Nat → Int} {m N R F : Nat} {c : Nat → Int}
theorem rc_step' {s s' : Tabl} {r e : Nat} {z : Int} (hr : r < m) (hs : Step s s' m N r e z) {j : Nat} (hj : j < N) : s.d * rc m c s' j = z * (rc m c s j * s.T r e - rc m c s e * s.T r j) := by
  unfold rc
  have e0 : sm m (fun k => s.d * (c (s'.b k) * s'.T k j)) = sm m (up (fun k => z * (s.T r e * (c (s.b k) * s.T k j) - s.T r j * (c (s.b k) * s.T k e))) r (z * (c e * (s.d * s.T r j)))) := sm_congr fun k hk => by
    by_cases ek : k = r
    · subst ek
      rw [up_same, hs.b k hk, up_same, hs.row j hj]
      grind
    · have := hs.rest k j hk ek hj
      rw [up_ne _ _ ek, hs.b k hk, up_ne _ _ ek]
      grind
  have hd := hs.d
  rw [Int.mul_sub, ← sm_mul, e0, sm_up hr, sm_mul, sm_sub, sm_mul, sm_mul, hd]
  grind
/-- The last row has the reduced costs. -/
def CR (m R : Nat) (c : Nat → Int) (s : Tabl) : Prop := ∀ j, j < R + 1 → s.T m j = rc m c s j
theorem cr_mul {s : Tabl} {g : Int} (h : Tab A m (R + 1) s g) (hc : CR m R c s) {r e : Nat} (hr : r < m) (he : e < R + 1) {j : Nat} (hj : j < R + 1) : s.T m j * s.T r e - s.T m e * s.T r j = s.d * (Lp.zOf s r e * rc m c (pivT s r e) j) := by
  have h1 := rc_step' (c := c) hr (pivT_step h hr he) hj
  rw [hc j hj, hc e he]
  have hz : Lp.zOf s r e * Lp.zOf s r e = 1 := by unfold Lp.zOf; split <;> rfl
  have : s.d * (Lp.zOf s r e * rc m c (pivT s r e) j) = Lp.zOf s r e * (s.d * rc m c (pivT s r e) j) := by grind
  rw [this, h1, ← Int.mul_assoc, hz, Int.one_mul]
theorem cr_step {s : Tabl} {g : Int} (h : Tab A m (R + 1) s g) (hc : CR m R c s) {r e : Nat} (hr : r < m) (he : e < R + 1) : CR m R c (pivT s r e) := fun j hj => by
  have h1 := cr_mul h hc hr he hj
  have hd := h.pos
  have hz : Lp.zOf s r e * Lp.zOf s r e = 1 := by unfold Lp.zOf; split <;> rfl
  show (if m = r then _ else Lp.zOf s r e * ((s.T m j * s.T r e - s.T m e * s.T r j) / s.d)) = _
  rw [if_neg (by omega), h1, Int.mul_ediv_cancel_left _ (by omega), ← Int.mul_assoc, hz, Int.one_mul]
theorem phE_cr {s : Tabl} (hF : F ≤ R) (hc : CR m R c s) : phE m F c s = ent (fun j => decide (s.T m j < 0)) F := by
  unfold phE
  exact ent_congr fun j hj => by rw [hc j (by omega)]
theorem cr_phase {s : Tabl} {K : Nat} (hF : F ≤ R) (hf : ∀ n, n ≤ K → Feas A m R (phS m R F c s n)) (hg : ∀ n, n < K → Goes m R F c (phS m R F c s n)) (hc : CR m R c s) : ∀ n, n ≤ K → CR m R c (phS m R F c s n)
  | 0, _ => hc
  | n + 1, hn => by
    have ih := cr_phase hF hf hg hc n (by omega)
    have hb := goes_step hF (hf n (by omega)) (hg n (by omega))
    obtain ⟨g, ht⟩ := (hf n (by omega)).tab
    exact cr_step ht ih hb.row (by have := hb.lt; omega)
theorem cr_drive {s : Tabl} (hD : Driven A m F s 0) (hc : CR m (F + m) c s) : ∀ q, q ≤ m → CR m (F + m) c (drS F s q)
  | 0, _ => hc
  | q + 1, hq => by
    have ih := cr_drive hD hc q (by omega)
    have hd := drive hD q (by omega)
    obtain ⟨g, ht⟩ := hd.feas.tab
    rw [drS]
    split
    · rename_i h
      have : (drE F (drS F s q) q).toNat < F := by
        have := ent_lo (fun j => decide ((drS F s q).T q j ≠ 0)) F
        have h2 := h.2
        unfold drE at h2 ⊢
        omega
      exact cr_step ht ih (by omega) (by omega)
    · exact ih
theorem sm_const (K : Int) : ∀ n : Nat, (sm n fun _ => K) = n * K
  | 0 => by simp [sm]
  | n + 1 => by rw [sm, sm_const K n, Int.natCast_add, Int.add_mul]; omega
theorem rc_le {s : Tabl} {C P : Nat} (hm : m ≤ 6) (hC : ∀ j, (c j).natAbs ≤ C) (hT : ∀ k j, k < m → j < N → (s.T k j).natAbs ≤ P) (hd : s.d.natAbs ≤ P) (hp : C * P ≤ 536870912) {j : Nat} (hj : j < N) : (rc m c s j).natAbs ≤ 3758096384 := by
  have h1 : (c j * s.d).natAbs ≤ 536870912 := by
    rw [Int.natAbs_mul]
    exact Nat.le_trans (Nat.mul_le_mul (hC j) hd) hp
  have h2 := sm_abs (fun k => c (s.b k) * s.T k j) m
  have h3 : (sm m fun k => ((c (s.b k) * s.T k j).natAbs : Int)) ≤ sm m fun _ => (536870912 : Int) := sm_le fun k hk => by
    have : (c (s.b k) * s.T k j).natAbs ≤ 536870912 := by
      rw [Int.natAbs_mul]
      exact Nat.le_trans (Nat.mul_le_mul (hC _) (hT k j hk hj)) hp
    omega
  rw [sm_const] at h3
  have h4 : (m : Int) * 536870912 ≤ 6 * 536870912 := Int.mul_le_mul_of_nonneg_right (by omega) (by omega)
  unfold rc
  omega
/-- Feasible tables that agree in their rows. -/
theorem feas_congr {s s' : Tabl} (h : Feas A m R s) (hT : ∀ i j, i < m → j < R + 1 → s'.T i j = s.T i j) (hb : s'.b = s.b) (hd : s'.d = s.d) : Feas A m R s' := by
  obtain ⟨g, ht⟩ := h.tab
  refine ⟨⟨g, by rw [hd]; exact ht.pos, ht.unit, fun k hk => by rw [hb]; exact ht.bas k hk, fun j t hj h2 => ?_, by rw [hd, hb]; exact ht.den, fun i j hi hj => by rw [hT i j hi hj, hb]; exact ht.cell i j hi hj⟩, fun k hk => by rw [hb]; exact h.bas k hk, fun k hk => by rw [hT k R hk (by omega)]; exact h.right k hk⟩
  rw [hd, ht.rel j t hj h2, hb]
  exact sm_congr fun k hk => by rw [hT k j hk hj]
theorem driven_congr {s s' : Tabl} {q : Nat} (h : Driven A m F s q) (hT : ∀ i j, i < m → j < F + m + 1 → s'.T i j = s.T i j) (hb : s'.b = s.b) (hd : s'.d = s.d) : Driven A m F s' q :=
  ⟨feas_congr h.feas hT hb hd, fun k hk hk2 => by rw [hT k _ hk (by omega)]; exact h.noart k hk (by rw [← hb]; exact hk2), fun k h1 h2 h3 j hj => by rw [hT k j h2 (by omega)]; exact h.stuck k h1 h2 (by rw [← hb]; exact h3) j hj⟩
theorem rc_congr {s s' : Tabl} (hT : ∀ i j, i < m → j < N → s'.T i j = s.T i j) (hb : s'.b = s.b) (hd : s'.d = s.d) {j : Nat} (hj : j < N) : rc m c s' j = rc m c s j := by
  unfold rc
  rw [hd, hb]
  congr 1
  exact sm_congr fun k hk => by rw [hT k j hk hj]
end
/- ===== a small program ===== -/
section
variable {p : Pm} {c : Nat → Int} {s : Tabl}
structure Sm (p : Pm) : Prop where
  all : fcs p 0 * PrR p ≤ 536870912
theorem Sm.pr (h : Sm p) : PrR p ≤ 536870912 := by
  have h1 := h.all
  have h2 := Nat.mul_le_mul_right (PrR p) (fcs_pos p 0)
  rw [Nat.succ_mul, Nat.zero_mul] at h2
  omega
/-- What is known of each table of the reference. -/
structure RS (p : Pm) (c : Nat → Int) (s : Tabl) : Prop where
  feas : Feas (rA p) p.m (rR p) s
  cr : CR p.m (rR p) c s
theorem RS.T (h : RS p c s) (hs : Sm p) {i j : Nat} (hi : i < p.m) (hj : j < rR p + 1) : (s.T i j).natAbs ≤ 536870912 := by
  obtain ⟨g, ht⟩ := h.feas.tab
  have := (rform p).cell_le ht (i := i) (j := j) hi hj
  exact Nat.le_trans this hs.pr
theorem RS.d (h : RS p c s) (hs : Sm p) : 0 < s.d ∧ s.d ≤ 536870912 := by
  obtain ⟨g, ht⟩ := h.feas.tab
  have h1 : s.d.natAbs ≤ PrR p := (rform p).den_le ht
  have h2 := ht.pos
  have := hs.pr
  omega
theorem RS.L (h : RS p c s) (hp : PmOk p) (hs : Sm p) (hc : ∀ j, (c j).natAbs ≤ fcs p 0) {j : Nat} (hj : j < rR p + 1) : (s.T p.m j).natAbs ≤ 3758096384 := by
  obtain ⟨g, ht⟩ := h.feas.tab
  rw [h.cr j hj]
  exact rc_le (N := rR p + 1) hp.m hc (fun k j hk hj => (rform p).cell_le ht hk hj) ((rform p).den_le ht) hs.all hj
/-- The first table: the last row has the sums of the rows. -/
def L0 (p : Pm) (t j : Nat) : Int := - sm t fun q => sgn p q * r0 p q j
def fT (p : Pm) : Tabl := ⟨fun i j => if i < p.m then rA p i j else L0 p p.m j, fun i => rF p + i, 1⟩
theorem fT_rs (p : Pm) : RS p (artC (rF p) p.m) (fT p) := by
  refine ⟨feas_congr (rform p).first (fun i j hi _ => if_pos hi) rfl rfl, fun j hj => ?_⟩
  show (if p.m < p.m then _ else _) = _
  rw [if_neg (Nat.lt_irrefl _)]
  show L0 p p.m j = artC (rF p) p.m j * 1 - sm p.m fun k => artC (rF p) p.m (rF p + k) * (if k < p.m then rA p k j else L0 p p.m j)
  have e1 : (sm p.m fun k => artC (rF p) p.m (rF p + k) * (if k < p.m then rA p k j else L0 p p.m j)) = sm p.m fun k => rA p k j := sm_congr fun k hk => by
    rw [if_pos hk]
    unfold artC
    rw [if_pos (by omega), Int.one_mul]
  rw [e1]
  unfold L0
  by_cases h : rF p ≤ j ∧ j < rF p + p.m
  · have ha : artC (rF p) p.m j = 1 := by unfold artC; rw [if_pos h]
    obtain ⟨q, rfl⟩ : ∃ q, j = rF p + q := ⟨j - rF p, by omega⟩
    have hq : q < p.m := by omega
    have e2 : (sm p.m fun k => rA p k (rF p + q)) = 1 := by
      rw [sm_one (q := q) hq fun k hk hkq => ?_]
      · unfold rA rF; rw [if_pos rfl]
      · have := (rform p).art k q hk hq
        rw [this, if_neg hkq]
    have e3 : (sm p.m fun k => sgn p k * r0 p k (rF p + q)) = 0 := sm_zero fun k hk => by
      unfold r0 rF rR
      rw [if_neg (by omega), if_neg (by omega), if_neg (by omega), Int.mul_zero]
    rw [ha, e2, e3]
    rfl
  · have ha : artC (rF p) p.m j = 0 := by unfold artC; rw [if_neg h]
    rw [ha]
    have e2 : (sm p.m fun k => rA p k j) = sm p.m fun k => sgn p k * r0 p k j := sm_congr fun k hk => by
      unfold rA
      rw [if_neg (by unfold rF at h; omega)]
    rw [e2]
    omega
/- ===== what the reference answers ===== -/
inductive LeR (p : Pm) : Int → Int → Int → Prop
  | ok (X Y : Nat → Int) (d V : Int) (hd : 0 < d) (hX : Prim (lpP p) X d) (hY : Dual (lpP p) (fun j => p.co j * d) Y) (h1 : pval (lpP p) X = V) (h2 : dval (lpP p) Y = V) : LeR p 0 (rn V d.toNat) (rd V d.toNat : Nat)
  | gap (Y : Nat → Int) (h : Gap p Y) : LeR p 22 0 0
  | free (h : Free p) : LeR p 21 0 0
theorem out_le (hp : PmOk p) {e N D e' N' D' : Int} (hv : vPm p = true) (hf : fitB p = true) (h1 : OutP p e N D) (h2 : LeR p e' N' D') : e' = e ∧ N' = N ∧ D' = D := by
  cases h1 with
  | arg h => rw [hv] at h; cases h
  | big _ h => rw [hf] at h; cases h
  | ok s _ _ hL =>
    have hs := last_pos hL
    cases h2 with
    | ok X Y d V hd hX hY g1 g2 =>
      have u := val_uniq hp hL hX hd hY (v := V) (by rw [g1]) g2
      have r := r_same (N := V) (D := d.toNat) (N' := valP p s) (D' := s.d.toNat) (by omega) (by omega) (by
        rw [show ((s.d.toNat : Nat) : Int) = s.d by omega, show ((d.toNat : Nat) : Int) = d by omega]
        exact u.symm)
      exact ⟨rfl, r.1, by rw [r.2]⟩
    | gap Y h => exact (farkas_no (last_prim hp hL) h.1 h.2).elim
    | free h =>
      obtain ⟨_, W, hW⟩ := h
      exact (ray_no hW hs (last_dual hp hL).1).elim
  | gap _ _ Y hG =>
    cases h2 with
    | ok X _ d V hd hX _ _ _ => exact (farkas_no hX hG.1 hG.2).elim
    | gap _ _ => exact ⟨rfl, rfl, rfl⟩
    | free h =>
      obtain ⟨⟨X, d, hX⟩, _⟩ := h
      exact (farkas_no hX hG.1 hG.2).elim
  | free _ _ hW =>
    obtain ⟨⟨X, d, hX⟩, W, hW⟩ := hW
    cases h2 with
    | ok _ Y d V hd _ hY _ _ => exact (ray_no hW hd hY).elim
    | gap Y hG => exact (farkas_no hX hG.1 hG.2).elim
    | free _ => exact ⟨rfl, rfl, rfl⟩
end
end Go.Proofs.YtdeaaonppokgkaaGreat
