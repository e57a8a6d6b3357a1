/- Plain law: how large the numbers of a table become. -/
import Derived.Test.YtmefgachdnlaoaaPE
namespace Go.Proofs.Ytmefgachdnlaoaa.Lp
theorem sm_inj {N : Nat} : ∀ {m : Nat} {g : Nat → Nat} {w : Nat → Int}, (∀ q, 0 ≤ w q) → (∀ k, k < m → g k < N) → (∀ i k, i < m → k < m → g i = g k → i = k) → (sm m fun k => w (g k)) ≤ sm N w
  | 0, _, _, hw, _, _ => sm_nonneg fun k _ => hw k
  | m + 1, g, w, hw, hg, hi => by
    have ih := sm_inj (N := N) (m := m) (g := g) (w := up w (g m) 0) (fun q => by unfold up; split <;> simp [hw q]) (fun k hk => hg k (by omega)) fun i k h1 h2 => hi i k (by omega) (by omega)
    rw [sm_up (hg m (by omega))] at ih
    have : (sm m fun k => up w (g m) 0 (g k)) = sm m fun k => w (g k) := sm_congr fun k hk => up_ne _ _ fun e => by have := hi k m (by omega) (by omega) e; omega
    rw [this] at ih
    rw [sm]
    omega
theorem prd_mono {f g : Nat → Nat} : ∀ {m : Nat}, (∀ i, i < m → f i ≤ g i) → prd m f ≤ prd m g
  | 0, _ => Nat.le_refl _
  | m + 1, h => Nat.mul_le_mul (prd_mono fun i hi => h i (by omega)) (h m (by omega))
theorem prd_congr {f g : Nat → Nat} : ∀ {m : Nat}, (∀ i, i < m → f i = g i) → prd m f = prd m g
  | 0, _ => rfl
  | m + 1, h => by rw [prd, prd, prd_congr fun i hi => h i (by omega), h m (by omega)]
theorem prd_up {f : Nat → Nat} {t : Nat} : ∀ {m : Nat}, t < m → prd m (up f t 1) * f t = prd m f
  | m + 1, h => by
    rw [prd, prd]
    by_cases e : t = m
    · subst e
      rw [up_same, Nat.mul_one, prd_congr fun i hi => up_ne f 1 (by omega : i ≠ t)]
    · rw [up_ne f 1 (fun h => e h.symm), ← prd_up (f := f) (t := t) (m := m) (by omega), Nat.mul_right_comm]
/-- A unit column clears its row. -/
theorem D_clear {m : Nat} {M : Nat → Nat → Int} {k0 t0 : Nat} (hk : k0 < m) (hu : ∀ i, i < m → M i k0 = if i = t0 then 1 else 0) : ∀ q, q ≤ m → D m M = D m fun i k => if k < q ∧ k ≠ k0 ∧ i = t0 then 0 else M i k
  | 0, _ => D_congr fun i k _ _ => by rw [if_neg (by omega)]
  | q + 1, hq => by
    rw [D_clear hk hu q (by omega)]
    by_cases e : q = k0
    · exact D_congr fun i k _ _ => by
        by_cases h : k < q ∧ k ≠ k0 ∧ i = t0
        · rw [if_pos h, if_pos ⟨by omega, h.2⟩]
        · rw [if_neg h, if_neg (by omega)]
    · have h1 := D_lin (M := fun i k => if k < q ∧ k ≠ k0 ∧ i = t0 then 0 else M i k) (m := m) (q := q) 1 (M t0 q) (fun i => if i = t0 then 0 else M i q) (fun i => if i = t0 then 1 else 0) (by omega)
      have z : D m (setC (fun i k => if k < q ∧ k ≠ k0 ∧ i = t0 then 0 else M i k) q fun i => if i = t0 then 1 else 0) = 0 := D_alt (p := q) (q := k0) (by omega) hk e fun i hi => by
        rw [setC_same, setC_ne _ _ _ (fun h => e h.symm), hu i hi]
        show _ = if k0 < q ∧ k0 ≠ k0 ∧ i = t0 then _ else _
        rw [if_neg (show ¬ (k0 < q ∧ k0 ≠ k0 ∧ i = t0) from fun h => h.2.1 rfl)]
      rw [z, Int.mul_zero, Int.add_zero, Int.one_mul] at h1
      have e1 : D m (fun i k => if k < q ∧ k ≠ k0 ∧ i = t0 then 0 else M i k) = D m (setC (fun i k => if k < q ∧ k ≠ k0 ∧ i = t0 then 0 else M i k) q fun i => 1 * (if i = t0 then 0 else M i q) + M t0 q * if i = t0 then 1 else 0) := D_congr fun i k _ _ => by
        unfold setC
        by_cases ek : k = q
        · subst ek
          rw [if_pos rfl, if_neg (by omega)]
          show M i k = 1 * (if i = t0 then 0 else M i k) + M t0 k * if i = t0 then 1 else 0
          by_cases ei : i = t0
          · rw [if_pos ei, if_pos ei, ei]; omega
          · rw [if_neg ei, if_neg ei]; omega
        · rw [if_neg ek]
      rw [e1, h1]
      refine D_congr fun i k _ _ => ?_
      unfold setC
      by_cases ek : k = q
      · subst ek
        rw [if_pos rfl]
        show (if i = t0 then 0 else M i k) = _
        by_cases ei : i = t0
        · rw [if_pos ei, if_pos ⟨by omega, e, ei⟩]
        · rw [if_neg ei, if_neg (fun h => ei h.2.2)]
      · rw [if_neg ek]
        show (if k < q ∧ k ≠ k0 ∧ i = t0 then 0 else M i k) = _
        by_cases h : k < q ∧ k ≠ k0 ∧ i = t0
        · rw [if_pos h, if_pos ⟨by omega, h.2⟩]
        · rw [if_neg h, if_neg (by omega)]
theorem D_clear_all {m : Nat} {M : Nat → Nat → Int} {k0 t0 : Nat} (hk : k0 < m) (hu : ∀ i, i < m → M i k0 = if i = t0 then 1 else 0) : D m M = D m fun i k => if k ≠ k0 ∧ i = t0 then 0 else M i k := by
  rw [D_clear hk hu m (Nat.le_refl m)]
  exact D_congr fun i k _ hkm => by
    by_cases h : k ≠ k0 ∧ i = t0
    · rw [if_pos ⟨hkm, h⟩, if_pos h]
    · rw [if_neg (fun e => h e.2), if_neg h]
/-- The factors of the rows. -/
def fac (p : Lp) (t : Nat) : Nat := 1 + (sm p.n fun j => ((p.a t j).natAbs : Int)).toNat + (p.b t).natAbs
/-- What columns there are, but for multiples. -/
def cls (p : Lp) (F : Nat) (srow : Nat → Nat) (j : Nat) : Nat := if j < p.n then j else if j < F then p.n + srow j else if j < F + p.m then p.n + (j - F) else p.n + p.m
def wt (p : Lp) (t q : Nat) : Int := if q < p.n then ((p.a t q).natAbs : Int) else if q < p.n + p.m then (if q - p.n = t then 1 else 0) else ((p.b t).natAbs : Int)
section
variable {p : Lp} {A : Nat → Nat → Int} {F : Nat} {σ : Nat → Int} {srow scol : Nat → Nat}
theorem wt_sum {t : Nat} (ht : t < p.m) : sm (p.n + p.m + 1) (wt p t) = fac p t := by
  rw [sm, sm_split]
  have e1 : sm p.n (wt p t) = sm p.n fun j => ((p.a t j).natAbs : Int) := sm_congr fun j hj => by unfold wt; rw [if_pos hj]
  have e2 : (sm p.m fun k => wt p t (p.n + k)) = 1 := by
    rw [sm_one (q := t) ht fun k hk hkt => ?_]
    · unfold wt; rw [if_neg (by omega), if_pos (by omega), if_pos (by omega)]
    · unfold wt; rw [if_neg (by omega), if_pos (by omega), if_neg (by omega)]
  have e3 : wt p t (p.n + p.m) = ((p.b t).natAbs : Int) := by unfold wt; rw [if_neg (by omega), if_neg (by omega)]
  have h0 : 0 ≤ sm p.n fun j => ((p.a t j).natAbs : Int) := sm_nonneg fun j _ => by omega
  rw [e1, e2, e3]
  unfold fac
  omega
theorem abs_sgn {s x : Int} (h : s = 1 ∨ s = -1) : (s * x).natAbs = x.natAbs := by rcases h with e | e <;> rw [e] <;> simp
theorem Form.wt (h : Form p A F σ srow scol) {t j : Nat} (ht : t < p.m) (hj : j < F + p.m + 1) : ((A t j).natAbs : Int) ≤ Lp.wt p t (cls p F srow j) := by
  unfold cls Lp.wt
  by_cases h1 : j < p.n
  · rw [if_pos h1, if_pos h1, h.var t j ht h1, abs_sgn (h.unit t ht)]
    exact Int.le_refl _
  rw [if_neg h1]
  by_cases h2 : j < F
  · have := h.slt j (by omega) h2
    rw [if_pos h2, if_neg (by omega), if_pos (by omega), h.slk t j ht (by omega) h2]
    by_cases e : t = srow j
    · rw [if_pos e, if_pos (by omega), abs_sgn (h.unit t ht)]
      cases p.kind t <;> decide
    · rw [if_neg e, if_neg (by omega)]
      decide
  rw [if_neg h2]
  by_cases h3 : j < F + p.m
  · have e1 := h.art t (j - F) ht (by omega)
    rw [show F + (j - F) = j by omega] at e1
    rw [if_pos h3, if_neg (by omega), if_pos (by omega), e1]
    by_cases e : t = j - F
    · rw [if_pos e, if_pos (by omega)]; decide
    · rw [if_neg e, if_neg (by omega)]; decide
  · rw [if_neg h3, if_neg (by omega), if_neg (by omega), show j = F + p.m by omega, h.right t ht, abs_sgn (h.unit t ht)]
    exact Int.le_refl _
/-- Columns of one class are multiples of one column. -/
theorem Form.cls_same (h : Form p A F σ srow scol) {j j' : Nat} (hj : j < F + p.m + 1) (hj' : j' < F + p.m + 1) (e : cls p F srow j = cls p F srow j') : ∃ (u : Nat → Int) (α β : Int), (∀ t, t < p.m → A t j = α * u t) ∧ ∀ t, t < p.m → A t j' = β * u t := by
  have unit : ∀ j q, j < F + p.m + 1 → cls p F srow j = p.n + q → q < p.m → ∃ α : Int, ∀ t, t < p.m → A t j = α * if t = q then 1 else 0 := fun j q hj hc hq => by
    unfold cls at hc
    split at hc
    · omega
    · split at hc
      · rename_i h1 h2
        refine ⟨σ q * (p.kind q).slack, fun t ht => ?_⟩
        rw [h.slk t j ht (by omega) h2, show srow j = q by omega]
        by_cases et : t = q
        · rw [if_pos et, if_pos et, Int.mul_one, et]
        · rw [if_neg et, if_neg et, Int.mul_zero]
      · split at hc
        · rename_i h1 h2 h3
          refine ⟨1, fun t ht => ?_⟩
          rw [Int.one_mul, ← h.art t q ht hq, show F + q = j by omega]
        · omega
  by_cases h1 : cls p F srow j < p.n
  · have : j = j' := by
      unfold cls at e h1
      split at h1
      · rename_i hn
        rw [if_pos hn] at e
        split at e
        · exact e
        · split at e
          · omega
          · split at e <;> omega
      · split at h1
        · omega
        · split at h1 <;> omega
    subst this
    exact ⟨fun t => A t j, 1, 1, fun t _ => by simp, fun t _ => by simp⟩
  · by_cases h2 : cls p F srow j < p.n + p.m
    · obtain ⟨α, ha⟩ := unit j (cls p F srow j - p.n) hj (by omega) (by omega)
      obtain ⟨β, hb⟩ := unit j' (cls p F srow j - p.n) hj' (by omega) (by omega)
      exact ⟨_, α, β, ha, hb⟩
    · have r : ∀ j, j < F + p.m + 1 → ¬ cls p F srow j < p.n + p.m → j = F + p.m := fun j hj hc => by
        unfold cls at hc
        split at hc
        · omega
        · split at hc
          · rename_i q1 q2
            have := h.slt j (by omega) q2
            omega
          · split at hc <;> omega
      have e1 := r j hj h2
      have e2 := r j' hj' (by rw [← e]; exact h2)
      rw [e1, e2]
      exact ⟨fun t => A t (F + p.m), 1, 1, fun t _ => by simp, fun t _ => by simp⟩
theorem phi_cls (h : Form p A F σ srow scol) {b : Nat → Nat} (hb : ∀ k, k < p.m → b k < F + p.m + 1) {i k : Nat} (hi : i < p.m) (hk : k < p.m) (hik : i ≠ k) (e : cls p F srow (b i) = cls p F srow (b k)) : phi A p.m b = 0 := by
  obtain ⟨u, α, β, h1, h2⟩ := h.cls_same (hb i hi) (hb k hk) e
  have e1 : phi A p.m b = D p.m (setC (setC (fun t q => A t (b q)) i fun t => α * u t) k fun t => β * u t) := D_congr fun t q ht _ => by
    unfold setC
    by_cases e2 : q = k
    · subst e2; rw [if_pos rfl, h2 t ht]
    · rw [if_neg e2]
      by_cases e3 : q = i
      · subst e3; rw [if_pos rfl, h1 t ht]
      · rw [if_neg e3]
  have l1 := D_lin (M := setC (fun t q => A t (b q)) i fun t => α * u t) β 0 u (fun _ => 0) hk
  simp only [Int.zero_mul, Int.add_zero] at l1
  have com : D p.m (setC (setC (fun t q => A t (b q)) i fun t => α * u t) k u) = D p.m (setC (setC (fun t q => A t (b q)) k u) i fun t => α * u t) := D_congr fun t q _ _ => by
    unfold setC
    by_cases e2 : q = k
    · rw [if_pos e2, if_neg (by omega), if_pos e2]
    · by_cases e3 : q = i
      · rw [if_neg e2, if_pos e3, if_pos e3]
      · rw [if_neg e2, if_neg e3, if_neg e3, if_neg e2]
  have l2 := D_lin (M := setC (fun t q => A t (b q)) k u) α 0 u (fun _ => 0) hi
  simp only [Int.zero_mul, Int.add_zero] at l2
  have z : D p.m (setC (setC (fun t q => A t (b q)) k u) i u) = 0 := D_alt hi hk hik fun t _ => by rw [setC_same, setC_ne _ _ _ (fun e => hik e.symm), setC_same]
  rw [e1, l1, com, l2, z]
  simp
theorem cls_lt (h : Form p A F σ srow scol) {j : Nat} : cls p F srow j < p.n + p.m + 1 := by
  unfold cls
  split
  · omega
  · split
    · have := h.slt j (by omega) (by assumption)
      omega
    · split <;> omega
/-- **No form is greater than the product of the factors.** -/
theorem phi_le (h : Form p A F σ srow scol) {b : Nat → Nat} (hb : ∀ k, k < p.m → b k < F + p.m + 1) : (phi A p.m b).natAbs ≤ prd p.m (fac p) := by
  by_cases hi : ∀ i k, i < p.m → k < p.m → cls p F srow (b i) = cls p F srow (b k) → i = k
  · refine D_le fun t ht => ?_
    rw [← wt_sum ht]
    refine Int.le_trans (sm_le (g := fun k => wt p t (cls p F srow (b k))) fun k hk => h.wt ht (hb k hk)) (sm_inj (w := wt p t) (fun q => ?_) (fun k hk => cls_lt h) hi)
    unfold wt
    split
    · omega
    · split
      · split <;> omega
      · omega
  · have : ∃ i k, i < p.m ∧ k < p.m ∧ cls p F srow (b i) = cls p F srow (b k) ∧ i ≠ k := Classical.byContradiction fun hno => hi fun i k h1 h2 h3 => Classical.byContradiction fun h4 => hno ⟨i, k, h1, h2, h3, h4⟩
    obtain ⟨i, k, h1, h2, h3, h4⟩ := this
    rw [phi_cls h hb h1 h2 h4 h3]
    simp
/-- .. and with an artificial column, without that row's factor. -/
theorem phi_art (h : Form p A F σ srow scol) {b : Nat → Nat} (hb : ∀ k, k < p.m → b k < F + p.m + 1) {k0 t0 : Nat} (hk0 : k0 < p.m) (ht0 : t0 < p.m) (hu : b k0 = F + t0) : (phi A p.m b).natAbs * fac p t0 ≤ prd p.m (fac p) := by
  rw [← prd_up ht0]
  refine Nat.mul_le_mul_right _ ?_
  by_cases hi : ∀ i k, i < p.m → k < p.m → cls p F srow (b i) = cls p F srow (b k) → i = k
  · have hc := D_clear_all (M := fun t k => A t (b k)) (t0 := t0) hk0 fun i hi => by rw [hu, h.art i t0 hi ht0]
    unfold phi
    rw [hc]
    refine D_le fun t ht => ?_
    by_cases et : t = t0
    · subst et
      rw [up_same, sm_one (q := k0) hk0 fun k hk hkk => by rw [if_pos ⟨hkk, rfl⟩]; rfl, if_neg (fun e => e.1 rfl), hu, h.art t t ht ht, if_pos rfl]
      decide
    · rw [up_ne _ _ et, ← wt_sum ht]
      refine Int.le_trans (sm_le (g := fun k => wt p t (cls p F srow (b k))) fun k hk => ?_) (sm_inj (w := wt p t) (fun q => ?_) (fun k hk => cls_lt h) hi)
      · rw [if_neg (fun e => et e.2)]
        exact h.wt ht (hb k hk)
      · unfold wt
        split
        · omega
        · split
          · split <;> omega
          · omega
  · have : ∃ i k, i < p.m ∧ k < p.m ∧ cls p F srow (b i) = cls p F srow (b k) ∧ i ≠ k := Classical.byContradiction fun hno => hi fun i k h1 h2 h3 => Classical.byContradiction fun h4 => hno ⟨i, k, h1, h2, h3, h4⟩
    obtain ⟨i, k, h1, h2, h3, h4⟩ := this
    rw [phi_cls h hb h1 h2 h4 h3]
    simp
theorem Form.cell_le (h : Form p A F σ srow scol) {s : Tabl} {g : Int} (ht : Tab A p.m (F + p.m + 1) s g) {i j : Nat} (hi : i < p.m) (hj : j < F + p.m + 1) : (s.T i j).natAbs ≤ prd p.m (fac p) := by
  rw [ht.cell i j hi hj, abs_sgn ht.unit]
  refine phi_le h fun k hk => ?_
  unfold up
  split
  · exact hj
  · exact ht.bas k hk
theorem Form.den_le (h : Form p A F σ srow scol) {s : Tabl} {g : Int} (ht : Tab A p.m (F + p.m + 1) s g) : s.d.natAbs ≤ prd p.m (fac p) := by
  rw [ht.den, abs_sgn ht.unit]
  exact phi_le h ht.bas
theorem Form.art_le (h : Form p A F σ srow scol) {s : Tabl} {g : Int} (ht : Tab A p.m (F + p.m + 1) s g) {i t : Nat} (hi : i < p.m) (hti : t < p.m) : (s.T i (F + t)).natAbs * fac p t ≤ prd p.m (fac p) := by
  rw [ht.cell i _ hi (by omega), abs_sgn ht.unit]
  refine phi_art h (fun k hk => ?_) hi hti (up_same _ _ _)
  unfold up
  split
  · omega
  · exact ht.bas k hk
end
end Go.Proofs.Ytmefgachdnlaoaa.Lp
