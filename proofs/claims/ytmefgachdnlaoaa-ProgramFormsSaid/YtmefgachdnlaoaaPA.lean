/- Plain law: an alternating form of columns (a determinant, but for its sign). -/
namespace Go.Proofs.Ytmefgachdnlaoaa.Lp
/-- Sum of the first n numbers. -/
def sm : Nat → (Nat → Int) → Int
  | 0, _ => 0
  | n + 1, f => sm n f + f n
theorem sm_congr {f g : Nat → Int} : ∀ {n : Nat}, (∀ k, k < n → f k = g k) → sm n f = sm n g
  | 0, _ => rfl
  | n + 1, h => by rw [sm, sm, sm_congr fun k hk => h k (by omega), h n (by omega)]
theorem sm_zero {f : Nat → Int} : ∀ {n : Nat}, (∀ k, k < n → f k = 0) → sm n f = 0
  | 0, _ => rfl
  | n + 1, h => by rw [sm, sm_zero fun k hk => h k (by omega), h n (by omega)]; rfl
theorem sm_add (f g : Nat → Int) : ∀ n, sm n (fun k => f k + g k) = sm n f + sm n g
  | 0 => rfl
  | n + 1 => by rw [sm, sm, sm, sm_add f g n]; omega
theorem sm_mul (a : Int) (f : Nat → Int) : ∀ n, sm n (fun k => a * f k) = a * sm n f
  | 0 => by simp [sm]
  | n + 1 => by rw [sm, sm, sm_mul a f n, Int.mul_add]
theorem sm_mul' (a : Int) (f : Nat → Int) (n : Nat) : sm n (fun k => f k * a) = sm n f * a := by
  rw [Int.mul_comm, ← sm_mul]
  exact sm_congr fun k _ => Int.mul_comm _ _
theorem sm_sub (f g : Nat → Int) : ∀ n, sm n (fun k => f k - g k) = sm n f - sm n g
  | 0 => rfl
  | n + 1 => by rw [sm, sm, sm, sm_sub f g n]; omega
theorem sm_neg (f : Nat → Int) : ∀ n, sm n (fun k => - f k) = - sm n f
  | 0 => rfl
  | n + 1 => by rw [sm, sm, sm_neg f n]; omega
theorem sm_one {f : Nat → Int} {q : Nat} : ∀ {n : Nat}, q < n → (∀ k, k < n → k ≠ q → f k = 0) → sm n f = f q
  | n + 1, hq, h => by
    rw [sm]
    by_cases e : q = n
    · subst e
      rw [sm_zero fun k hk => h k (by omega) (by omega)]
      omega
    · rw [sm_one (n := n) (by omega) fun k hk => h k (by omega), h n (by omega) (by omega)]
      omega
theorem sm_two {f : Nat → Int} {p q : Nat} (hpq : p ≠ q) : ∀ {n : Nat}, p < n → q < n → (∀ k, k < n → k ≠ p → k ≠ q → f k = 0) → sm n f = f p + f q
  | n + 1, hp, hq, h => by
    rw [sm]
    by_cases e : p = n
    · subst e
      rw [sm_one (q := q) (by omega) fun k hk hkq => h k (by omega) (by omega) hkq]
      omega
    · by_cases e2 : q = n
      · subst e2
        rw [sm_one (q := p) (by omega) fun k hk hkp => h k (by omega) hkp (by omega)]
      · rw [sm_two hpq (n := n) (by omega) (by omega) fun k hk => h k (by omega), h n (by omega) (by omega) (by omega)]
        omega
theorem sm_swap (f : Nat → Nat → Int) (m : Nat) : ∀ n, sm n (fun k => sm m fun j => f k j) = sm m fun j => sm n fun k => f k j
  | 0 => by rw [sm, sm_zero]; intro k _; rfl
  | n + 1 => by rw [sm, sm_swap f m n, ← sm_add]; rfl
theorem sm_le {f g : Nat → Int} : ∀ {n : Nat}, (∀ k, k < n → f k ≤ g k) → sm n f ≤ sm n g
  | 0, _ => Int.le_refl _
  | n + 1, h => by
    have := sm_le (n := n) fun k hk => h k (by omega)
    have := h n (by omega)
    rw [sm, sm]; omega
theorem sm_nonneg {f : Nat → Int} {n : Nat} (h : ∀ k, k < n → 0 ≤ f k) : 0 ≤ sm n f := by
  have := sm_le (f := fun _ => 0) (g := f) (n := n) h
  rwa [sm_zero fun _ _ => rfl] at this
theorem sm_abs (f : Nat → Int) : ∀ n, (sm n f).natAbs ≤ sm n fun k => ((f k).natAbs : Int)
  | 0 => by simp [sm]
  | n + 1 => by
    have := sm_abs f n
    rw [sm, sm]
    omega
/-- The columns but one. -/
def skip (k j : Nat) : Nat := if j < k then j else j + 1
def sgn (k : Nat) : Int := if k % 2 = 0 then 1 else -1
theorem sgn_succ (k : Nat) : sgn (k + 1) = - sgn k := by
  unfold sgn
  by_cases h : k % 2 = 0
  · rw [if_pos h, if_neg (by omega)]
  · rw [if_neg h, if_pos (by omega)]; rfl
def D : Nat → (Nat → Nat → Int) → Int
  | 0, _ => 1
  | m + 1, M => sm (m + 1) fun k => sgn k * M m k * D m fun i j => M i (skip k j)
theorem D_congr : ∀ {m : Nat} {M N : Nat → Nat → Int}, (∀ i j, i < m → j < m → M i j = N i j) → D m M = D m N
  | 0, _, _, _ => rfl
  | m + 1, M, N, h => by
    rw [D, D]
    refine sm_congr fun k hk => ?_
    rw [h m k (by omega) hk, D_congr fun i j hi hj => h i (skip k j) (by omega) (by unfold skip; split <;> omega)]
/-- One column changed. -/
def setC (M : Nat → Nat → Int) (q : Nat) (u : Nat → Int) (i j : Nat) : Int := if j = q then u i else M i j
theorem setC_same (M : Nat → Nat → Int) (q : Nat) (u : Nat → Int) (i : Nat) : setC M q u i q = u i := by simp [setC]
theorem setC_ne (M : Nat → Nat → Int) {q j : Nat} (u : Nat → Int) (i : Nat) (h : j ≠ q) : setC M q u i j = M i j := by simp [setC, h]
theorem skip_ne (k j : Nat) : skip k j ≠ k := by unfold skip; split <;> omega
theorem skip_inj {k j j' : Nat} (h : skip k j = skip k j') : j = j' := by unfold skip at h; split at h <;> split at h <;> omega
/-- The place of a column among those that are left. -/
def unsk (k q : Nat) : Nat := if q < k then q else q - 1
theorem skip_unsk {k q : Nat} (h : q ≠ k) : skip k (unsk k q) = q := by
  unfold skip unsk
  by_cases h1 : q < k
  · rw [if_pos h1, if_pos h1]
  · rw [if_neg h1, if_neg (by omega)]; omega
theorem unsk_lt {k q m : Nat} (h : q ≠ k) (hq : q < m + 1) (hk : k < m + 1) : unsk k q < m := by unfold unsk; split <;> omega
theorem set_skip {M : Nat → Nat → Int} {q k : Nat} (u : Nat → Int) (h : q ≠ k) (i j : Nat) : setC M q u i (skip k j) = setC (fun i j => M i (skip k j)) (unsk k q) u i j := by
  unfold setC
  by_cases e : j = unsk k q
  · subst e
    rw [if_pos (skip_unsk h), if_pos rfl]
  · rw [if_neg e, if_neg]
    intro e2
    exact e (skip_inj (e2.trans (skip_unsk h).symm))
/-- Linear in each column. -/
theorem D_lin : ∀ {m q : Nat} {M : Nat → Nat → Int} (a b : Int) (u v : Nat → Int), q < m → D m (setC M q fun i => a * u i + b * v i) = a * D m (setC M q u) + b * D m (setC M q v)
  | m + 1, q, M, a, b, u, v, hq => by
    rw [D, D, D, ← sm_mul, ← sm_mul, ← sm_add]
    refine sm_congr fun k hk => ?_
    by_cases e : k = q
    · subst e
      simp only [setC_same]
      have e1 : ∀ w : Nat → Int, D m (fun i j => setC M k w i (skip k j)) = D m fun i j => M i (skip k j) := fun w => D_congr fun i j _ _ => setC_ne M w i (skip_ne k j)
      rw [e1, e1, e1]
      simp only [Int.mul_add, Int.add_mul]
      congr 1
      · rw [← Int.mul_assoc, ← Int.mul_assoc, ← Int.mul_assoc, Int.mul_comm (sgn k) a]
      · rw [← Int.mul_assoc, ← Int.mul_assoc, ← Int.mul_assoc, Int.mul_comm (sgn k) b]
    · have e1 : ∀ w : Nat → Int, D m (fun i j => setC M q w i (skip k j)) = D m (setC (fun i j => M i (skip k j)) (unsk k q) w) := fun w => D_congr fun i j _ _ => set_skip w (fun h => e h.symm) i j
      rw [e1, e1, e1, D_lin a b u v (unsk_lt (fun h => e h.symm) hq hk)]
      simp only [setC_ne M _ m e]
      grind
/-- No two adjacent columns are alike. -/
theorem D_adj : ∀ {m q : Nat} {M : Nat → Nat → Int}, q + 1 < m → (∀ i, i < m → M i q = M i (q + 1)) → D m M = 0
  | m + 1, q, M, hq, h => by
    rw [D, sm_two (p := q) (q := q + 1) (by omega) (by omega) (by omega)]
    · have e : D m (fun i j => M i (skip q j)) = D m fun i j => M i (skip (q + 1) j) := D_congr fun i j hi hj => by
        by_cases e : j = q
        · subst e
          have e1 : skip j j = j + 1 := by unfold skip; rw [if_neg (by omega)]
          have e2 : skip (j + 1) j = j := by unfold skip; rw [if_pos (by omega)]
          rw [e1, e2, h i (by omega)]
        · have : skip q j = skip (q + 1) j := by unfold skip; split <;> split <;> omega
          rw [this]
      rw [e, h m (by omega), sgn_succ, Int.neg_mul, Int.neg_mul]
      omega
    · intro k hk h1 h2
      have : D m (fun i j => M i (skip k j)) = 0 := by
        by_cases e : k < q
        · refine D_adj (q := q - 1) (by omega) fun i hi => ?_
          have e1 : skip k (q - 1) = q := by unfold skip; rw [if_neg (by omega)]; omega
          have e2 : skip k (q - 1 + 1) = q + 1 := by unfold skip; rw [if_neg (by omega)]; omega
          rw [e1, e2, h i (by omega)]
        · refine D_adj (q := q) (by omega) fun i hi => ?_
          have e1 : skip k q = q := by unfold skip; rw [if_pos (by omega)]
          have e2 : skip k (q + 1) = q + 1 := by unfold skip; rw [if_pos (by omega)]
          rw [e1, e2, h i (by omega)]
      rw [this, Int.mul_zero]
theorem D_set_id (M : Nat → Nat → Int) (q m : Nat) : D m (setC M q fun i => M i q) = D m M := D_congr fun i j _ _ => by
  unfold setC
  split
  · rename_i h; rw [h]
  · rfl
theorem D_lin1 {m q : Nat} {M : Nat → Nat → Int} (u v : Nat → Int) (hq : q < m) : D m (setC M q fun i => u i + v i) = D m (setC M q u) + D m (setC M q v) := by
  have := D_lin (M := M) 1 1 u v hq
  simpa using this
/-- Columns in another order. -/
def swp (p q j : Nat) : Nat := if j = p then q else if j = q then p else j
theorem D_swap_adj {m q : Nat} {M : Nat → Nat → Int} (hq : q + 1 < m) : D m (fun i j => M i (swp q (q + 1) j)) = - D m M := by
  have z : ∀ w : Nat → Int, D m (setC (setC M q w) (q + 1) w) = 0 := fun w => D_adj hq fun i _ => by
    rw [setC_ne _ _ _ (by omega), setC_same, setC_same]
  have h := z fun i => M i q + M i (q + 1)
  rw [D_lin1 _ _ hq] at h
  have com : ∀ (u v : Nat → Int), D m (setC (setC M q u) (q + 1) v) = D m (setC (setC M (q + 1) v) q u) := fun u v => D_congr fun i j _ _ => by
    unfold setC
    by_cases e : j = q
    · subst e
      rw [if_neg (by omega), if_pos rfl, if_pos rfl]
    · by_cases e2 : j = q + 1
      · simp [e2]
      · simp [e, e2]
  rw [com, com, D_lin1 _ _ (by omega), D_lin1 _ _ (by omega), ← com, ← com, ← com, ← com, z, z] at h
  have e1 : D m (setC (setC M q fun i => M i q) (q + 1) fun i => M i (q + 1)) = D m M := D_congr fun i j _ _ => by
    unfold setC
    by_cases e : j = q + 1
    · subst e; rw [if_pos rfl]
    · rw [if_neg e]
      by_cases e2 : j = q
      · subst e2; rw [if_pos rfl]
      · rw [if_neg e2]
  have e2 : D m (setC (setC M q fun i => M i (q + 1)) (q + 1) fun i => M i q) = D m fun i j => M i (swp q (q + 1) j) := D_congr fun i j _ _ => by
    unfold setC swp
    by_cases e : j = q + 1
    · subst e; rw [if_pos rfl, if_neg (by omega), if_pos rfl]
    · rw [if_neg e]
      by_cases e2 : j = q
      · subst e2; rw [if_pos rfl, if_pos rfl]
      · rw [if_neg e2, if_neg e2, if_neg e]
  rw [e1, e2] at h
  omega
/-- No two columns are alike. -/
theorem D_two {m : Nat} : ∀ {d p : Nat} {M : Nat → Nat → Int}, p + d + 1 < m → (∀ i, i < m → M i p = M i (p + d + 1)) → D m M = 0
  | 0, p, M, hq, h => D_adj hq h
  | d + 1, p, M, hq, h => by
    have hs := D_swap_adj (M := M) (q := p + d + 1) (m := m) (by omega)
    rw [D_two (d := d) (p := p) (by omega) fun i hi => ?_] at hs
    · omega
    · have e1 : swp (p + d + 1) (p + d + 1 + 1) p = p := by unfold swp; rw [if_neg (by omega), if_neg (by omega)]
      have e2 : swp (p + d + 1) (p + d + 1 + 1) (p + d + 1) = p + d + 1 + 1 := by unfold swp; rw [if_pos rfl]
      rw [e1, e2]
      exact h i hi
theorem D_alt {m p q : Nat} {M : Nat → Nat → Int} (hp : p < m) (hq : q < m) (hpq : p ≠ q) (h : ∀ i, i < m → M i p = M i q) : D m M = 0 := by
  rcases Nat.lt_or_ge p q with hlt | hge
  · exact D_two (d := q - p - 1) (p := p) (by omega) fun i hi => by rw [show p + (q - p - 1) + 1 = q by omega]; exact h i hi
  · exact D_two (d := p - q - 1) (p := q) (by omega) fun i hi => by rw [show q + (p - q - 1) + 1 = p by omega]; exact (h i hi).symm
theorem D_swap {m p q : Nat} {M : Nat → Nat → Int} (hp : p < m) (hq : q < m) (hpq : p ≠ q) (u v : Nat → Int) : D m (setC (setC M p u) q v) = - D m (setC (setC M p v) q u) := by
  have z : ∀ w : Nat → Int, D m (setC (setC M p w) q w) = 0 := fun w => D_alt hp hq hpq fun i _ => by
    rw [setC_ne _ _ _ hpq, setC_same, setC_same]
  have h := z fun i => u i + v i
  rw [D_lin1 _ _ hq] at h
  have com : ∀ (u v : Nat → Int), D m (setC (setC M p u) q v) = D m (setC (setC M q v) p u) := fun u v => D_congr fun i j _ _ => by
    unfold setC
    by_cases e : j = p
    · subst e
      rw [if_neg hpq, if_pos rfl, if_pos rfl]
    · by_cases e2 : j = q
      · rw [if_pos e2, if_neg e, if_pos e2]
      · rw [if_neg e2, if_neg e, if_neg e, if_neg e2]
  rw [com, com, D_lin1 _ _ hp, D_lin1 _ _ hp, ← com, ← com, ← com, ← com, z, z] at h
  omega
/-- A column that is a sum. -/
theorem D_sum {m q : Nat} {M : Nat → Nat → Int} (hq : q < m) (l : Nat → Int) (u : Nat → Nat → Int) : ∀ n, D m (setC M q fun i => sm n fun k => l k * u k i) = sm n fun k => l k * D m (setC M q (u k))
  | 0 => by
    have := D_lin (M := M) 0 0 (fun _ => 0) (fun _ => 0) hq
    simpa [sm] using this
  | n + 1 => by
    have h1 := D_lin (M := M) 1 (l n) (fun i => sm n fun k => l k * u k i) (u n) hq
    simp only [Int.one_mul] at h1
    rw [D_sum hq l u n] at h1
    exact h1
/-- A bound: the product of bounds of the rows' sums. -/
def prd : Nat → (Nat → Nat) → Nat
  | 0, _ => 1
  | n + 1, f => prd n f * f n
theorem sm_skip {f : Nat → Int} (hf : ∀ k, 0 ≤ f k) {q : Nat} : ∀ {m : Nat}, q < m + 1 → sm m (fun k => f (skip q k)) + f q = sm (m + 1) f
  | 0, h => by
    obtain rfl : q = 0 := by omega
    simp [sm]
  | m + 1, h => by
    rw [sm]
    by_cases e : q = m + 1
    · subst e
      have : sm m (fun k => f (skip (m + 1) k)) = sm m f := sm_congr fun k hk => by unfold skip; rw [if_pos (by omega)]
      rw [this, show skip (m + 1) m = m by unfold skip; rw [if_pos (by omega)]]
      simp only [sm]
    · have ih := sm_skip hf (q := q) (m := m) (by omega)
      rw [show skip q m = m + 1 by unfold skip; rw [if_neg (by omega)]]
      have : sm (m + 1 + 1) f = sm (m + 1) f + f (m + 1) := rfl
      rw [this]
      omega
theorem D_le : ∀ {m : Nat} {M : Nat → Nat → Int} {R : Nat → Nat}, (∀ i, i < m → sm m (fun k => ((M i k).natAbs : Int)) ≤ R i) → (D m M).natAbs ≤ prd m R
  | 0, _, _, _ => by simp [D, prd]
  | m + 1, M, R, h => by
    rw [D, prd]
    have h1 := sm_abs (fun k => sgn k * M m k * D m fun i j => M i (skip k j)) (m + 1)
    have h2 : (sm (m + 1) fun k => ((sgn k * M m k * D m fun i j => M i (skip k j)).natAbs : Int)) ≤ sm (m + 1) fun k => ((M m k).natAbs : Int) * (prd m R : Int) := by
      refine sm_le fun k hk => ?_
      have ih := D_le (M := fun i j => M i (skip k j)) (R := R) (m := m) fun i hi => by
        have := h i (by omega)
        have e := sm_skip (f := fun k => ((M i k).natAbs : Int)) (fun k => by omega) hk
        omega
      rw [Int.natAbs_mul, Int.natAbs_mul]
      have e : (sgn k).natAbs = 1 := by unfold sgn; split <;> rfl
      rw [e, Nat.one_mul]
      exact_mod_cast Nat.mul_le_mul_left _ ih
    rw [sm_mul'] at h2
    have h3 := h m (by omega)
    have h4 : sm (m + 1) (fun k => ((M m k).natAbs : Int)) * (prd m R : Int) ≤ (R m : Int) * (prd m R : Int) := Int.mul_le_mul_of_nonneg_right h3 (by omega)
    have h5 : (R m : Int) * (prd m R : Int) = ((prd m R * R m : Nat) : Int) := by rw [Int.mul_comm]; exact_mod_cast rfl
    omega
/-- The unit columns. -/
theorem D_unit : ∀ {m : Nat} {M : Nat → Nat → Int}, (∀ i j, i < m → j < m → M i j = if i = j then 1 else 0) → (D m M).natAbs = 1
  | 0, _, _ => rfl
  | m + 1, M, h => by
    rw [D, sm_one (q := m) (by omega)]
    · rw [h m m (by omega) (by omega), if_pos rfl, Int.mul_one, Int.natAbs_mul]
      have ih := D_unit (m := m) (M := fun i j => M i (skip m j)) fun i j hi hj => by
        have : skip m j = j := by unfold skip; rw [if_pos hj]
        rw [this, h i j (by omega) (by omega)]
      rw [ih]
      unfold sgn
      split <;> rfl
    · intro k hk hkm
      rw [h m k (by omega) hk, if_neg (by omega), Int.mul_zero, Int.zero_mul]
end Go.Proofs.Ytmefgachdnlaoaa.Lp
