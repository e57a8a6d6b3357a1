/- Plain law: an alternating form of columns; tables of the simplex method; the rule that ends; what a last table says. -/
namespace Go.Proofs.YtdeaaonppokgkaaGreat.Lp
/-- Sum of the first n numbers. -/
def sm : Nat → (Nat → Int) → Int
  | 0, _ => 0
  | n + 1, f => sm n f + f n
theorem sm_congr {f g : Nat → Int} : ∀ {n : Nat}, (∀ k, k < n → f k = g k) → sm n f = sm n g
  | 0, _ => rfl
  | n + 1, h => by rw [sm, sm, sm_congr fun k hk => h k (by omega), h n (by omega)]
theorem sm_zero {f : Nat → Int} : ∀ {n : Nat}, (∀ k, k < n → f k = 0) → sm n f = 0
  | 0, _ => rfl
  | n + 1, h => by rw [sm, sm_zero fun k hk => h k (by omega), h n (by omega)]; rfl
theorem sm_add (f g : Nat → Int) : ∀ n, sm n (fun k => f k + g k) = sm n f + sm n g
  | 0 => rfl
  | n + 1 => by rw [sm, sm, sm, sm_add f g n]; omega
theorem sm_mul (a : Int) (f : Nat → Int) : ∀ n, sm n (fun k => a * f k) = a * sm n f
  | 0 => by simp [sm]
  | n + 1 => by rw [sm, sm, sm_mul a f n, Int.mul_add]
theorem sm_mul' (a : Int) (f : Nat → Int) (n : Nat) : sm n (fun k => f k * a) = sm n f * a := by
  rw [Int.mul_comm, ← sm_mul]
  exact sm_congr fun k _ => Int.mul_comm _ _
theorem sm_sub (f g : Nat → Int) : ∀ n, sm n (fun k => f k - g k) = sm n f - sm n g
  | 0 => rfl
  | n + 1 => by rw [sm, sm, sm, sm_sub f g n]; omega
theorem sm_neg (f : Nat → Int) : ∀ n, sm n (fun k => - f k) = - sm n f
  | 0 => rfl
  | n + 1 => by rw [sm, sm, sm_neg f n]; omega
theorem sm_one {f : Nat → Int} {q : Nat} : ∀ {n : Nat}, q < n → (∀ k, k < n → k ≠ q → f k = 0) → sm n f = f q
  | n + 1, hq, h => by
    rw [sm]
    by_cases e : q = n
    · subst e
      rw [sm_zero fun k hk => h k (by omega) (by omega)]
      omega
    · rw [sm_one (n := n) (by omega) fun k hk => h k (by omega), h n (by omega) (by omega)]
      omega
theorem sm_two {f : Nat → Int} {p q : Nat} (hpq : p ≠ q) : ∀ {n : Nat}, p < n → q < n → (∀ k, k < n → k ≠ p → k ≠ q → f k = 0) → sm n f = f p + f q
  | n + 1, hp, hq, h => by
    rw [sm]
    by_cases e : p = n
    · subst e
      rw [sm_one (q := q) (by omega) fun k hk hkq => h k (by omega) (by omega) hkq]
      omega
    · by_cases e2 : q = n
      · subst e2
        rw [sm_one (q := p) (by omega) fun k hk hkp => h k (by omega) hkp (by omega)]
      · rw [sm_two hpq (n := n) (by omega) (by omega) fun k hk => h k (by omega), h n (by omega) (by omega) (by omega)]
        omega
theorem sm_swap (f : Nat → Nat → Int) (m : Nat) : ∀ n, sm n (fun k => sm m fun j => f k j) = sm m fun j => sm n fun k => f k j
  | 0 => by rw [sm, sm_zero]; intro k _; rfl
  | n + 1 => by rw [sm, sm_swap f m n, ← sm_add]; rfl
theorem sm_le {f g : Nat → Int} : ∀ {n : Nat}, (∀ k, k < n → f k ≤ g k) → sm n f ≤ sm n g
  | 0, _ => Int.le_refl _
  | n + 1, h => by
    have := sm_le (n := n) fun k hk => h k (by omega)
    have := h n (by omega)
    rw [sm, sm]; omega
theorem sm_nonneg {f : Nat → Int} {n : Nat} (h : ∀ k, k < n → 0 ≤ f k) : 0 ≤ sm n f := by
  have := sm_le (f := fun _ => 0) (g := f) (n := n) h
  rwa [sm_zero fun _ _ => rfl] at this
theorem sm_abs (f : Nat → Int) : ∀ n, (sm n f).natAbs ≤ sm n fun k => ((f k).natAbs : Int)
  | 0 => by simp [sm]
  | n + 1 => by
    have := sm_abs f n
    rw [sm, sm]
    omega
/-- The columns but one. -/
def skip (k j : Nat) : Nat := if j < k then j else j + 1
def sgn (k : Nat) : Int := if k % 2 = 0 then 1 else -1
theorem sgn_succ (k : Nat) : sgn (k + 1) = - sgn k := by
  unfold sgn
  by_cases h : k % 2 = 0
  · rw [if_pos h, if_neg (by omega)]
  · rw [if_neg h, if_pos (by omega)]; rfl
def D : Nat → (Nat → Nat → Int) → Int
  | 0, _ => 1
  | m + 1, M => sm (m + 1) fun k => sgn k * M m k * D m fun i j => M i (skip k j)
theorem D_congr : ∀ {m : Nat} {M N : Nat → Nat → Int}, (∀ i j, i < m → j < m → M i j = N i j) → D m M = D m N
  | 0, _, _, _ => rfl
  | m + 1, M, N, h => by
    rw [D, D]
    refine sm_congr fun k hk => ?_
    rw [h m k (by omega) hk, D_congr fun i j hi hj => h i (skip k j) (by omega) (by unfold skip; split <;> omega)]
/-- One column changed. -/
def setC (M : Nat → Nat → Int) (q : Nat) (u : Nat → Int) (i j : Nat) : Int := if j = q then u i else M i j
theorem setC_same (M : Nat → Nat → Int) (q : Nat) (u : Nat → Int) (i : Nat) : setC M q u i q = u i := by simp [setC]
theorem setC_ne (M : Nat → Nat → Int) {q j : Nat} (u : Nat → Int) (i : Nat) (h : j ≠ q) : setC M q u i j = M i j := by simp [setC, h]
theorem skip_ne (k j : Nat) : skip k j ≠ k := by unfold skip; split <;> omega
theorem skip_inj {k j j' : Nat} (h : skip k j = skip k j') : j = j' := by unfold skip at h; split at h <;> split at h <;> omega
/-- The place of a column among those that are left. -/
def unsk (k q : Nat) : Nat := if q < k then q else q - 1
theorem skip_unsk {k q : Nat} (h : q ≠ k) : skip k (unsk k q) = q := by
  unfold skip unsk
  by_cases h1 : q < k
  · rw [if_pos h1, if_pos h1]
  · rw [if_neg h1, if_neg (by omega)]; omega
theorem unsk_lt {k q m : Nat} (h : q ≠ k) (hq : q < m + 1) (hk : k < m + 1) : unsk k q < m := by unfold unsk; split <;> omega
theorem set_skip {M : Nat → Nat → Int} {q k : Nat} (u : Nat → Int) (h : q ≠ k) (i j : Nat) : setC M q u i (skip k j) = setC (fun i j => M i (skip k j)) (unsk k q) u i j := by
  unfold setC
  by_cases e : j = unsk k q
  · subst e
    rw [if_pos (skip_unsk h), if_pos rfl]
  · rw [if_neg e, if_neg]
    intro e2
    exact e (skip_inj (e2.trans (skip_unsk h).symm))
/-- Linear in each column. -/
theorem D_lin : ∀ {m q : Nat} {M : Nat → Nat → Int} (a b : Int) (u v : Nat → Int), q < m → D m (setC M q fun i => a * u i + b * v i) = a * D m (setC M q u) + b * D m (setC M q v)
  | m + 1, q, M, a, b, u, v, hq => by
    rw [D, D, D, ← sm_mul, ← sm_mul, ← sm_add]
    refine sm_congr fun k hk => ?_
    by_cases e : k = q
    · subst e
      simp only [setC_same]
      have e1 : ∀ w : Nat → Int, D m (fun i j => setC M k w i (skip k j)) = D m fun i j => M i (skip k j) := fun w => D_congr fun i j _ _ => setC_ne M w i (skip_ne k j)
      rw [e1, e1, e1]
      simp only [Int.mul_add, Int.add_mul]
      congr 1
      · rw [← Int.mul_assoc, ← Int.mul_assoc, ← Int.mul_assoc, Int.mul_comm (sgn k) a]
      · rw [← Int.mul_assoc, ← Int.mul_assoc, ← Int.mul_assoc, Int.mul_comm (sgn k) b]
    · have e1 : ∀ w : Nat → Int, D m (fun i j => setC M q w i (skip k j)) = D m (setC (fun i j => M i (skip k j)) (unsk k q) w) := fun w => D_congr fun i j _ _ => set_skip w (fun h => e h.symm) i j
      rw [e1, e1, e1, D_lin a b u v (unsk_lt (fun h => e h.symm) hq hk)]
      simp only [setC_ne M _ m e]
      grind
/-- No two adjacent columns are alike. -/
theorem D_adj : ∀ {m q : Nat} {M : Nat → Nat → Int}, q + 1 < m → (∀ i, i < m → M i q = M i (q + 1)) → D m M = 0
  | m + 1, q, M, hq, h => by
    rw [D, sm_two (p := q) (q := q + 1) (by omega) (by omega) (by omega)]
    · have e : D m (fun i j => M i (skip q j)) = D m fun i j => M i (skip (q + 1) j) := D_congr fun i j hi hj => by
        by_cases e : j = q
        · subst e
          have e1 : skip j j = j + 1 := by unfold skip; rw [if_neg (by omega)]
          have e2 : skip (j + 1) j = j := by unfold skip; rw [if_pos (by omega)]
          rw [e1, e2, h i (by omega)]
        · have : skip q j = skip (q + 1) j := by unfold skip; split <;> split <;> omega
          rw [this]
      rw [e, h m (by omega), sgn_succ, Int.neg_mul, Int.neg_mul]
      omega
    · intro k hk h1 h2
      have : D m (fun i j => M i (skip k j)) = 0 := by
        by_cases e : k < q
        · refine D_adj (q := q - 1) (by omega) fun i hi => ?_
          have e1 : skip k (q - 1) = q := by unfold skip; rw [if_neg (by omega)]; omega
          have e2 : skip k (q - 1 + 1) = q + 1 := by unfold skip; rw [if_neg (by omega)]; omega
          rw [e1, e2, h i (by omega)]
        · refine D_adj (q := q) (by omega) fun i hi => ?_
          have e1 : skip k q = q := by unfold skip; rw [if_pos (by omega)]
          have e2 : skip k (q + 1) = q + 1 := by unfold skip; rw [if_pos (by omega)]
          rw [e1, e2, h i (by omega)]
      rw [this, Int.mul_zero]
theorem D_set_id (M : Nat → Nat → Int) (q m : Nat) : D m (setC M q fun i => M i q) = D m M := D_congr fun i j _ _ => by
  unfold setC
  split
  · rename_i h; rw [h]
  · rfl
theorem D_lin1 {m q : Nat} {M : Nat → Nat → Int} (u v : Nat → Int) (hq : q < m) : D m (setC M q fun i => u i + v i) = D m (setC M q u) + D m (setC M q v) := by
  have := D_lin (M := M) 1 1 u v hq
  simpa using this
/-- Columns in another order. -/
def swp (p q j : Nat) : Nat := if j = p then q else if j = q then p else j
theorem D_swap_adj {m q : Nat} {M : Nat → Nat → Int} (hq : q + 1 < m) : D m (fun i j => M i (swp q (q + 1) j)) = - D m M := by
  have z : ∀ w : Nat → Int, D m (setC (setC M q w) (q + 1) w) = 0 := fun w => D_adj hq fun i _ => by
    rw [setC_ne _ _ _ (by omega), setC_same, setC_same]
  have h := z fun i => M i q + M i (q + 1)
  rw [D_lin1 _ _ hq] at h
  have com : ∀ (u v : Nat → Int), D m (setC (setC M q u) (q + 1) v) = D m (setC (setC M (q + 1) v) q u) := fun u v => D_congr fun i j _ _ => by
    unfold setC
    by_cases e : j = q
    · subst e
      rw [if_neg (by omega), if_pos rfl, if_pos rfl]
    · by_cases e2 : j = q + 1
      · simp [e2]
      · simp [e, e2]
  rw [com, com, D_lin1 _ _ (by omega), D_lin1 _ _ (by omega), ← com, ← com, ← com, ← com, z, z] at h
  have e1 : D m (setC (setC M q fun i => M i q) (q + 1) fun i => M i (q + 1)) = D m M := D_congr fun i j _ _ => by
    unfold setC
    by_cases e : j = q + 1
    · subst e; rw [if_pos rfl]
    · rw [if_neg e]
      by_cases e2 : j = q
      · subst e2; rw [if_pos rfl]
      · rw [if_neg e2]
  have e2 : D m (setC (setC M q fun i => M i (q + 1)) (q + 1) fun i => M i q) = D m fun i j => M i (swp q (q + 1) j) := D_congr fun i j _ _ => by
    unfold setC swp
    by_cases e : j = q + 1
    · subst e; rw [if_pos rfl, if_neg (by omega), if_pos rfl]
    · rw [if_neg e]
      by_cases e2 : j = q
      · subst e2; rw [if_pos rfl, if_pos rfl]
      · rw [if_neg e2, if_neg e2, if_neg e]
  rw [e1, e2] at h
  omega
/-- No two columns are alike. -/
theorem D_two {m : Nat} : ∀ {d p : Nat} {M : Nat → Nat → Int}, p + d + 1 < m → (∀ i, i < m → M i p = M i (p + d + 1)) → D m M = 0
  | 0, p, M, hq, h => D_adj hq h
  | d + 1, p, M, hq, h => by
    have hs := D_swap_adj (M := M) (q := p + d + 1) (m := m) (by omega)
    rw [D_two (d := d) (p := p) (by omega) fun i hi => ?_] at hs
    · omega
    · have e1 : swp (p + d + 1) (p + d + 1 + 1) p = p := by unfold swp; rw [if_neg (by omega), if_neg (by omega)]
      have e2 : swp (p + d + 1) (p + d + 1 + 1) (p + d + 1) = p + d + 1 + 1 := by unfold swp; rw [if_pos rfl]
      rw [e1, e2]
      exact h i hi
theorem D_alt {m p q : Nat} {M : Nat → Nat → Int} (hp : p < m) (hq : q < m) (hpq : p ≠ q) (h : ∀ i, i < m → M i p = M i q) : D m M = 0 := by
  rcases Nat.lt_or_ge p q with hlt | hge
  · exact D_two (d := q - p - 1) (p := p) (by omega) fun i hi => by rw [show p + (q - p - 1) + 1 = q by omega]; exact h i hi
  · exact D_two (d := p - q - 1) (p := q) (by omega) fun i hi => by rw [show q + (p - q - 1) + 1 = p by omega]; exact (h i hi).symm
theorem D_swap {m p q : Nat} {M : Nat → Nat → Int} (hp : p < m) (hq : q < m) (hpq : p ≠ q) (u v : Nat → Int) : D m (setC (setC M p u) q v) = - D m (setC (setC M p v) q u) := by
  have z : ∀ w : Nat → Int, D m (setC (setC M p w) q w) = 0 := fun w => D_alt hp hq hpq fun i _ => by
    rw [setC_ne _ _ _ hpq, setC_same, setC_same]
  have h := z fun i => u i + v i
  rw [D_lin1 _ _ hq] at h
  have com : ∀ (u v : Nat → Int), D m (setC (setC M p u) q v) = D m (setC (setC M q v) p u) := fun u v => D_congr fun i j _ _ => by
    unfold setC
    by_cases e : j = p
    · subst e
      rw [if_neg hpq, if_pos rfl, if_pos rfl]
    · by_cases e2 : j = q
      · rw [if_pos e2, if_neg e, if_pos e2]
      · rw [if_neg e2, if_neg e, if_neg e, if_neg e2]
  rw [com, com, D_lin1 _ _ hp, D_lin1 _ _ hp, ← com, ← com, ← com, ← com, z, z] at h
  omega
/-- A column that is a sum. -/
theorem D_sum {m q : Nat} {M : Nat → Nat → Int} (hq : q < m) (l : Nat → Int) (u : Nat → Nat → Int) : ∀ n, D m (setC M q fun i => sm n fun k => l k * u k i) = sm n fun k => l k * D m (setC M q (u k))
  | 0 => by
    have := D_lin (M := M) 0 0 (fun _ => 0) (fun _ => 0) hq
    simpa [sm] using this
  | n + 1 => by
    have h1 := D_lin (M := M) 1 (l n) (fun i => sm n fun k => l k * u k i) (u n) hq
    simp only [Int.one_mul] at h1
    rw [D_sum hq l u n] at h1
    exact h1
/-- A bound: the product of bounds of the rows' sums. -/
def prd : Nat → (Nat → Nat) → Nat
  | 0, _ => 1
  | n + 1, f => prd n f * f n
theorem sm_skip {f : Nat → Int} (hf : ∀ k, 0 ≤ f k) {q : Nat} : ∀ {m : Nat}, q < m + 1 → sm m (fun k => f (skip q k)) + f q = sm (m + 1) f
  | 0, h => by
    obtain rfl : q = 0 := by omega
    simp [sm]
  | m + 1, h => by
    rw [sm]
    by_cases e : q = m + 1
    · subst e
      have : sm m (fun k => f (skip (m + 1) k)) = sm m f := sm_congr fun k hk => by unfold skip; rw [if_pos (by omega)]
      rw [this, show skip (m + 1) m = m by unfold skip; rw [if_pos (by omega)]]
      simp only [sm]
    · have ih := sm_skip hf (q := q) (m := m) (by omega)
      rw [show skip q m = m + 1 by unfold skip; rw [if_neg (by omega)]]
      have : sm (m + 1 + 1) f = sm (m + 1) f + f (m + 1) := rfl
      rw [this]
      omega
theorem D_le : ∀ {m : Nat} {M : Nat → Nat → Int} {R : Nat → Nat}, (∀ i, i < m → sm m (fun k => ((M i k).natAbs : Int)) ≤ R i) → (D m M).natAbs ≤ prd m R
  | 0, _, _, _ => by simp [D, prd]
  | m + 1, M, R, h => by
    rw [D, prd]
    have h1 := sm_abs (fun k => sgn k * M m k * D m fun i j => M i (skip k j)) (m + 1)
    have h2 : (sm (m + 1) fun k => ((sgn k * M m k * D m fun i j => M i (skip k j)).natAbs : Int)) ≤ sm (m + 1) fun k => ((M m k).natAbs : Int) * (prd m R : Int) := by
      refine sm_le fun k hk => ?_
      have ih := D_le (M := fun i j => M i (skip k j)) (R := R) (m := m) fun i hi => by
        have := h i (by omega)
        have e := sm_skip (f := fun k => ((M i k).natAbs : Int)) (fun k => by omega) hk
        omega
      rw [Int.natAbs_mul, Int.natAbs_mul]
      have e : (sgn k).natAbs = 1 := by unfold sgn; split <;> rfl
      rw [e, Nat.one_mul]
      exact_mod_cast Nat.mul_le_mul_left _ ih
    rw [sm_mul'] at h2
    have h3 := h m (by omega)
    have h4 : sm (m + 1) (fun k => ((M m k).natAbs : Int)) * (prd m R : Int) ≤ (R m : Int) * (prd m R : Int) := Int.mul_le_mul_of_nonneg_right h3 (by omega)
    have h5 : (R m : Int) * (prd m R : Int) = ((prd m R * R m : Nat) : Int) := by rw [Int.mul_comm]; exact_mod_cast rfl
    omega
/-- The unit columns. -/
theorem D_unit : ∀ {m : Nat} {M : Nat → Nat → Int}, (∀ i j, i < m → j < m → M i j = if i = j then 1 else 0) → (D m M).natAbs = 1
  | 0, _, _ => rfl
  | m + 1, M, h => by
    rw [D, sm_one (q := m) (by omega)]
    · rw [h m m (by omega) (by omega), if_pos rfl, Int.mul_one, Int.natAbs_mul]
      have ih := D_unit (m := m) (M := fun i j => M i (skip m j)) fun i j hi hj => by
        have : skip m j = j := by unfold skip; rw [if_pos hj]
        rw [this, h i j (by omega) (by omega)]
      rw [ih]
      unfold sgn
      split <;> rfl
    · intro k hk hkm
      rw [h m k (by omega) hk, if_neg (by omega), Int.mul_zero, Int.zero_mul]
end Go.Proofs.YtdeaaonppokgkaaGreat.Lp
namespace Go.Proofs.YtdeaaonppokgkaaGreat.Lp
def up {α : Type} (f : Nat → α) (j : Nat) (x : α) (k : Nat) : α := if k = j then x else f k
theorem up_same {α : Type} (f : Nat → α) (j : Nat) (x : α) : up f j x j = x := by simp [up]
theorem up_ne {α : Type} (f : Nat → α) {j k : Nat} (x : α) (h : k ≠ j) : up f j x k = f k := by simp [up, h]
theorem sm_up {f : Nat → Int} {r : Nat} {x : Int} : ∀ {n : Nat}, r < n → sm n (up f r x) = sm n f - f r + x
  | n + 1, h => by
    rw [sm, sm]
    by_cases e : r = n
    · subst e
      have e : sm r (up f r x) = sm r f := sm_congr fun k hk => up_ne f x (by omega)
      rw [up_same, e]
      omega
    · rw [sm_up (n := n) (by omega), up_ne f x (fun h => e h.symm)]
      omega
/-- The form of the columns that a list of columns names. -/
def phi (A : Nat → Nat → Int) (m : Nat) (b : Nat → Nat) : Int := D m fun t k => A t (b k)
structure Tabl where
  T : Nat → Nat → Int
  b : Nat → Nat
  d : Int
structure Tab (A : Nat → Nat → Int) (m N : Nat) (s : Tabl) (g : Int) : Prop where
  pos : 0 < s.d
  unit : g = 1 ∨ g = -1
  bas : ∀ k, k < m → s.b k < N
  rel : ∀ j t, j < N → t < m → s.d * A t j = sm m fun k => s.T k j * A t (s.b k)
  den : s.d = g * phi A m s.b
  cell : ∀ i j, i < m → j < N → s.T i j = g * phi A m (up s.b i j)
section
variable {A : Nat → Nat → Int} {m N : Nat} {s : Tabl} {g : Int}
theorem phi_set (A : Nat → Nat → Int) (m : Nat) (b : Nat → Nat) (i j : Nat) : phi A m (up b i j) = D m (setC (fun t k => A t (b k)) i fun t => A t j) := D_congr fun t k _ _ => by
  unfold up setC
  split <;> rfl
theorem phi_self (A : Nat → Nat → Int) (m : Nat) (b : Nat → Nat) (i : Nat) : phi A m (up b i (b i)) = phi A m b := D_congr fun t k _ _ => by
  by_cases e : k = i
  · subst e; rw [up_same]
  · rw [up_ne _ _ e]
theorem phi_twice {b : Nat → Nat} {i k : Nat} (hi : i < m) (hk : k < m) (h : k ≠ i) : phi A m (up b i (b k)) = 0 :=
  D_alt hi hk (fun e => h e.symm) fun t _ => by rw [up_same, up_ne _ _ h]
theorem Tab.on (h : Tab A m N s g) {i : Nat} (hi : i < m) : s.T i (s.b i) = s.d := by
  rw [h.cell i _ hi (h.bas i hi), phi_self, h.den]
theorem Tab.off (h : Tab A m N s g) {i k : Nat} (hi : i < m) (hk : k < m) (hik : k ≠ i) : s.T i (s.b k) = 0 := by
  rw [h.cell i _ hi (h.bas k hk), phi_twice hi hk hik, Int.mul_zero]
theorem Tab.inj (h : Tab A m N s g) {i k : Nat} (hi : i < m) (hk : k < m) (e : s.b i = s.b k) : i = k := by
  rcases Nat.lt_trichotomy i k with h1 | h1 | h1
  · have := h.off hi hk (by omega : k ≠ i)
    rw [← e, h.on hi] at this
    have := h.pos; omega
  · exact h1
  · have := h.off hi hk (by omega : k ≠ i)
    rw [← e, h.on hi] at this
    have := h.pos; omega
theorem Tab.sq (h : Tab A m N s g) : g * g = 1 := by rcases h.unit with e | e <;> rw [e] <;> rfl
/-- **A step divides without a rest.** -/
theorem Tab.exact (h : Tab A m N s g) {r c : Nat} (hr : r < m) (hc : c < N) {i j : Nat} (hi : i < m) (hj : j < N) (hir : i ≠ r) :
    s.d * (g * phi A m (up (up s.b r c) i j)) = s.T i j * s.T r c - s.T i c * s.T r j := by
  have hd : s.d * phi A m (up (up s.b r c) i j) = sm m fun k => s.T k j * phi A m (up (up s.b r c) i (s.b k)) := by
    rw [phi_set]
    have e1 : ∀ k, phi A m (up (up s.b r c) i (s.b k)) = D m (setC (fun t q => A t (up s.b r c q)) i fun t => A t (s.b k)) := fun k => phi_set _ _ _ _ _
    have e2 : (fun k => s.T k j * phi A m (up (up s.b r c) i (s.b k))) = fun k => s.T k j * D m (setC (fun t q => A t (up s.b r c q)) i fun t => A t (s.b k)) := funext fun k => by rw [e1]
    rw [e2, ← D_sum hi (fun k => s.T k j) (fun k t => A t (s.b k)) m]
    have e3 := D_lin (M := fun t q => A t (up s.b r c q)) s.d 0 (fun t => A t j) (fun _ => 0) hi
    simp only [Int.zero_mul, Int.add_zero] at e3
    rw [← e3]
    refine D_congr fun t q ht _ => ?_
    unfold setC
    split
    · exact h.rel j t hj ht
    · rfl
  rw [sm_two (p := i) (q := r) hir hi hr] at hd
  · have z1 : phi A m (up (up s.b r c) i (s.b i)) = phi A m (up s.b r c) := D_congr fun t k _ _ => by
      by_cases e : k = i
      · subst e; rw [up_same, up_ne _ _ hir]
      · rw [up_ne _ _ e]
    have z2 : phi A m (up (up s.b r c) i (s.b r)) = - phi A m (up s.b i c) := by
      have sw := D_swap (M := fun t k => A t (s.b k)) hr hi (fun e => hir e.symm) (fun t => A t c) fun t => A t (s.b r)
      have q1 : phi A m (up (up s.b r c) i (s.b r)) = D m (setC (setC (fun t k => A t (s.b k)) r fun t => A t c) i fun t => A t (s.b r)) := D_congr fun t k _ _ => by
        unfold up setC
        split
        · rfl
        · split <;> rfl
      have q2 : phi A m (up s.b i c) = D m (setC (setC (fun t k => A t (s.b k)) r fun t => A t (s.b r)) i fun t => A t c) := D_congr fun t k _ _ => by
        unfold up setC
        split
        · rfl
        · split
          · rename_i e; rw [e]
          · rfl
      rw [q1, q2, sw]
    rw [z1, z2] at hd
    have c1 := h.cell i j hi hj
    have c2 := h.cell r c hr hc
    have c3 := h.cell i c hi hc
    have c4 := h.cell r j hr hj
    have sq := h.sq
    have k1 : phi A m (up s.b r c) = g * s.T r c := by rw [c2, ← Int.mul_assoc, sq, Int.one_mul]
    have k2 : phi A m (up s.b i c) = g * s.T i c := by rw [c3, ← Int.mul_assoc, sq, Int.one_mul]
    rw [k1, k2] at hd
    rw [Int.mul_left_comm, hd]
    grind
  · intro k hk hki hkr
    have : phi A m (up (up s.b r c) i (s.b k)) = 0 := D_alt hi hk (fun e => hki e.symm) fun t _ => by
      rw [up_same, up_ne _ _ hki, up_ne _ _ hkr]
    rw [this, Int.mul_zero]
/-- The table after a step. -/
structure Step (s s' : Tabl) (m N r c : Nat) (z : Int) : Prop where
  sign : z = 1 ∨ z = -1
  d : s'.d = z * s.T r c
  b : ∀ k, k < m → s'.b k = up s.b r c k
  row : ∀ j, j < N → s'.T r j = z * s.T r j
  rest : ∀ i j, i < m → i ≠ r → j < N → s.d * s'.T i j = z * (s.T i j * s.T r c - s.T i c * s.T r j)
theorem Tab.step (h : Tab A m N s g) {s' : Tabl} {r c : Nat} {z : Int} (hr : r < m) (hc : c < N) (hs : Step s s' m N r c z) (hpos : 0 < s'.d) : Tab A m N s' (g * z) := by
  have hd := h.pos
  have hph : ∀ (b b' : Nat → Nat), (∀ k, k < m → b k = b' k) → phi A m b = phi A m b' := fun b b' e => D_congr fun t k _ hk => by rw [e k hk]
  have hcell : ∀ i j, i < m → j < N → s'.T i j = g * z * phi A m (up s'.b i j) := fun i j hi hj => by
    by_cases e : i = r
    · subst e
      rw [hs.row j hj, h.cell i j hi hj, hph (up s'.b i j) (up s.b i j) fun k hk => ?_]
      · grind
      · by_cases ek : k = i
        · subst ek; rw [up_same, up_same]
        · rw [up_ne _ _ ek, up_ne _ _ ek, hs.b k hk, up_ne _ _ ek]
    · have e1 := hs.rest i j hi e hj
      have e2 := h.exact hr hc hi hj e
      rw [← e2] at e1
      have e3 : phi A m (up s'.b i j) = phi A m (up (up s.b r c) i j) := hph _ _ fun k hk => by
        by_cases ek : k = i
        · subst ek; rw [up_same, up_same]
        · rw [up_ne _ _ ek, up_ne _ _ ek, hs.b k hk]
      rw [e3]
      have : s.d * s'.T i j = s.d * (g * z * phi A m (up (up s.b r c) i j)) := by rw [e1]; grind
      exact Int.eq_of_mul_eq_mul_left (by omega) this
  refine ⟨hpos, ?_, fun k hk => ?_, fun j t hj ht => ?_, ?_, hcell⟩
  · rcases h.unit with e | e <;> rcases hs.sign with e' | e' <;> rw [e, e'] <;> simp
  · rw [hs.b k hk]
    unfold up
    split
    · exact hc
    · exact h.bas k hk
  · -- d' A_j = sum
    have r1 := h.rel j t hj ht
    have r2 := h.rel c t hc ht
    have key : s.d * (s.T r c * A t j) = s.d * (z * sm m fun k => s'.T k j * A t (s'.b k)) := by
      have e0 : sm m (fun k => s'.T k j * A t (s'.b k)) = sm m (up (fun k => s'.T k j * A t (s.b k)) r (s'.T r j * A t c)) := sm_congr fun k hk => by
        by_cases ek : k = r
        · subst ek; rw [up_same, hs.b k hk, up_same]
        · rw [up_ne _ _ ek, hs.b k hk, up_ne _ _ ek]
      rw [e0, sm_up hr]
      have zz : z * z = 1 := by rcases hs.sign with e' | e' <;> rw [e'] <;> rfl
      have e3 : s.d * (sm m fun k => s'.T k j * A t (s.b k)) = z * (s.T r c * (s.d * A t j)) - z * (s.T r j * (s.d * A t c)) + s.d * (s'.T r j * A t (s.b r)) := by
        rw [r1, r2, ← sm_mul, ← sm_mul, ← sm_mul, ← sm_mul, ← sm_mul, ← sm_sub]
        have : (sm m fun k => s.d * (s'.T k j * A t (s.b k))) = sm m (up (fun k => z * (s.T r c * (s.T k j * A t (s.b k))) - z * (s.T r j * (s.T k c * A t (s.b k)))) r (s.d * (s'.T r j * A t (s.b r)))) := sm_congr fun k hk => by
          by_cases ek : k = r
          · subst ek; rw [up_same]
          · rw [up_ne _ _ ek, ← Int.mul_assoc, hs.rest k j hk ek hj]
            grind
        rw [this, sm_up hr]
        grind
      have e4 := hs.row j hj
      grind
    have := Int.eq_of_mul_eq_mul_left (by omega) key
    rw [hs.d, Int.mul_assoc, this, ← Int.mul_assoc]
    have zz : z * z = 1 := by rcases hs.sign with e' | e' <;> rw [e'] <;> rfl
    rw [zz, Int.one_mul]
  · have := hcell r c hr hc
    rw [hs.row c hc, ← hs.d] at this
    rw [this, hph (up s'.b r c) s'.b fun k hk => ?_]
    by_cases ek : k = r
    · subst ek; rw [up_same, hs.b k hk, up_same]
    · rw [up_ne _ _ ek]
end
end Go.Proofs.YtdeaaonppokgkaaGreat.Lp
namespace Go.Proofs.YtdeaaonppokgkaaGreat.Lp
section
variable {A : Nat → Nat → Int} {m R F : Nat} {c : Nat → Int}
/-- Reduced costs, times the denominator. -/
def rc (m : Nat) (c : Nat → Int) (s : Tabl) (j : Nat) : Int := c j * s.d - sm m fun k => c (s.b k) * s.T k j
theorem rc_basic {N : Nat} {s : Tabl} {g : Int} (h : Tab A m N s g) {i : Nat} (hi : i < m) : rc m c s (s.b i) = 0 := by
  unfold rc
  rw [sm_one (q := i) hi fun k hk hki => by rw [h.off hk hi (fun e => hki e.symm), Int.mul_zero], h.on hi]
  omega
theorem rc_step {N : Nat} {s s' : Tabl} {r e : Nat} (hr : r < m) (hs : Step s s' m N r e 1) {j : Nat} (hj : j < N) : s.d * rc m c s' j = rc m c s j * s.T r e - rc m c s e * s.T r j := by
  unfold rc
  have e0 : sm m (fun k => s.d * (c (s'.b k) * s'.T k j)) = sm m (up (fun k => s.T r e * (c (s.b k) * s.T k j) - s.T r j * (c (s.b k) * s.T k e)) r (c e * (s.d * s.T r j))) := sm_congr fun k hk => by
    by_cases ek : k = r
    · subst ek
      rw [up_same, hs.b k hk, up_same, hs.row j hj]
      grind
    · have := hs.rest k j hk ek hj
      rw [up_ne _ _ ek, hs.b k hk, up_ne _ _ ek]
      grind
  have hd := hs.d
  rw [Int.mul_sub, ← sm_mul, e0, sm_up hr, sm_sub, sm_mul, sm_mul, hd]
  grind
structure BStep (m R F : Nat) (c : Nat → Int) (s s' : Tabl) (e r : Nat) : Prop where
  lt : e < F
  neg : rc m c s e < 0
  first : ∀ j, j < e → 0 ≤ rc m c s j
  row : r < m
  pos : 0 < s.T r e
  min : ∀ i, i < m → 0 < s.T i e → i = r ∨ s.T r R * s.T i e < s.T i R * s.T r e ∨ (s.T r R * s.T i e = s.T i R * s.T r e ∧ s.b r < s.b i)
  step : Step s s' m (R + 1) r e 1
/-- A table with right-hand sides that are not negative. -/
structure Feas (A : Nat → Nat → Int) (m R : Nat) (s : Tabl) : Prop where
  tab : ∃ g, Tab A m (R + 1) s g
  bas : ∀ k, k < m → s.b k < R
  right : ∀ k, k < m → 0 ≤ s.T k R
theorem Feas.next {s s' : Tabl} {e r : Nat} (h : Feas A m R s) (hF : F ≤ R) (hb : BStep m R F c s s' e r) : Feas A m R s' := by
  obtain ⟨g, ht⟩ := h.tab
  have hd := ht.pos
  have hlt := hb.lt
  have hpos : 0 < s'.d := by rw [hb.step.d, Int.one_mul]; exact hb.pos
  refine ⟨⟨_, ht.step hb.row (by omega) hb.step hpos⟩, fun k hk => ?_, fun k hk => ?_⟩
  · rw [hb.step.b k hk]
    unfold up
    split
    · omega
    · exact h.bas k hk
  · by_cases ek : k = r
    · subst ek
      rw [hb.step.row R (by omega), Int.one_mul]
      exact h.right k hk
    · have := hb.step.rest k R hk ek (by omega)
      have h1 : 0 ≤ s.T k R * s.T r e - s.T k e * s.T r R := by
        have hr0 := h.right r hb.row
        have hk0 := h.right k hk
        have hp := hb.pos
        rcases Int.lt_or_le 0 (s.T k e) with h2 | h2
        · rcases hb.min k hk h2 with q | q | q
          · exact absurd q ek
          · rw [Int.mul_comm (s.T k e)]; omega
          · rw [Int.mul_comm (s.T k e)]; omega
        · have a1 := Int.mul_nonneg hk0 (Int.le_of_lt hp)
          have a2 := Int.mul_nonneg (a := - s.T k e) (b := s.T r R) (by omega) hr0
          rw [Int.neg_mul] at a2
          omega
      rw [Int.one_mul] at this
      rw [← this] at h1
      rcases Int.lt_or_le (s'.T k R) 0 with h3 | h3
      · have := Int.mul_pos hd (show 0 < - s'.T k R by omega)
        rw [Int.mul_neg] at this
        omega
      · exact h3
/-- A run of steps that comes back to where it began. -/
structure Cycle (A : Nat → Nat → Int) (m R F : Nat) (c : Nat → Int) (s : Nat → Tabl) (e r : Nat → Nat) (L : Nat) : Prop where
  pos : 0 < L
  le : F ≤ R
  cR : c R = 0
  feas : ∀ n, n ≤ L → Feas A m R (s n)
  step : ∀ n, n < L → BStep m R F c (s n) (s (n + 1)) (e n) (r n)
  bas : ∀ k, k < m → (s L).b k = (s 0).b k
variable {s : Nat → Tabl} {e r : Nat → Nat} {L : Nat}
theorem Tab.same {N : Nat} {s s' : Tabl} {g g' : Int} (h : Tab A m N s g) (h' : Tab A m N s' g') (hb : ∀ k, k < m → s'.b k = s.b k) : s'.d = s.d ∧ ∀ i j, i < m → j < N → s'.T i j = s.T i j := by
  have e1 : phi A m s'.b = phi A m s.b := D_congr fun t k _ hk => by rw [hb k hk]
  have h1 := h.den
  have h2 := h'.den
  rw [e1] at h2
  have p1 := h.pos
  have p2 := h'.pos
  have eg : g' = g := by
    rcases h.unit with q | q <;> rcases h'.unit with q' | q' <;> rw [q, q'] <;> rw [q] at h1 <;> rw [q'] at h2 <;> omega
  refine ⟨by rw [h1, h2, eg], fun i j hi hj => ?_⟩
  rw [h.cell i j hi hj, h'.cell i j hi hj, eg]
  congr 1
  exact D_congr fun t k _ hk => by
    by_cases ek : k = i
    · subst ek; rw [up_same, up_same]
    · rw [up_ne _ _ ek, up_ne _ _ ek, hb k hk]
def basic (m : Nat) (s : Tabl) (j : Nat) : Prop := ∃ k, k < m ∧ s.b k = j
theorem Cycle.tab (h : Cycle A m R F c s e r L) {n : Nat} (hn : n ≤ L) : ∃ g, Tab A m (R + 1) (s n) g := (h.feas n hn).tab
/-- All steps are degenerate. -/
theorem Cycle.flat (h : Cycle A m R F c s e r L) {n : Nat} (hn : n < L) : (s n).T (r n) R = 0 := by
  have up1 : ∀ n, n < L → rc m c (s n) R * (s (n + 1)).d ≤ rc m c (s (n + 1)) R * (s n).d ∧ (rc m c (s n) R * (s (n + 1)).d = rc m c (s (n + 1)) R * (s n).d → (s n).T (r n) R = 0) := fun n hn => by
    have hb := h.step n hn
    have h1 := rc_step (c := c) hb.row hb.step (j := R) (by omega)
    have h2 := hb.step.d
    rw [Int.one_mul] at h2
    rw [Int.mul_comm _ (s n).d, h1, h2]
    have h3 := (h.feas n (by omega)).right _ hb.row
    have h4 := Int.mul_nonneg (a := - rc m c (s n) (e n)) (b := (s n).T (r n) R) (by have := hb.neg; omega) h3
    rw [Int.neg_mul] at h4
    refine ⟨by omega, fun h5 => ?_⟩
    have h6 : rc m c (s n) (e n) * (s n).T (r n) R = 0 := by omega
    rcases Int.mul_eq_zero.1 h6 with q | q
    · have := hb.neg; omega
    · exact q
  have dpos : ∀ n, n ≤ L → 0 < (s n).d := fun n hn => (h.tab hn).elim fun _ t => t.pos
  have chain : ∀ k a, a + k ≤ L → rc m c (s a) R * (s (a + k)).d ≤ rc m c (s (a + k)) R * (s a).d := fun k => by
    induction k with
    | zero => intro a _; exact Int.le_refl _
    | succ k ih =>
      intro a hk
      have h1 := ih a (by omega)
      have h2 := (up1 (a + k) (by omega)).1
      have d1 := dpos (a + k) (by omega)
      have d2 := dpos (a + k + 1) (by omega)
      have d3 := dpos a (by omega)
      rw [show a + (k + 1) = a + k + 1 by omega]
      have q1 := Int.mul_le_mul_of_nonneg_right h1 (Int.le_of_lt d2)
      have q2 := Int.mul_le_mul_of_nonneg_right h2 (Int.le_of_lt d3)
      have q3 : (s (a + k)).d * (rc m c (s a) R * (s (a + k + 1)).d) ≤ (s (a + k)).d * (rc m c (s (a + k + 1)) R * (s a).d) := by grind
      exact Int.le_of_mul_le_mul_left q3 d1
  refine (up1 n hn).2 (Int.le_antisymm (up1 n hn).1 ?_)
  obtain ⟨g0, t0⟩ := h.tab (Nat.zero_le L)
  obtain ⟨gL, tL⟩ := h.tab (Nat.le_refl L)
  obtain ⟨sd, sT⟩ := t0.same tL h.bas
  have hz : rc m c (s L) R = rc m c (s 0) R := by
    unfold rc
    rw [sd]
    congr 1
    exact sm_congr fun k hk => by rw [h.bas k hk, sT k R hk (by omega)]
  have c1 := chain n 0 (by omega)
  have c2 := chain (L - (n + 1)) (n + 1) (by omega)
  rw [Nat.zero_add] at c1
  rw [show n + 1 + (L - (n + 1)) = L by omega, hz, sd] at c2
  have d1 := dpos n (by omega)
  have d2 := dpos (n + 1) (by omega)
  have d3 := dpos 0 (by omega)
  -- rc(n+1) d0 <= rc0 d(n+1); rc0 dn <= rcn d0
  have q1 := Int.mul_le_mul_of_nonneg_right c1 (Int.le_of_lt d2)
  have q2 := Int.mul_le_mul_of_nonneg_right c2 (Int.le_of_lt d1)
  have q3 : (s 0).d * (rc m c (s (n + 1)) R * (s n).d) ≤ (s 0).d * (rc m c (s n) R * (s (n + 1)).d) := by grind
  exact Int.le_of_mul_le_mul_left q3 d3
/-- A property that each step keeps holds all the way round. -/
theorem Cycle.round (h : Cycle A m R F c s e r L) (P : Nat → Prop) (hs : ∀ n, n < L → P n → P (n + 1)) (hw : P L → P 0) {q : Nat} (hq : q ≤ L) (hP : P q) : ∀ n, n ≤ L → P n := by
  have fwd : ∀ k a, a + k ≤ L → P a → P (a + k) := fun k => by
    induction k with
    | zero => intro a _ hp; exact hp
    | succ k ih => intro a hk hp; exact hs (a + k) (by omega) (ih a (by omega) hp)
  have hL : P L := by
    have := fwd (L - q) q (by omega) hP
    rwa [show q + (L - q) = L by omega] at this
  intro n hn
  have := fwd n 0 (by omega) (hw hL)
  rwa [Nat.zero_add] at this
theorem Cycle.basic_wrap (h : Cycle A m R F c s e r L) (j : Nat) : basic m (s L) j ↔ basic m (s 0) j := by
  constructor
  · rintro ⟨k, hk, e⟩; exact ⟨k, hk, by rw [← h.bas k hk]; exact e⟩
  · rintro ⟨k, hk, e⟩; exact ⟨k, hk, by rw [h.bas k hk]; exact e⟩
theorem BStep.basic_iff {s s' : Tabl} {e r : Nat} (h : BStep m R F c s s' e r) (j : Nat) : basic m s' j ↔ j = e ∨ ∃ k, k < m ∧ k ≠ r ∧ s.b k = j := by
  constructor
  · rintro ⟨k, hk, hj⟩
    rw [h.step.b k hk] at hj
    by_cases ek : k = r
    · subst ek; rw [up_same] at hj; exact .inl hj.symm
    · rw [up_ne _ _ ek] at hj; exact .inr ⟨k, hk, ek, hj⟩
  · rintro (rfl | ⟨k, hk, ek, hj⟩)
    · exact ⟨r, h.row, by rw [h.step.b r h.row, up_same]⟩
    · exact ⟨k, hk, by rw [h.step.b k hk, up_ne _ _ ek]; exact hj⟩
/-- What is in the basis at one time, and not at another one, enters. -/
theorem Cycle.fickle (h : Cycle A m R F c s e r L) {j p q : Nat} (hp : p ≤ L) (hq : q ≤ L) (bp : basic m (s p) j) (bq : ¬ basic m (s q) j) : ∃ n, n < L ∧ e n = j := by
  refine Classical.byContradiction fun hno => ?_
  have := h.round (fun n => ¬ basic m (s n) j) (fun n hn hb hb2 => ?_) (fun hb => by rwa [h.basic_wrap j] at hb) hq bq p hp
  · exact this bp
  · rcases ((h.step n hn).basic_iff j).1 hb2 with e1 | ⟨k, hk, _, e1⟩
    · exact hno ⟨n, hn, e1.symm⟩
    · exact hb ⟨k, hk, e1⟩
theorem Cycle.enters (h : Cycle A m R F c s e r L) {n : Nat} (hn : n < L) : ¬ basic m (s n) (e n) ∧ basic m (s (n + 1)) (e n) := by
  refine ⟨fun ⟨k, hk, hb⟩ => ?_, ((h.step n hn).basic_iff _).2 (.inl rfl)⟩
  obtain ⟨g, t⟩ := h.tab (Nat.le_of_lt hn)
  have := rc_basic (c := c) t hk
  rw [hb] at this
  have := (h.step n hn).neg
  omega
theorem Cycle.leaves (h : Cycle A m R F c s e r L) {n : Nat} (hn : n < L) : ∃ p, p < L ∧ (s p).b (r p) = e n := by
  refine Classical.byContradiction fun hno => ?_
  obtain ⟨h1, h2⟩ := h.enters hn
  have := h.round (fun p => basic m (s p) (e n)) (fun p hp ⟨k, hk, hb⟩ => ?_) (h.basic_wrap _).1 (by omega : n + 1 ≤ L) h2 n (by omega)
  · exact h1 this
  · refine ((h.step p hp).basic_iff _).2 (.inr ⟨k, hk, fun ek => ?_, hb⟩)
    subst ek
    exact hno ⟨p, hp, hb⟩
/-- Where a variable that is not always in the basis is in it, it is 0. -/
theorem Cycle.zero (h : Cycle A m R F c s e r L) {n p : Nat} (hn : n < L) (hp : p ≤ L) {i : Nat} (hi : i < m) (hb : (s p).b i = e n) : (s p).T i R = 0 := by
  have := h.round (fun p => ∀ i, i < m → (s p).b i = e n → (s p).T i R = 0) (fun q hq hz i hi hbi => ?_) (fun hz i hi hbi => ?_) (Nat.le_of_lt hn) (fun i hi hbi => absurd ⟨i, hi, hbi⟩ (h.enters hn).1) p hp
  · exact this i hi hb
  · have hst := h.step q hq
    have fl := h.flat hq
    by_cases ei : i = r q
    · subst ei
      rw [hst.step.row R (by omega), fl, Int.mul_zero]
    · rw [hst.step.b i hi, up_ne _ _ ei] at hbi
      have h1 := hst.step.rest i R hi ei (by omega)
      rw [hz i hi hbi, fl] at h1
      obtain ⟨g, t⟩ := h.tab (Nat.le_of_lt hq)
      have := t.pos
      simp only [Int.zero_mul, Int.mul_zero, Int.sub_zero] at h1
      rcases Int.mul_eq_zero.1 h1 with q1 | q1
      · omega
      · exact q1
  · obtain ⟨g0, t0⟩ := h.tab (Nat.zero_le L)
    obtain ⟨gL, tL⟩ := h.tab (Nat.le_refl L)
    obtain ⟨_, sT⟩ := t0.same tL h.bas
    rw [← sT i R hi (by omega)]
    exact hz i hi (by rw [h.bas i hi]; exact hbi)
/-- The greatest of some numbers. -/
theorem greatest (f : Nat → Nat) : ∀ L, 0 < L → ∃ n, n < L ∧ ∀ k, k < L → f k ≤ f n
  | 1, _ => ⟨0, Nat.zero_lt_one, fun k hk => by rw [Nat.lt_one_iff.1 hk]; exact Nat.le_refl _⟩
  | L + 2, _ => by
    obtain ⟨n, hn, h⟩ := greatest f (L + 1) (by omega)
    by_cases hf : f n ≤ f (L + 1)
    · refine ⟨L + 1, by omega, fun k hk => ?_⟩
      rcases Nat.lt_succ_iff_lt_or_eq.1 hk with h1 | h1
      · exact Nat.le_trans (h k h1) hf
      · rw [h1]; exact Nat.le_refl _
    · refine ⟨n, by omega, fun k hk => ?_⟩
      rcases Nat.lt_succ_iff_lt_or_eq.1 hk with h1 | h1
      · exact h k h1
      · rw [h1]; omega
/-- A column of one table, told by another one. -/
theorem Tab.cross {N : Nat} {s s' : Tabl} {g g' : Int} (h : Tab A m N s g) (h' : Tab A m N s' g') {q j : Nat} (hq : q < m) (hj : j < N) : s.d * s'.T q j = sm m fun i => s.T i j * s'.T q (s.b i) := by
  rw [h'.cell q j hq hj, phi_set]
  have e1 : sm m (fun i => s.T i j * s'.T q (s.b i)) = sm m fun i => g' * (s.T i j * D m (setC (fun t k => A t (s'.b k)) q fun t => A t (s.b i))) := sm_congr fun i hi => by
    rw [h'.cell q _ hq (h.bas i hi), phi_set]
    grind
  rw [e1, sm_mul, ← D_sum hq (fun i => s.T i j) (fun i t => A t (s.b i)) m]
  have e3 := D_lin (M := fun t k => A t (s'.b k)) s.d 0 (fun t => A t j) (fun _ => 0) hq
  simp only [Int.zero_mul, Int.add_zero] at e3
  have e4 : D m (setC (fun t k => A t (s'.b k)) q fun t => s.d * A t j) = D m (setC (fun t k => A t (s'.b k)) q fun t => sm m fun i => s.T i j * A t (s.b i)) := D_congr fun t k ht _ => by
    unfold setC
    split
    · exact h.rel j t hj ht
    · rfl
  rw [← e4, e3]
  grind
theorem rc_cross {N : Nat} {s s' : Tabl} {g g' : Int} (h : Tab A m N s g) (h' : Tab A m N s' g') {j : Nat} (hj : j < N) : s.d * rc m c s' j - sm m (fun i => s.T i j * rc m c s' (s.b i)) = s'.d * rc m c s j := by
  unfold rc
  have e1 : sm m (fun i => s.T i j * (c (s.b i) * s'.d - sm m fun k => c (s'.b k) * s'.T k (s.b i))) = s'.d * (sm m fun i => c (s.b i) * s.T i j) - sm m fun k => c (s'.b k) * (s.d * s'.T k j) := by
    have : sm m (fun k => c (s'.b k) * (s.d * s'.T k j)) = sm m fun k => c (s'.b k) * sm m fun i => s.T i j * s'.T k (s.b i) := sm_congr fun k hk => by rw [h.cross h' hk hj]
    rw [this]
    have e2 : sm m (fun k => c (s'.b k) * sm m fun i => s.T i j * s'.T k (s.b i)) = sm m fun k => sm m fun i => c (s'.b k) * (s.T i j * s'.T k (s.b i)) := sm_congr fun k _ => (sm_mul _ _ _).symm
    rw [e2, sm_swap (fun k i => c (s'.b k) * (s.T i j * s'.T k (s.b i))), ← sm_mul, ← sm_sub]
    refine sm_congr fun i _ => ?_
    rw [Int.mul_sub, ← sm_mul]
    have e3 : sm m (fun k => s.T i j * (c (s'.b k) * s'.T k (s.b i))) = sm m fun k => c (s'.b k) * (s.T i j * s'.T k (s.b i)) := sm_congr fun k _ => by grind
    rw [e3]
    grind
  rw [e1, Int.mul_sub, Int.mul_sub, ← sm_mul s.d]
  have e4 : sm m (fun k => c (s'.b k) * (s.d * s'.T k j)) = sm m fun k => s.d * (c (s'.b k) * s'.T k j) := sm_congr fun k _ => by grind
  rw [e4]
  grind
theorem sm_pos_of {f : Nat → Int} : ∀ {n : Nat}, 0 < sm n f → ∃ i, i < n ∧ 0 < f i
  | n + 1, h => by
    rw [sm] at h
    by_cases hf : 0 < f n
    · exact ⟨n, by omega, hf⟩
    · obtain ⟨i, h1, h2⟩ := sm_pos_of (n := n) (f := f) (by omega)
      exact ⟨i, by omega, h2⟩
/-- **No run of steps comes back.** -/
theorem Cycle.no (h : Cycle A m R F c s e r L) : False := by
  obtain ⟨ns, hns, hmax⟩ := greatest e L h.pos
  obtain ⟨nl, hnl, hleave⟩ := h.leaves hns
  have bl := h.step nl hnl
  have bs := h.step ns hns
  obtain ⟨g, t⟩ := h.tab (Nat.le_of_lt hnl)
  obtain ⟨g', t'⟩ := h.tab (Nat.le_of_lt hns)
  have hle := h.le
  have hlt := bl.lt
  have cr := rc_cross (c := c) t t' (j := e nl) (by omega)
  have hneg : (s ns).d * rc m c (s nl) (e nl) < 0 := by
    have := Int.mul_pos t'.pos (show 0 < - rc m c (s nl) (e nl) by have := bl.neg; omega)
    rw [Int.mul_neg] at this
    omega
  have hst : e nl < e ns := by
    rcases Nat.lt_or_eq_of_le (hmax nl hnl) with h1 | h1
    · exact h1
    · exact absurd ⟨_, bl.row, by rw [hleave, h1]⟩ (h.enters hnl).1
  have h0 : 0 ≤ (s nl).d * rc m c (s ns) (e nl) := Int.mul_nonneg (Int.le_of_lt t.pos) (bs.first _ hst)
  obtain ⟨i, hi, hpos⟩ := sm_pos_of (n := m) (f := fun i => (s nl).T i (e nl) * rc m c (s ns) ((s nl).b i)) (by omega)
  have hnb : ¬ basic m (s ns) ((s nl).b i) := fun ⟨k, hk, hb⟩ => by
    have := rc_basic (c := c) t' hk
    rw [hb] at this
    rw [this] at hpos
    simp at hpos
  obtain ⟨nj, hnj, hj⟩ := h.fickle (Nat.le_of_lt hnl) (Nat.le_of_lt hns) ⟨i, hi, rfl⟩ hnb
  have hjt := hmax nj hnj
  rw [hj] at hjt
  rcases Nat.lt_or_eq_of_le hjt with h1 | h1
  · have hr := bs.first _ h1
    have hT : 0 < (s nl).T i (e nl) := by
      rcases Int.lt_or_le 0 ((s nl).T i (e nl)) with h2 | h2
      · exact h2
      · have := Int.mul_nonneg (a := - (s nl).T i (e nl)) (by omega) hr
        rw [Int.neg_mul] at this
        omega
    have z1 := h.zero hnj (Nat.le_of_lt hnl) hi hj.symm
    have z2 := h.zero hns (Nat.le_of_lt hnl) bl.row hleave
    rcases bl.min i hi hT with e1 | e1 | e1
    · subst e1; rw [hleave] at h1; omega
    · rw [z1, z2] at e1; simp at e1
    · have := e1.2; rw [hleave] at this; omega
  · have hir : i = r nl := t.inj hi bl.row (by rw [h1, hleave])
    subst hir
    rw [h1] at hpos
    have := Int.mul_pos bl.pos (show 0 < - rc m c (s ns) (e ns) by have := bs.neg; omega)
    rw [Int.mul_neg] at this
    omega
/-- The basis as one number. -/
def code (R : Nat) (b : Nat → Nat) : Nat → Nat
  | 0 => 0
  | k + 1 => code R b k * R + b k
theorem code_lt {b : Nat → Nat} : ∀ {m : Nat}, (∀ k, k < m → b k < R) → code R b m < R ^ m
  | 0, _ => by simp [code]
  | m + 1, h => by
    have h1 := code_lt (b := b) (m := m) fun k hk => h k (by omega)
    have h2 := h m (by omega)
    rw [code, Nat.pow_succ]
    have : (code R b m + 1) * R ≤ R ^ m * R := Nat.mul_le_mul_right _ h1
    rw [Nat.add_mul] at this
    omega
theorem code_inj {b b' : Nat → Nat} : ∀ {m : Nat}, (∀ k, k < m → b k < R) → (∀ k, k < m → b' k < R) → code R b m = code R b' m → ∀ k, k < m → b k = b' k
  | m + 1, h, h', e, k, hk => by
    have h2 := h m (by omega)
    have h2' := h' m (by omega)
    rw [code, code] at e
    have e1 : b m = b' m := by
      have := congrArg (· % R) e
      simp only [Nat.mul_add_mod_self_right] at this
      rwa [Nat.mod_eq_of_lt h2, Nat.mod_eq_of_lt h2'] at this
    have e2 : code R b m = code R b' m := by
      have : code R b m * R = code R b' m * R := by omega
      exact Nat.eq_of_mul_eq_mul_right (by omega) this
    rcases Nat.lt_succ_iff_lt_or_eq.1 hk with h3 | rfl
    · exact code_inj (fun k hk => h k (by omega)) (fun k hk => h' k (by omega)) e2 k h3
    · exact e1
theorem pigeon : ∀ (K : Nat) (f : Nat → Nat), (∀ i, i ≤ K → f i < K) → ∃ i j, i < j ∧ j ≤ K ∧ f i = f j
  | 0, f, h => absurd (h 0 (Nat.le_refl _)) (by omega)
  | K + 1, f, h => by
    by_cases hx : ∃ i, i ≤ K ∧ f i = f (K + 1)
    · obtain ⟨i, h1, h2⟩ := hx
      exact ⟨i, K + 1, by omega, Nat.le_refl _, h2⟩
    · obtain ⟨i, j, h1, h2, h3⟩ := pigeon K (fun i => if f i = K then f (K + 1) else f i) fun i hi => by
        have h1 := h i (by omega)
        have h2 := h (K + 1) (Nat.le_refl _)
        split
        · rename_i e
          rcases Nat.lt_or_eq_of_le (Nat.le_of_lt_succ h2) with h3 | h3
          · exact h3
          · exact absurd ⟨i, hi, by rw [e, h3]⟩ hx
        · omega
      refine ⟨i, j, h1, by omega, ?_⟩
      split at h3 <;> split at h3
      · omega
      · exact absurd ⟨j, by omega, h3.symm⟩ hx
      · exact absurd ⟨i, by omega, h3⟩ hx
      · exact h3
/-- **There are no more steps than there are bases.** -/
theorem bland {K : Nat} (hF : F ≤ R) (hc : c R = 0) (h0 : Feas A m R (s 0)) (hs : ∀ n, n < K → BStep m R F c (s n) (s (n + 1)) (e n) (r n)) : K < R ^ m := by
  have feas : ∀ n, n ≤ K → Feas A m R (s n) := fun n => by
    induction n with
    | zero => intro _; exact h0
    | succ n ih => intro hn; exact (ih (by omega)).next hF (hs n (by omega))
  refine Classical.byContradiction fun hK => ?_
  obtain ⟨i, j, h1, h2, h3⟩ := pigeon (R ^ m) (fun n => code R (s n).b m) fun n hn => code_lt (feas n (by omega)).bas
  refine Cycle.no (A := A) (m := m) (R := R) (F := F) (c := c) (s := fun n => s (i + n)) (e := fun n => e (i + n)) (r := fun n => r (i + n)) (L := j - i) ⟨by omega, hF, hc, fun n hn => feas _ (by omega), fun n hn => hs (i + n) (by omega), fun k hk => ?_⟩
  have := code_inj (feas i (by omega)).bas (feas j (by omega)).bas h3 k hk
  simp only [Nat.add_zero]
  rw [show i + (j - i) = j by omega]
  exact this.symm
end
end Go.Proofs.YtdeaaonppokgkaaGreat.Lp
namespace Go.Proofs.YtdeaaonppokgkaaGreat.Lp
theorem sm_split (f : Nat → Int) (a : Nat) : ∀ b, sm (a + b) f = sm a f + sm b fun k => f (a + k)
  | 0 => by simp [sm]
  | b + 1 => by rw [show a + (b + 1) = (a + b) + 1 by omega, sm, sm, sm_split f a b]; omega
/-- A row's condition: at most, at least, or equal. -/
inductive Kd where
  | le | ge | eq
def Kd.slack : Kd → Int
  | .le => 1
  | .ge => -1
  | .eq => 0
def Kd.ok (k : Kd) (x b : Int) : Prop :=
  match k with
  | .le => x ≤ b
  | .ge => b ≤ x
  | .eq => x = b
/-- Which multipliers are right. -/
def Kd.sgn (k : Kd) (y : Int) : Prop :=
  match k with
  | .le => y ≤ 0
  | .ge => 0 ≤ y
  | .eq => True
structure Lp where
  n : Nat
  m : Nat
  a : Nat → Nat → Int
  kind : Nat → Kd
  b : Nat → Int
  c : Nat → Int
structure Prim (p : Lp) (X : Nat → Int) (d : Int) : Prop where
  pos : 0 < d
  nn : ∀ j, j < p.n → 0 ≤ X j
  row : ∀ t, t < p.m → (p.kind t).ok (sm p.n fun j => p.a t j * X j) (p.b t * d)
/-- Multipliers: below 'e' in each column. -/
structure Dual (p : Lp) (e : Nat → Int) (Y : Nat → Int) : Prop where
  col : ∀ j, j < p.n → (sm p.m fun t => p.a t j * Y t) ≤ e j
  sgn : ∀ t, t < p.m → (p.kind t).sgn (Y t)
def pval (p : Lp) (X : Nat → Int) : Int := sm p.n fun j => p.c j * X j
def dval (p : Lp) (Y : Nat → Int) : Int := sm p.m fun t => p.b t * Y t
/-- What multipliers say of a point. -/
theorem dual_le {p : Lp} {X Y e : Nat → Int} {d : Int} (hX : Prim p X d) (hY : Dual p e Y) : dval p Y * d ≤ sm p.n fun j => e j * X j := by
  have h1 : dval p Y * d ≤ sm p.m fun t => Y t * sm p.n fun j => p.a t j * X j := by
    unfold dval
    rw [← sm_mul']
    refine sm_le fun t ht => ?_
    have r := hX.row t ht
    have g := hY.sgn t ht
    cases hk : p.kind t with
    | le =>
      rw [hk] at r g
      have r : (sm p.n fun j => p.a t j * X j) ≤ p.b t * d := r
      have g : Y t ≤ 0 := g
      have := Int.mul_le_mul_of_nonneg_left r (show 0 ≤ - Y t by omega)
      rw [Int.neg_mul, Int.neg_mul] at this
      have e : p.b t * Y t * d = Y t * (p.b t * d) := by grind
      omega
    | ge =>
      rw [hk] at r g
      have r : p.b t * d ≤ sm p.n fun j => p.a t j * X j := r
      have g : 0 ≤ Y t := g
      have := Int.mul_le_mul_of_nonneg_left r g
      have e : p.b t * Y t * d = Y t * (p.b t * d) := by grind
      omega
    | eq =>
      rw [hk] at r
      have r : (sm p.n fun j => p.a t j * X j) = p.b t * d := r
      rw [r]
      exact Int.le_of_eq (by grind)
  have h2 : (sm p.m fun t => Y t * sm p.n fun j => p.a t j * X j) = sm p.n fun j => (sm p.m fun t => p.a t j * Y t) * X j := by
    have e1 : (sm p.m fun t => Y t * sm p.n fun j => p.a t j * X j) = sm p.m fun t => sm p.n fun j => Y t * (p.a t j * X j) := sm_congr fun t _ => (sm_mul _ _ _).symm
    rw [e1, sm_swap fun t j => Y t * (p.a t j * X j)]
    refine sm_congr fun j _ => ?_
    rw [← sm_mul']
    exact sm_congr fun t _ => by grind
  rw [h2] at h1
  refine Int.le_trans h1 (sm_le fun j hj => ?_)
  exact Int.mul_le_mul_of_nonneg_right (hY.col j hj) (hX.nn j hj)
/-- **Weak duality.** -/
theorem weak_dual {p : Lp} {X Y : Nat → Int} {d d' : Int} (hX : Prim p X d) (hY : Dual p (fun j => p.c j * d') Y) : dval p Y * d ≤ pval p X * d' := by
  have := dual_le hX hY
  unfold pval
  rw [← sm_mul']
  have e : (sm p.n fun j => p.c j * d' * X j) = sm p.n fun j => p.c j * X j * d' := sm_congr fun j _ => by grind
  omega
/-- Multipliers that refute a program. -/
theorem farkas_no {p : Lp} {X Y : Nat → Int} {d : Int} (hX : Prim p X d) (hY : Dual p (fun _ => 0) Y) (hv : 0 < dval p Y) : False := by
  have := dual_le hX hY
  rw [sm_zero fun j _ => Int.zero_mul _] at this
  have := Int.mul_pos hv hX.pos
  omega
/-- A direction in which the value goes down for ever. -/
structure Ray (p : Lp) (W : Nat → Int) : Prop where
  nn : ∀ j, j < p.n → 0 ≤ W j
  row : ∀ t, t < p.m → (p.kind t).ok (sm p.n fun j => p.a t j * W j) 0
  neg : pval p W < 0
theorem ray_no {p : Lp} {W Y : Nat → Int} {d : Int} (hW : Ray p W) (hd : 0 < d) (hY : Dual p (fun j => p.c j * d) Y) : False := by
  have h1 : 0 ≤ sm p.m fun t => Y t * sm p.n fun j => p.a t j * W j := sm_nonneg fun t ht => by
    have r := hW.row t ht
    have g := hY.sgn t ht
    cases hk : p.kind t with
    | le =>
      rw [hk] at r g
      have r : (sm p.n fun j => p.a t j * W j) ≤ 0 := r
      have g : Y t ≤ 0 := g
      have := Int.mul_nonneg (show 0 ≤ - Y t by omega) (show 0 ≤ - sm p.n fun j => p.a t j * W j by omega)
      rwa [Int.neg_mul_neg] at this
    | ge =>
      rw [hk] at r g
      exact Int.mul_nonneg g r
    | eq =>
      rw [hk] at r
      have r : (sm p.n fun j => p.a t j * W j) = 0 := r
      rw [r, Int.mul_zero]
      exact Int.le_refl _
  have h2 : (sm p.m fun t => Y t * sm p.n fun j => p.a t j * W j) = sm p.n fun j => (sm p.m fun t => p.a t j * Y t) * W j := by
    have e1 : (sm p.m fun t => Y t * sm p.n fun j => p.a t j * W j) = sm p.m fun t => sm p.n fun j => Y t * (p.a t j * W j) := sm_congr fun t _ => (sm_mul _ _ _).symm
    rw [e1, sm_swap fun t j => Y t * (p.a t j * W j)]
    refine sm_congr fun j _ => ?_
    rw [← sm_mul']
    exact sm_congr fun t _ => by grind
  have h3 : (sm p.n fun j => (sm p.m fun t => p.a t j * Y t) * W j) ≤ sm p.n fun j => p.c j * d * W j := sm_le fun j hj => Int.mul_le_mul_of_nonneg_right (hY.col j hj) (hW.nn j hj)
  have h4 : (sm p.n fun j => p.c j * d * W j) = pval p W * d := by
    unfold pval
    rw [← sm_mul']
    exact sm_congr fun j _ => by grind
  have := Int.mul_pos (show 0 < - pval p W by have := hW.neg; omega) hd
  rw [Int.neg_mul] at this
  omega
/- ===== the first table ===== -/
/-- The columns of a program: variables, slacks, artificial variables, right-hand sides. -/
structure Form (p : Lp) (A : Nat → Nat → Int) (F : Nat) (σ : Nat → Int) (srow scol : Nat → Nat) : Prop where
  nF : p.n ≤ F
  unit : ∀ t, t < p.m → σ t = 1 ∨ σ t = -1
  var : ∀ t j, t < p.m → j < p.n → A t j = σ t * p.a t j
  slk : ∀ t j, t < p.m → p.n ≤ j → j < F → A t j = if t = srow j then σ t * (p.kind t).slack else 0
  slt : ∀ j, p.n ≤ j → j < F → srow j < p.m
  scl : ∀ t, t < p.m → (p.kind t).slack ≠ 0 → p.n ≤ scol t ∧ scol t < F ∧ srow (scol t) = t
  art : ∀ t q, t < p.m → q < p.m → A t (F + q) = if t = q then 1 else 0
  right : ∀ t, t < p.m → A t (F + p.m) = σ t * p.b t
  rnn : ∀ t, t < p.m → 0 ≤ σ t * p.b t
section
variable {p : Lp} {A : Nat → Nat → Int} {F : Nat} {σ : Nat → Int} {srow scol : Nat → Nat}
theorem Form.sq (h : Form p A F σ srow scol) {t : Nat} (ht : t < p.m) : σ t * σ t = 1 := by rcases h.unit t ht with e | e <;> rw [e] <;> rfl
/-- The artificial columns tell all columns. -/
theorem Form.lin (h : Form p A F σ srow scol) {s : Tabl} {g : Int} (ht : Tab A p.m (F + p.m + 1) s g) {k j : Nat} (hk : k < p.m) (hj : j < F + p.m + 1) : s.T k j = sm p.m fun q => A q j * s.T k (F + q) := by
  rw [ht.cell k j hk hj, phi_set]
  have e1 : (sm p.m fun q => A q j * s.T k (F + q)) = sm p.m fun q => g * (A q j * D p.m (setC (fun t k => A t (s.b k)) k fun t => A t (F + q))) := sm_congr fun q hq => by
    rw [ht.cell k _ hk (by omega), phi_set]
    grind
  rw [e1, sm_mul, ← D_sum hk (fun q => A q j) (fun q t => A t (F + q)) p.m]
  congr 1
  refine D_congr fun t i hti _ => ?_
  unfold setC
  split
  · show A t j = sm p.m fun q => A q j * A t (F + q)
    rw [sm_one (q := t) hti fun q hq hqt => by rw [h.art t q hti hq, if_neg (fun e => hqt e.symm), Int.mul_zero], h.art t t hti hti, if_pos rfl, Int.mul_one]
  · rfl
/-- The costs of the basis, times a column. -/
def wsum (m : Nat) (c : Nat → Int) (s : Tabl) (j : Nat) : Int := sm m fun k => c (s.b k) * s.T k j
theorem Form.wlin (h : Form p A F σ srow scol) {s : Tabl} {g : Int} (ht : Tab A p.m (F + p.m + 1) s g) (c : Nat → Int) {j : Nat} (hj : j < F + p.m + 1) : wsum p.m c s j = sm p.m fun q => A q j * wsum p.m c s (F + q) := by
  unfold wsum
  have e1 : (sm p.m fun k => c (s.b k) * s.T k j) = sm p.m fun k => sm p.m fun q => c (s.b k) * (A q j * s.T k (F + q)) := sm_congr fun k hk => by
    rw [h.lin ht hk hj, sm_mul]
  rw [e1, sm_swap fun k q => c (s.b k) * (A q j * s.T k (F + q))]
  refine sm_congr fun q _ => ?_
  rw [← sm_mul]
  exact sm_congr fun k _ => by grind
/-- The multipliers of a table. -/
def mult (σ : Nat → Int) (F m : Nat) (c : Nat → Int) (s : Tabl) (t : Nat) : Int := σ t * wsum m c s (F + t)
theorem Form.dual (h : Form p A F σ srow scol) {s : Tabl} {g : Int} (ht : Tab A p.m (F + p.m + 1) s g) (c : Nat → Int) (hs : ∀ j, p.n ≤ j → j < F → c j = 0) (hr : ∀ j, j < F → 0 ≤ rc p.m c s j) :
    Dual p (fun j => c j * s.d) (mult σ F p.m c s) ∧ dval p (mult σ F p.m c s) = wsum p.m c s (F + p.m) := by
  refine ⟨⟨fun j hj => ?_, fun t hti => ?_⟩, ?_⟩
  · have h1 := hr j (by have := h.nF; omega)
    have h2 := h.wlin ht c (j := j) (by have := h.nF; omega)
    have e : (sm p.m fun t => p.a t j * mult σ F p.m c s t) = sm p.m fun q => A q j * wsum p.m c s (F + q) := sm_congr fun t hti => by
      rw [h.var t j hti hj]
      unfold mult
      grind
    rw [e, ← h2]
    have : rc p.m c s j = c j * s.d - wsum p.m c s j := rfl
    omega
  · cases hk : p.kind t with
    | eq => trivial
    | le =>
      have hne : (p.kind t).slack ≠ 0 := by rw [hk]; decide
      obtain ⟨h1, h2, h3⟩ := h.scl t hti hne
      have h4 := hr _ h2
      have h5 := h.wlin ht c (j := scol t) (by omega)
      have h6 : wsum p.m c s (scol t) = σ t * wsum p.m c s (F + t) := by
        rw [h5, sm_one (q := t) hti fun q hq hqt => by rw [h.slk q _ hq h1 h2, h3, if_neg hqt, Int.zero_mul], h.slk t _ hti h1 h2, h3, if_pos rfl, hk]
        show σ t * 1 * _ = _
        rw [Int.mul_one]
      have : rc p.m c s (scol t) = c (scol t) * s.d - wsum p.m c s (scol t) := rfl
      rw [hs _ h1 h2, Int.zero_mul, h6] at this
      show mult σ F p.m c s t ≤ 0
      unfold mult
      omega
    | ge =>
      have hne : (p.kind t).slack ≠ 0 := by rw [hk]; decide
      obtain ⟨h1, h2, h3⟩ := h.scl t hti hne
      have h4 := hr _ h2
      have h5 := h.wlin ht c (j := scol t) (by omega)
      have h6 : wsum p.m c s (scol t) = - (σ t * wsum p.m c s (F + t)) := by
        rw [h5, sm_one (q := t) hti fun q hq hqt => by rw [h.slk q _ hq h1 h2, h3, if_neg hqt, Int.zero_mul], h.slk t _ hti h1 h2, h3, if_pos rfl, hk]
        show σ t * -1 * _ = _
        grind
      have : rc p.m c s (scol t) = c (scol t) * s.d - wsum p.m c s (scol t) := rfl
      rw [hs _ h1 h2, Int.zero_mul, h6] at this
      show 0 ≤ mult σ F p.m c s t
      unfold mult
      omega
  · rw [h.wlin ht c (by omega)]
    unfold dval
    refine sm_congr fun t hti => ?_
    rw [h.right t hti]
    unfold mult
    grind
/-- The values of the columns at a table. -/
def xval (m R : Nat) (s : Tabl) (j : Nat) : Int := sm m fun k => if s.b k = j then s.T k R else 0
theorem xsum {m R : Nat} {s : Tabl} (hb : ∀ k, k < m → s.b k < R) (f : Nat → Int) : (sm R fun j => f j * xval m R s j) = sm m fun k => f (s.b k) * s.T k R := by
  unfold xval
  have e1 : (sm R fun j => f j * sm m fun k => if s.b k = j then s.T k R else 0) = sm R fun j => sm m fun k => f j * if s.b k = j then s.T k R else 0 := sm_congr fun j _ => (sm_mul _ _ _).symm
  rw [e1, sm_swap fun j k => f j * if s.b k = j then s.T k R else 0]
  refine sm_congr fun k hk => ?_
  rw [sm_one (q := s.b k) (hb k hk) fun j _ hj => by rw [if_neg (fun e => hj e.symm), Int.mul_zero], if_pos rfl]
theorem xval_nn {m R : Nat} {s : Tabl} (h : ∀ k, k < m → 0 ≤ s.T k R) (j : Nat) : 0 ≤ xval m R s j := sm_nonneg fun k hk => by
  split
  · exact h k hk
  · exact Int.le_refl _
/-- No artificial variable has a value. -/
def NoArt (m F R : Nat) (s : Tabl) : Prop := ∀ k, k < m → F ≤ s.b k → s.T k R = 0
theorem slack_ok {k : Kd} {x b u s : Int} (hs : s * s = 1) (hu : 0 ≤ u) (h : s * b = s * x + s * k.slack * u) : k.ok x b := by
  have h2 : b = x + k.slack * u := by
    have : s * (s * b) = s * (s * x + s * k.slack * u) := by rw [h]
    have e1 : s * (s * b) = s * s * b := by grind
    have e2 : s * (s * x + s * k.slack * u) = s * s * (x + k.slack * u) := by grind
    rw [e1, e2, hs, Int.one_mul, Int.one_mul] at this
    exact this
  cases k with
  | le => simp only [Kd.slack, Int.one_mul] at h2; show x ≤ b; omega
  | ge => simp only [Kd.slack] at h2; show b ≤ x; omega
  | eq => simp only [Kd.slack, Int.zero_mul] at h2; show x = b; omega
/-- A sum over all columns, by their kinds; the artificial ones are 0. -/
theorem Form.sums (h : Form p A F σ srow scol) {V : Nat → Int} (hz : ∀ q, q < p.m → V (F + q) = 0) {t : Nat} (hti : t < p.m) :
    (sm (F + p.m) fun j => A t j * V j) = σ t * (sm p.n fun j => p.a t j * V j) + σ t * (p.kind t).slack * sm (F - p.n) fun k => if t = srow (p.n + k) then V (p.n + k) else 0 := by
  have hnF := h.nF
  rw [sm_split, sm_zero (n := p.m) fun q hq => by rw [hz q hq, Int.mul_zero], Int.add_zero]
  have : F = p.n + (F - p.n) := by omega
  rw [show (sm F fun j => A t j * V j) = sm (p.n + (F - p.n)) fun j => A t j * V j by rw [← this], sm_split, ← sm_mul, ← sm_mul]
  congr 1
  · exact sm_congr fun j hj => by rw [h.var t j hti hj]; grind
  · refine sm_congr fun k hk => ?_
    rw [h.slk t _ hti (by omega) (by omega)]
    split
    · rfl
    · rw [Int.zero_mul, Int.mul_zero]
theorem Form.prim (h : Form p A F σ srow scol) {s : Tabl} (hf : Feas A p.m (F + p.m) s) (hz : NoArt p.m F (F + p.m) s) : Prim p (xval p.m (F + p.m) s) s.d := by
  obtain ⟨g, ht⟩ := hf.tab
  refine ⟨ht.pos, fun j _ => xval_nn hf.right j, fun t hti => ?_⟩
  have hr := ht.rel (F + p.m) t (by omega) hti
  have e : (sm p.m fun k => s.T k (F + p.m) * A t (s.b k)) = sm (F + p.m) fun j => A t j * xval p.m (F + p.m) s j := by
    rw [xsum hf.bas]
    exact sm_congr fun k _ => Int.mul_comm _ _
  rw [e, h.sums (fun q hq => ?_) hti, h.right t hti] at hr
  · refine slack_ok (h.sq hti) (sm_nonneg fun k _ => ?_) (u := sm (F - p.n) fun k => if t = srow (p.n + k) then xval p.m (F + p.m) s (p.n + k) else 0) ?_
    · split
      · exact xval_nn hf.right _
      · exact Int.le_refl _
    · rw [← hr]; grind
  · exact sm_zero fun k hk => by
      split
      · rename_i e; exact hz k hk (by omega)
      · rfl
theorem Form.pval (h : Form p A F σ srow scol) {s : Tabl} (hf : Feas A p.m (F + p.m) s) {c : Nat → Int} (hc : ∀ j, j < p.n → c j = p.c j) (hc0 : ∀ j, p.n ≤ j → j < F + p.m → c j = 0) : pval p (xval p.m (F + p.m) s) = wsum p.m c s (F + p.m) := by
  unfold wsum
  rw [← xsum hf.bas]
  have hnF := h.nF
  rw [show F + p.m = p.n + (F + p.m - p.n) by omega, sm_split, ← show F + p.m = p.n + (F + p.m - p.n) by omega, sm_zero (n := F + p.m - p.n) fun k hk => by rw [hc0 _ (by omega) (by omega), Int.zero_mul], Int.add_zero]
  exact sm_congr fun j hj => by rw [hc j hj]
/-- Rows whose artificial variable can't leave. -/
def Stuck (m F : Nat) (s : Tabl) : Prop := ∀ k, k < m → F ≤ s.b k → ∀ j, j < F → s.T k j = 0
/-- The direction of a column that no row bounds. -/
def ray (m : Nat) (s : Tabl) (e j : Nat) : Int := (if j = e then s.d else 0) - sm m fun k => if s.b k = j then s.T k e else 0
theorem ray_sum {m R : Nat} {s : Tabl} (hb : ∀ k, k < m → s.b k < R) {e : Nat} (he : e < R) (f : Nat → Int) : (sm R fun j => f j * ray m s e j) = f e * s.d - sm m fun k => f (s.b k) * s.T k e := by
  unfold ray
  have e1 : (sm R fun j => f j * ((if j = e then s.d else 0) - sm m fun k => if s.b k = j then s.T k e else 0)) = (sm R fun j => f j * if j = e then s.d else 0) - sm R fun j => sm m fun k => f j * if s.b k = j then s.T k e else 0 := by
    rw [← sm_sub]
    exact sm_congr fun j _ => by rw [Int.mul_sub, ← sm_mul]
  rw [e1, sm_swap fun j k => f j * if s.b k = j then s.T k e else 0, sm_one (q := e) he fun j _ hj => by rw [if_neg hj, Int.mul_zero], if_pos rfl]
  congr 1
  refine sm_congr fun k hk => ?_
  rw [sm_one (q := s.b k) (hb k hk) fun j _ hj => by rw [if_neg (fun e => hj e.symm), Int.mul_zero], if_pos rfl]
theorem Form.ray (h : Form p A F σ srow scol) {s : Tabl} (hf : Feas A p.m (F + p.m) s) (hz : Stuck p.m F s) {c : Nat → Int} (hc : ∀ j, j < p.n → c j = p.c j) (hc0 : ∀ j, p.n ≤ j → j < F + p.m → c j = 0) {e : Nat} (he : e < F) (hneg : rc p.m c s e < 0) (hno : ∀ k, k < p.m → s.T k e ≤ 0) : Ray p (ray p.m s e) := by
  obtain ⟨g, ht⟩ := hf.tab
  have hnF := h.nF
  have nn : ∀ j, 0 ≤ Lp.ray p.m s e j := fun j => by
    unfold Lp.ray
    have h1 : 0 ≤ sm p.m fun k => - (if s.b k = j then s.T k e else 0) := sm_nonneg fun k hk => by
      have := hno k hk
      split <;> omega
    rw [sm_neg] at h1
    have := ht.pos
    split <;> omega
  have z : ∀ q, q < p.m → Lp.ray p.m s e (F + q) = 0 := fun q hq => by
    unfold Lp.ray
    rw [if_neg (by omega), sm_zero fun k hk => ?_]
    · rfl
    · split
      · rename_i eb; exact hz k hk (by omega) e he
      · rfl
  refine ⟨fun j _ => nn j, fun t hti => ?_, ?_⟩
  · have hs := h.sums z hti
    rw [ray_sum hf.bas (by omega)] at hs
    have hr := ht.rel e t (by omega) hti
    have e0 : (sm p.m fun k => A t (s.b k) * s.T k e) = sm p.m fun k => s.T k e * A t (s.b k) := sm_congr fun k _ => Int.mul_comm _ _
    rw [e0, ← hr] at hs
    refine slack_ok (h.sq hti) (sm_nonneg fun k _ => ?_) (u := sm (F - p.n) fun k => if t = srow (p.n + k) then Lp.ray p.m s e (p.n + k) else 0) ?_
    · split
      · exact nn _
      · exact Int.le_refl _
    · rw [← hs]; grind
  · have h1 := ray_sum hf.bas (show e < F + p.m by omega) c
    rw [show F + p.m = p.n + (F + p.m - p.n) by omega, sm_split, sm_zero (n := F + p.m - p.n) fun k hk => by rw [hc0 _ (by omega) (by omega), Int.zero_mul], Int.add_zero] at h1
    unfold Lp.pval
    have e1 : (sm p.n fun j => p.c j * Lp.ray p.m s e j) = sm p.n fun j => c j * Lp.ray p.m s e j := sm_congr fun j hj => by rw [hc j hj]
    rw [e1, h1]
    unfold rc at hneg
    exact hneg
end
end Go.Proofs.YtdeaaonppokgkaaGreat.Lp
