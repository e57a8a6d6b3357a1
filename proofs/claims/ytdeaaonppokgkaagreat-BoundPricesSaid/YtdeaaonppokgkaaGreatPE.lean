/- Plain law: the steps as they are made; both phases end; how large the numbers become. -/
import Derived.Test.YtdeaaonppokgkaaGreatPA
namespace Go.Proofs.YtdeaaonppokgkaaGreat.Lp
/-- A step at a row and a column. -/
def pivT (s : Tabl) (r e : Nat) : Tabl :=
  let z : Int := if s.T r e < 0 then -1 else 1
  ⟨fun i j => if i = r then z * s.T r j else z * ((s.T i j * s.T r e - s.T i e * s.T r j) / s.d), up s.b r e, z * s.T r e⟩
def zOf (s : Tabl) (r e : Nat) : Int := if s.T r e < 0 then -1 else 1
section
variable {A : Nat → Nat → Int} {m N R F : Nat} {c : Nat → Int}
theorem pivT_step {s : Tabl} {g : Int} (h : Tab A m N s g) {r e : Nat} (hr : r < m) (he : e < N) : Step s (pivT s r e) m N r e (zOf s r e) := by
  refine ⟨?_, rfl, fun k _ => rfl, fun j _ => ?_, fun i j hi hir hj => ?_⟩
  · unfold zOf; split
    · exact .inr rfl
    · exact .inl rfl
  · show (if r = r then _ else _) = _
    rw [if_pos rfl]; rfl
  · show s.d * (if i = r then _ else _) = _
    rw [if_neg hir, ← h.exact hr he hi hj hir, Int.mul_ediv_cancel_left _ (by have := h.pos; omega)]
    show s.d * (zOf s r e * _) = _
    rw [Int.mul_left_comm]
theorem pivT_tab {s : Tabl} {g : Int} (h : Tab A m N s g) {r e : Nat} (hr : r < m) (he : e < N) (h0 : s.T r e ≠ 0) : Tab A m N (pivT s r e) (g * zOf s r e) :=
  h.step hr he (pivT_step h hr he) (by
    show 0 < zOf s r e * s.T r e
    unfold zOf
    split <;> omega)
/-- The row that leaves. -/
def lv (R : Nat) (s : Tabl) (e : Nat) : Nat → Int
  | 0 => -1
  | i + 1 =>
    if s.T i e ≤ 0 then lv R s e i else
    if lv R s e i < 0 then i else
    if s.T i R * s.T (lv R s e i).toNat e < s.T (lv R s e i).toNat R * s.T i e ∨ (s.T i R * s.T (lv R s e i).toNat e = s.T (lv R s e i).toNat R * s.T i e ∧ s.b i < s.b (lv R s e i).toNat) then i else lv R s e i
/-- A row comes ahead of another one. -/
def Ahead (R : Nat) (s : Tabl) (e r i : Nat) : Prop := s.T r R * s.T i e < s.T i R * s.T r e ∨ (s.T r R * s.T i e = s.T i R * s.T r e ∧ s.b r < s.b i)
theorem mul_lt {a b k : Int} (h : a < b) (hk : 0 < k) : a * k < b * k := Int.mul_lt_mul_of_pos_right h hk
theorem Ahead.trans {s : Tabl} {e r i k : Nat} (h1 : Ahead R s e r i) (h2 : Ahead R s e i k) (hr : 0 < s.T r e) (hi : 0 < s.T i e) (hk : 0 < s.T k e) : Ahead R s e r k := by
  unfold Ahead at *
  have key : ∀ {x y : Int}, x * s.T i e < y * s.T i e → x < y := fun h => Int.lt_of_mul_lt_mul_right h (Int.le_of_lt hi)
  rcases h1 with h1 | ⟨h1, b1⟩ <;> rcases h2 with h2 | ⟨h2, b2⟩
  · left
    refine key ?_
    have q1 := mul_lt h1 hk
    have q2 := mul_lt h2 hr
    have e1 : s.T r R * s.T i e * s.T k e = s.T r R * s.T k e * s.T i e := by grind
    have e2 : s.T i R * s.T r e * s.T k e = s.T i R * s.T k e * s.T r e := by grind
    have e3 : s.T k R * s.T i e * s.T r e = s.T k R * s.T r e * s.T i e := by grind
    omega
  · left
    refine key ?_
    have q1 := mul_lt h1 hk
    have q2 : s.T i R * s.T k e * s.T r e = s.T k R * s.T i e * s.T r e := by rw [h2]
    have e1 : s.T r R * s.T i e * s.T k e = s.T r R * s.T k e * s.T i e := by grind
    have e2 : s.T i R * s.T r e * s.T k e = s.T i R * s.T k e * s.T r e := by grind
    have e3 : s.T k R * s.T i e * s.T r e = s.T k R * s.T r e * s.T i e := by grind
    omega
  · left
    refine key ?_
    have q1 : s.T r R * s.T i e * s.T k e = s.T i R * s.T r e * s.T k e := by rw [h1]
    have q2 := mul_lt h2 hr
    have e1 : s.T r R * s.T i e * s.T k e = s.T r R * s.T k e * s.T i e := by grind
    have e2 : s.T i R * s.T r e * s.T k e = s.T i R * s.T k e * s.T r e := by grind
    have e3 : s.T k R * s.T i e * s.T r e = s.T k R * s.T r e * s.T i e := by grind
    omega
  · right
    refine ⟨?_, by omega⟩
    have q1 : s.T r R * s.T i e * s.T k e = s.T i R * s.T r e * s.T k e := by rw [h1]
    have q2 : s.T i R * s.T k e * s.T r e = s.T k R * s.T i e * s.T r e := by rw [h2]
    have e1 : s.T r R * s.T i e * s.T k e = s.T r R * s.T k e * s.T i e := by grind
    have e2 : s.T i R * s.T r e * s.T k e = s.T i R * s.T k e * s.T r e := by grind
    have e3 : s.T k R * s.T i e * s.T r e = s.T k R * s.T r e * s.T i e := by grind
    exact Int.eq_of_mul_eq_mul_right (show s.T i e ≠ 0 by omega) (by omega)
theorem lv_spec {s : Tabl} {e : Nat} : ∀ {q : Nat}, (∀ i k, i < q → k < q → s.b i = s.b k → i = k) → (lv R s e q = -1 ∧ ∀ i, i < q → s.T i e ≤ 0) ∨ ∃ r : Nat, r < q ∧ lv R s e q = r ∧ 0 < s.T r e ∧ ∀ i, i < q → 0 < s.T i e → i = r ∨ Ahead R s e r i
  | 0, _ => .inl ⟨rfl, fun i hi => by omega⟩
  | q + 1, hb => by
    rw [lv]
    rcases lv_spec (q := q) fun i k hi hk => hb i k (by omega) (by omega) with ⟨h1, h2⟩ | ⟨r, h1, h2, h3, h4⟩
    · by_cases hq : s.T q e ≤ 0
      · rw [if_pos hq]
        refine .inl ⟨h1, fun i hi => ?_⟩
        rcases Nat.lt_succ_iff_lt_or_eq.1 hi with h | rfl
        · exact h2 i h
        · exact hq
      · rw [if_neg hq, if_pos (by omega)]
        refine .inr ⟨q, by omega, rfl, by omega, fun i hi hp => ?_⟩
        rcases Nat.lt_succ_iff_lt_or_eq.1 hi with h | rfl
        · have := h2 i h; omega
        · exact .inl rfl
    · by_cases hq : s.T q e ≤ 0
      · rw [if_pos hq]
        refine .inr ⟨r, by omega, h2, h3, fun i hi hp => ?_⟩
        rcases Nat.lt_succ_iff_lt_or_eq.1 hi with h | rfl
        · exact h4 i h hp
        · omega
      · rw [if_neg hq, if_neg (by omega), h2]
        simp only [Int.toNat_natCast]
        have hq : 0 < s.T q e := by omega
        by_cases hA : Ahead R s e q r
        · rw [if_pos (show _ ∨ _ from hA)]
          refine .inr ⟨q, by omega, rfl, hq, fun i hi hp => ?_⟩
          rcases Nat.lt_succ_iff_lt_or_eq.1 hi with h | rfl
          · rcases h4 i h hp with rfl | h5
            · exact .inr hA
            · exact .inr (hA.trans h5 hq h3 hp)
          · exact .inl rfl
        · rw [if_neg (show ¬ (_ ∨ _) from hA)]
          refine .inr ⟨r, by omega, rfl, h3, fun i hi hp => ?_⟩
          rcases Nat.lt_succ_iff_lt_or_eq.1 hi with h | rfl
          · exact h4 i h hp
          · refine .inr ?_
            unfold Ahead at hA ⊢
            rcases Int.lt_trichotomy (s.T r R * s.T i e) (s.T i R * s.T r e) with h5 | h5 | h5
            · exact .inl h5
            · refine .inr ⟨h5, ?_⟩
              rcases Nat.lt_trichotomy (s.b r) (s.b i) with h6 | h6 | h6
              · exact h6
              · have := hb r i (by omega) (by omega) h6; omega
              · exact absurd (.inr ⟨h5.symm, h6⟩) hA
            · exact absurd (.inl h5) hA
/-- The first column that may enter. -/
def ent (p : Nat → Bool) : Nat → Int
  | 0 => -1
  | j + 1 => if 0 ≤ ent p j then ent p j else if p j = true then j else -1
theorem ent_spec {p : Nat → Bool} : ∀ {F : Nat}, (ent p F = -1 ∧ ∀ j, j < F → p j = false) ∨ ∃ e : Nat, e < F ∧ ent p F = e ∧ p e = true ∧ ∀ j, j < e → p j = false
  | 0 => .inl ⟨rfl, fun j hj => by omega⟩
  | F + 1 => by
    rw [ent]
    rcases ent_spec (p := p) (F := F) with ⟨h1, h2⟩ | ⟨e, h1, h2, h3, h4⟩
    · rw [if_neg (by omega)]
      cases hp : p F with
      | true => exact .inr ⟨F, by omega, by simp, hp, h2⟩
      | false =>
        refine .inl ⟨by simp, fun j hj => ?_⟩
        rcases Nat.lt_succ_iff_lt_or_eq.1 hj with h | rfl
        · exact h2 j h
        · exact hp
    · rw [if_pos (by omega)]
      exact .inr ⟨e, by omega, h2, h3, h4⟩
/-- The steps of a phase. -/
def phE (m F : Nat) (c : Nat → Int) (s : Tabl) : Int := ent (fun j => decide (rc m c s j < 0)) F
def phR (m R F : Nat) (c : Nat → Int) (s : Tabl) : Int := lv R s (phE m F c s).toNat m
def phS (m R F : Nat) (c : Nat → Int) (s : Tabl) : Nat → Tabl
  | 0 => s
  | n + 1 => let q := phS m R F c s n; pivT q (phR m R F c q).toNat (phE m F c q).toNat
/-- Where a phase goes on. -/
def Goes (m R F : Nat) (c : Nat → Int) (s : Tabl) : Prop := 0 ≤ phE m F c s ∧ 0 ≤ phR m R F c s
instance {s : Tabl} : Decidable (Goes m R F c s) := by unfold Goes; exact inferInstance
theorem goes_step {s : Tabl} (hF : F ≤ R) (h : Feas A m R s) (hg : Goes m R F c s) : BStep m R F c s (pivT s (phR m R F c s).toNat (phE m F c s).toNat) (phE m F c s).toNat (phR m R F c s).toNat := by
  obtain ⟨g, ht⟩ := h.tab
  obtain ⟨h1, h2⟩ := hg
  rcases ent_spec (p := fun j => decide (rc m c s j < 0)) (F := F) with ⟨q1, _⟩ | ⟨e, q1, q2, q3, q4⟩
  · unfold phE at h1; omega
  have he : (phE m F c s).toNat = e := by unfold phE; rw [q2]; rfl
  rcases lv_spec (R := R) (s := s) (e := e) (q := m) fun i k hi hk => ht.inj hi hk with ⟨q5, _⟩ | ⟨r, q5, q6, q7, q8⟩
  · unfold phR at h2; rw [he] at h2; omega
  have hr : (phR m R F c s).toNat = r := by unfold phR; rw [he, q6]; rfl
  rw [he, hr]
  have hz : zOf s r e = 1 := by unfold zOf; rw [if_neg (by omega)]
  refine ⟨q1, by simpa using q3, fun j hj => by have := q4 j hj; simp at this; omega, q5, q7, fun i hi hp => ?_, ?_⟩
  · rcases q8 i hi hp with h | h
    · exact .inl h
    · exact .inr h
  · have := pivT_step ht q5 (show e < R + 1 by omega)
    rwa [hz] at this
/-- **A phase ends.** -/
theorem phase_ends {s : Tabl} (hF : F ≤ R) (hc : c R = 0) (h : Feas A m R s) : ∃ K, (∀ n, n < K → Goes m R F c (phS m R F c s n)) ∧ ¬ Goes m R F c (phS m R F c s K) ∧ ∀ n, n ≤ K → Feas A m R (phS m R F c s n) := by
  have feas : ∀ K, (∀ n, n < K → Goes m R F c (phS m R F c s n)) → ∀ n, n ≤ K → Feas A m R (phS m R F c s n) := fun K hK n => by
    induction n with
    | zero => intro _; exact h
    | succ n ih => intro hn; exact (ih (by omega)).next hF (goes_step hF (ih (by omega)) (hK n (by omega)))
  have main : ∀ K, (∀ n, n < K → Goes m R F c (phS m R F c s n)) ∨ ∃ K', (∀ n, n < K' → Goes m R F c (phS m R F c s n)) ∧ ¬ Goes m R F c (phS m R F c s K') := fun K => by
    induction K with
    | zero => exact .inl fun n hn => by omega
    | succ K ih =>
      rcases ih with h1 | h1
      · by_cases hg : Goes m R F c (phS m R F c s K)
        · refine .inl fun n hn => ?_
          rcases Nat.lt_succ_iff_lt_or_eq.1 hn with h2 | rfl
          · exact h1 n h2
          · exact hg
        · exact .inr ⟨K, h1, hg⟩
      · exact .inr h1
  rcases main (R ^ m) with h1 | ⟨K, h1, h2⟩
  · have := bland (A := A) (s := phS m R F c s) (e := fun n => (phE m F c (phS m R F c s n)).toNat) (r := fun n => (phR m R F c (phS m R F c s n)).toNat) (K := R ^ m) hF hc h fun n hn => goes_step hF (feas _ h1 n (by omega)) (h1 n hn)
    omega
  · exact ⟨K, h1, h2, feas K h1⟩
end
end Go.Proofs.YtdeaaonppokgkaaGreat.Lp
namespace Go.Proofs.YtdeaaonppokgkaaGreat.Lp
theorem sm_inj {N : Nat} : ∀ {m : Nat} {g : Nat → Nat} {w : Nat → Int}, (∀ q, 0 ≤ w q) → (∀ k, k < m → g k < N) → (∀ i k, i < m → k < m → g i = g k → i = k) → (sm m fun k => w (g k)) ≤ sm N w
  | 0, _, _, hw, _, _ => sm_nonneg fun k _ => hw k
  | m + 1, g, w, hw, hg, hi => by
    have ih := sm_inj (N := N) (m := m) (g := g) (w := up w (g m) 0) (fun q => by unfold up; split <;> simp [hw q]) (fun k hk => hg k (by omega)) fun i k h1 h2 => hi i k (by omega) (by omega)
    rw [sm_up (hg m (by omega))] at ih
    have : (sm m fun k => up w (g m) 0 (g k)) = sm m fun k => w (g k) := sm_congr fun k hk => up_ne _ _ fun e => by have := hi k m (by omega) (by omega) e; omega
    rw [this] at ih
    rw [sm]
    omega
theorem prd_congr {f g : Nat → Nat} : ∀ {m : Nat}, (∀ i, i < m → f i = g i) → prd m f = prd m g
  | 0, _ => rfl
  | m + 1, h => by rw [prd, prd, prd_congr fun i hi => h i (by omega), h m (by omega)]
theorem prd_up {f : Nat → Nat} {t : Nat} : ∀ {m : Nat}, t < m → prd m (up f t 1) * f t = prd m f
  | m + 1, h => by
    rw [prd, prd]
    by_cases e : t = m
    · subst e
      rw [up_same, Nat.mul_one, prd_congr fun i hi => up_ne f 1 (by omega : i ≠ t)]
    · rw [up_ne f 1 (fun h => e h.symm), ← prd_up (f := f) (t := t) (m := m) (by omega), Nat.mul_right_comm]
/-- A unit column clears its row. -/
theorem D_clear {m : Nat} {M : Nat → Nat → Int} {k0 t0 : Nat} (hk : k0 < m) (hu : ∀ i, i < m → M i k0 = if i = t0 then 1 else 0) : ∀ q, q ≤ m → D m M = D m fun i k => if k < q ∧ k ≠ k0 ∧ i = t0 then 0 else M i k
  | 0, _ => D_congr fun i k _ _ => by rw [if_neg (by omega)]
  | q + 1, hq => by
    rw [D_clear hk hu q (by omega)]
    by_cases e : q = k0
    · exact D_congr fun i k _ _ => by
        by_cases h : k < q ∧ k ≠ k0 ∧ i = t0
        · rw [if_pos h, if_pos ⟨by omega, h.2⟩]
        · rw [if_neg h, if_neg (by omega)]
    · have h1 := D_lin (M := fun i k => if k < q ∧ k ≠ k0 ∧ i = t0 then 0 else M i k) (m := m) (q := q) 1 (M t0 q) (fun i => if i = t0 then 0 else M i q) (fun i => if i = t0 then 1 else 0) (by omega)
      have z : D m (setC (fun i k => if k < q ∧ k ≠ k0 ∧ i = t0 then 0 else M i k) q fun i => if i = t0 then 1 else 0) = 0 := D_alt (p := q) (q := k0) (by omega) hk e fun i hi => by
        rw [setC_same, setC_ne _ _ _ (fun h => e h.symm), hu i hi]
        show _ = if k0 < q ∧ k0 ≠ k0 ∧ i = t0 then _ else _
        rw [if_neg (show ¬ (k0 < q ∧ k0 ≠ k0 ∧ i = t0) from fun h => h.2.1 rfl)]
      rw [z, Int.mul_zero, Int.add_zero, Int.one_mul] at h1
      have e1 : D m (fun i k => if k < q ∧ k ≠ k0 ∧ i = t0 then 0 else M i k) = D m (setC (fun i k => if k < q ∧ k ≠ k0 ∧ i = t0 then 0 else M i k) q fun i => 1 * (if i = t0 then 0 else M i q) + M t0 q * if i = t0 then 1 else 0) := D_congr fun i k _ _ => by
        unfold setC
        by_cases ek : k = q
        · subst ek
          rw [if_pos rfl, if_neg (by omega)]
          show M i k = 1 * (if i = t0 then 0 else M i k) + M t0 k * if i = t0 then 1 else 0
          by_cases ei : i = t0
          · rw [if_pos ei, if_pos ei, ei]; omega
          · rw [if_neg ei, if_neg ei]; omega
        · rw [if_neg ek]
      rw [e1, h1]
      refine D_congr fun i k _ _ => ?_
      unfold setC
      by_cases ek : k = q
      · subst ek
        rw [if_pos rfl]
        show (if i = t0 then 0 else M i k) = _
        by_cases ei : i = t0
        · rw [if_pos ei, if_pos ⟨by omega, e, ei⟩]
        · rw [if_neg ei, if_neg (fun h => ei h.2.2)]
      · rw [if_neg ek]
        show (if k < q ∧ k ≠ k0 ∧ i = t0 then 0 else M i k) = _
        by_cases h : k < q ∧ k ≠ k0 ∧ i = t0
        · rw [if_pos h, if_pos ⟨by omega, h.2⟩]
        · rw [if_neg h, if_neg (by omega)]
theorem D_clear_all {m : Nat} {M : Nat → Nat → Int} {k0 t0 : Nat} (hk : k0 < m) (hu : ∀ i, i < m → M i k0 = if i = t0 then 1 else 0) : D m M = D m fun i k => if k ≠ k0 ∧ i = t0 then 0 else M i k := by
  rw [D_clear hk hu m (Nat.le_refl m)]
  exact D_congr fun i k _ hkm => by
    by_cases h : k ≠ k0 ∧ i = t0
    · rw [if_pos ⟨hkm, h⟩, if_pos h]
    · rw [if_neg (fun e => h e.2), if_neg h]
/-- The factors of the rows. -/
def fac (p : Lp) (t : Nat) : Nat := 1 + (sm p.n fun j => ((p.a t j).natAbs : Int)).toNat + (p.b t).natAbs
/-- What columns there are, but for multiples. -/
def cls (p : Lp) (F : Nat) (srow : Nat → Nat) (j : Nat) : Nat := if j < p.n then j else if j < F then p.n + srow j else if j < F + p.m then p.n + (j - F) else p.n + p.m
def wt (p : Lp) (t q : Nat) : Int := if q < p.n then ((p.a t q).natAbs : Int) else if q < p.n + p.m then (if q - p.n = t then 1 else 0) else ((p.b t).natAbs : Int)
section
variable {p : Lp} {A : Nat → Nat → Int} {F : Nat} {σ : Nat → Int} {srow scol : Nat → Nat}
theorem wt_sum {t : Nat} (ht : t < p.m) : sm (p.n + p.m + 1) (wt p t) = fac p t := by
  rw [sm, sm_split]
  have e1 : sm p.n (wt p t) = sm p.n fun j => ((p.a t j).natAbs : Int) := sm_congr fun j hj => by unfold wt; rw [if_pos hj]
  have e2 : (sm p.m fun k => wt p t (p.n + k)) = 1 := by
    rw [sm_one (q := t) ht fun k hk hkt => ?_]
    · unfold wt; rw [if_neg (by omega), if_pos (by omega), if_pos (by omega)]
    · unfold wt; rw [if_neg (by omega), if_pos (by omega), if_neg (by omega)]
  have e3 : wt p t (p.n + p.m) = ((p.b t).natAbs : Int) := by unfold wt; rw [if_neg (by omega), if_neg (by omega)]
  have h0 : 0 ≤ sm p.n fun j => ((p.a t j).natAbs : Int) := sm_nonneg fun j _ => by omega
  rw [e1, e2, e3]
  unfold fac
  omega
theorem abs_sgn {s x : Int} (h : s = 1 ∨ s = -1) : (s * x).natAbs = x.natAbs := by rcases h with e | e <;> rw [e] <;> simp
theorem Form.wt (h : Form p A F σ srow scol) {t j : Nat} (ht : t < p.m) (hj : j < F + p.m + 1) : ((A t j).natAbs : Int) ≤ Lp.wt p t (cls p F srow j) := by
  unfold cls Lp.wt
  by_cases h1 : j < p.n
  · rw [if_pos h1, if_pos h1, h.var t j ht h1, abs_sgn (h.unit t ht)]
    exact Int.le_refl _
  rw [if_neg h1]
  by_cases h2 : j < F
  · have := h.slt j (by omega) h2
    rw [if_pos h2, if_neg (by omega), if_pos (by omega), h.slk t j ht (by omega) h2]
    by_cases e : t = srow j
    · rw [if_pos e, if_pos (by omega), abs_sgn (h.unit t ht)]
      cases p.kind t <;> decide
    · rw [if_neg e, if_neg (by omega)]
      decide
  rw [if_neg h2]
  by_cases h3 : j < F + p.m
  · have e1 := h.art t (j - F) ht (by omega)
    rw [show F + (j - F) = j by omega] at e1
    rw [if_pos h3, if_neg (by omega), if_pos (by omega), e1]
    by_cases e : t = j - F
    · rw [if_pos e, if_pos (by omega)]; decide
    · rw [if_neg e, if_neg (by omega)]; decide
  · rw [if_neg h3, if_neg (by omega), if_neg (by omega), show j = F + p.m by omega, h.right t ht, abs_sgn (h.unit t ht)]
    exact Int.le_refl _
/-- Columns of one class are multiples of one column. -/
theorem Form.cls_same (h : Form p A F σ srow scol) {j j' : Nat} (hj : j < F + p.m + 1) (hj' : j' < F + p.m + 1) (e : cls p F srow j = cls p F srow j') : ∃ (u : Nat → Int) (α β : Int), (∀ t, t < p.m → A t j = α * u t) ∧ ∀ t, t < p.m → A t j' = β * u t := by
  have unit : ∀ j q, j < F + p.m + 1 → cls p F srow j = p.n + q → q < p.m → ∃ α : Int, ∀ t, t < p.m → A t j = α * if t = q then 1 else 0 := fun j q hj hc hq => by
    unfold cls at hc
    split at hc
    · omega
    · split at hc
      · rename_i h1 h2
        refine ⟨σ q * (p.kind q).slack, fun t ht => ?_⟩
        rw [h.slk t j ht (by omega) h2, show srow j = q by omega]
        by_cases et : t = q
        · rw [if_pos et, if_pos et, Int.mul_one, et]
        · rw [if_neg et, if_neg et, Int.mul_zero]
      · split at hc
        · rename_i h1 h2 h3
          refine ⟨1, fun t ht => ?_⟩
          rw [Int.one_mul, ← h.art t q ht hq, show F + q = j by omega]
        · omega
  by_cases h1 : cls p F srow j < p.n
  · have : j = j' := by
      unfold cls at e h1
      split at h1
      · rename_i hn
        rw [if_pos hn] at e
        split at e
        · exact e
        · split at e
          · omega
          · split at e <;> omega
      · split at h1
        · omega
        · split at h1 <;> omega
    subst this
    exact ⟨fun t => A t j, 1, 1, fun t _ => by simp, fun t _ => by simp⟩
  · by_cases h2 : cls p F srow j < p.n + p.m
    · obtain ⟨α, ha⟩ := unit j (cls p F srow j - p.n) hj (by omega) (by omega)
      obtain ⟨β, hb⟩ := unit j' (cls p F srow j - p.n) hj' (by omega) (by omega)
      exact ⟨_, α, β, ha, hb⟩
    · have r : ∀ j, j < F + p.m + 1 → ¬ cls p F srow j < p.n + p.m → j = F + p.m := fun j hj hc => by
        unfold cls at hc
        split at hc
        · omega
        · split at hc
          · rename_i q1 q2
            have := h.slt j (by omega) q2
            omega
          · split at hc <;> omega
      have e1 := r j hj h2
      have e2 := r j' hj' (by rw [← e]; exact h2)
      rw [e1, e2]
      exact ⟨fun t => A t (F + p.m), 1, 1, fun t _ => by simp, fun t _ => by simp⟩
theorem phi_cls (h : Form p A F σ srow scol) {b : Nat → Nat} (hb : ∀ k, k < p.m → b k < F + p.m + 1) {i k : Nat} (hi : i < p.m) (hk : k < p.m) (hik : i ≠ k) (e : cls p F srow (b i) = cls p F srow (b k)) : phi A p.m b = 0 := by
  obtain ⟨u, α, β, h1, h2⟩ := h.cls_same (hb i hi) (hb k hk) e
  have e1 : phi A p.m b = D p.m (setC (setC (fun t q => A t (b q)) i fun t => α * u t) k fun t => β * u t) := D_congr fun t q ht _ => by
    unfold setC
    by_cases e2 : q = k
    · subst e2; rw [if_pos rfl, h2 t ht]
    · rw [if_neg e2]
      by_cases e3 : q = i
      · subst e3; rw [if_pos rfl, h1 t ht]
      · rw [if_neg e3]
  have l1 := D_lin (M := setC (fun t q => A t (b q)) i fun t => α * u t) β 0 u (fun _ => 0) hk
  simp only [Int.zero_mul, Int.add_zero] at l1
  have com : D p.m (setC (setC (fun t q => A t (b q)) i fun t => α * u t) k u) = D p.m (setC (setC (fun t q => A t (b q)) k u) i fun t => α * u t) := D_congr fun t q _ _ => by
    unfold setC
    by_cases e2 : q = k
    · rw [if_pos e2, if_neg (by omega), if_pos e2]
    · by_cases e3 : q = i
      · rw [if_neg e2, if_pos e3, if_pos e3]
      · rw [if_neg e2, if_neg e3, if_neg e3, if_neg e2]
  have l2 := D_lin (M := setC (fun t q => A t (b q)) k u) α 0 u (fun _ => 0) hi
  simp only [Int.zero_mul, Int.add_zero] at l2
  have z : D p.m (setC (setC (fun t q => A t (b q)) k u) i u) = 0 := D_alt hi hk hik fun t _ => by rw [setC_same, setC_ne _ _ _ (fun e => hik e.symm), setC_same]
  rw [e1, l1, com, l2, z]
  simp
theorem cls_lt (h : Form p A F σ srow scol) {j : Nat} : cls p F srow j < p.n + p.m + 1 := by
  unfold cls
  split
  · omega
  · split
    · have := h.slt j (by omega) (by assumption)
      omega
    · split <;> omega
/-- **No form is greater than the product of the factors.** -/
theorem phi_le (h : Form p A F σ srow scol) {b : Nat → Nat} (hb : ∀ k, k < p.m → b k < F + p.m + 1) : (phi A p.m b).natAbs ≤ prd p.m (fac p) := by
  by_cases hi : ∀ i k, i < p.m → k < p.m → cls p F srow (b i) = cls p F srow (b k) → i = k
  · refine D_le fun t ht => ?_
    rw [← wt_sum ht]
    refine Int.le_trans (sm_le (g := fun k => wt p t (cls p F srow (b k))) fun k hk => h.wt ht (hb k hk)) (sm_inj (w := wt p t) (fun q => ?_) (fun k hk => cls_lt h) hi)
    unfold wt
    split
    · omega
    · split
      · split <;> omega
      · omega
  · have : ∃ i k, i < p.m ∧ k < p.m ∧ cls p F srow (b i) = cls p F srow (b k) ∧ i ≠ k := Classical.byContradiction fun hno => hi fun i k h1 h2 h3 => Classical.byContradiction fun h4 => hno ⟨i, k, h1, h2, h3, h4⟩
    obtain ⟨i, k, h1, h2, h3, h4⟩ := this
    rw [phi_cls h hb h1 h2 h4 h3]
    simp
/-- .. and with an artificial column, without that row's factor. -/
theorem phi_art (h : Form p A F σ srow scol) {b : Nat → Nat} (hb : ∀ k, k < p.m → b k < F + p.m + 1) {k0 t0 : Nat} (hk0 : k0 < p.m) (ht0 : t0 < p.m) (hu : b k0 = F + t0) : (phi A p.m b).natAbs * fac p t0 ≤ prd p.m (fac p) := by
  rw [← prd_up ht0]
  refine Nat.mul_le_mul_right _ ?_
  by_cases hi : ∀ i k, i < p.m → k < p.m → cls p F srow (b i) = cls p F srow (b k) → i = k
  · have hc := D_clear_all (M := fun t k => A t (b k)) (t0 := t0) hk0 fun i hi => by rw [hu, h.art i t0 hi ht0]
    unfold phi
    rw [hc]
    refine D_le fun t ht => ?_
    by_cases et : t = t0
    · subst et
      rw [up_same, sm_one (q := k0) hk0 fun k hk hkk => by rw [if_pos ⟨hkk, rfl⟩]; rfl, if_neg (fun e => e.1 rfl), hu, h.art t t ht ht, if_pos rfl]
      decide
    · rw [up_ne _ _ et, ← wt_sum ht]
      refine Int.le_trans (sm_le (g := fun k => wt p t (cls p F srow (b k))) fun k hk => ?_) (sm_inj (w := wt p t) (fun q => ?_) (fun k hk => cls_lt h) hi)
      · rw [if_neg (fun e => et e.2)]
        exact h.wt ht (hb k hk)
      · unfold wt
        split
        · omega
        · split
          · split <;> omega
          · omega
  · have : ∃ i k, i < p.m ∧ k < p.m ∧ cls p F srow (b i) = cls p F srow (b k) ∧ i ≠ k := Classical.byContradiction fun hno => hi fun i k h1 h2 h3 => Classical.byContradiction fun h4 => hno ⟨i, k, h1, h2, h3, h4⟩
    obtain ⟨i, k, h1, h2, h3, h4⟩ := this
    rw [phi_cls h hb h1 h2 h4 h3]
    simp
theorem Form.cell_le (h : Form p A F σ srow scol) {s : Tabl} {g : Int} (ht : Tab A p.m (F + p.m + 1) s g) {i j : Nat} (hi : i < p.m) (hj : j < F + p.m + 1) : (s.T i j).natAbs ≤ prd p.m (fac p) := by
  rw [ht.cell i j hi hj, abs_sgn ht.unit]
  refine phi_le h fun k hk => ?_
  unfold up
  split
  · exact hj
  · exact ht.bas k hk
theorem Form.den_le (h : Form p A F σ srow scol) {s : Tabl} {g : Int} (ht : Tab A p.m (F + p.m + 1) s g) : s.d.natAbs ≤ prd p.m (fac p) := by
  rw [ht.den, abs_sgn ht.unit]
  exact phi_le h ht.bas
theorem Form.art_le (h : Form p A F σ srow scol) {s : Tabl} {g : Int} (ht : Tab A p.m (F + p.m + 1) s g) {i t : Nat} (hi : i < p.m) (hti : t < p.m) : (s.T i (F + t)).natAbs * fac p t ≤ prd p.m (fac p) := by
  rw [ht.cell i _ hi (by omega), abs_sgn ht.unit]
  refine phi_art h (fun k hk => ?_) hi hti (up_same _ _ _)
  unfold up
  split
  · omega
  · exact ht.bas k hk
end
end Go.Proofs.YtdeaaonppokgkaaGreat.Lp
namespace Go.Proofs.YtdeaaonppokgkaaGreat.Lp
section
variable {p : Lp} {A : Nat → Nat → Int} {F : Nat} {σ : Nat → Int} {srow scol : Nat → Nat}
/-- The first table. -/
def firstT (A : Nat → Nat → Int) (F : Nat) : Tabl := ⟨A, fun i => F + i, 1⟩
theorem Form.first (h : Form p A F σ srow scol) : Feas A p.m (F + p.m) (firstT A F) := by
  have hu : (phi A p.m fun i => F + i).natAbs = 1 := D_unit fun i j hi hj => h.art i j hi hj
  obtain ⟨g, hg, hg1⟩ : ∃ g : Int, (g = 1 ∨ g = -1) ∧ g * phi A p.m (fun i => F + i) = 1 := by
    rcases Int.natAbs_eq_iff.1 hu with e | e
    · exact ⟨1, .inl rfl, by rw [e]; rfl⟩
    · exact ⟨-1, .inr rfl, by rw [e]; rfl⟩
  refine ⟨⟨g, ⟨Int.one_pos, hg, fun k hk => ?_, fun j t hj ht => ?_, hg1.symm, fun i j hi hj => ?_⟩⟩, fun k hk => ?_, fun k hk => ?_⟩
  · show F + k < _; omega
  · show 1 * A t j = sm p.m fun k => A k j * A t (F + k)
    rw [sm_one (q := t) ht fun k hk hkt => by rw [h.art t k ht hk, if_neg (fun e => hkt e.symm), Int.mul_zero], h.art t t ht ht, if_pos rfl]
    omega
  · show A i j = g * phi A p.m (up (fun i => F + i) i j)
    rw [phi_set]
    have e1 : D p.m (setC (fun t k => A t (F + k)) i fun t => A t j) = D p.m (setC (fun t k => A t (F + k)) i fun t => sm p.m fun q => A q j * A t (F + q)) := D_congr fun t k ht _ => by
      unfold setC
      split
      · show A t j = sm p.m fun q => A q j * A t (F + q)
        rw [sm_one (q := t) ht fun q hq hqt => by rw [h.art t q ht hq, if_neg (fun e => hqt e.symm), Int.mul_zero], h.art t t ht ht, if_pos rfl, Int.mul_one]
      · rfl
    rw [e1, D_sum hi (fun q => A q j) (fun q t => A t (F + q)) p.m, sm_one (q := i) hi fun q hq hqi => ?_]
    · have : D p.m (setC (fun t k => A t (F + k)) i fun t => A t (F + i)) = phi A p.m fun i => F + i := D_set_id (fun t k => A t (F + k)) i p.m
      rw [this, Int.mul_left_comm, hg1, Int.mul_one]
    · have : D p.m (setC (fun t k => A t (F + k)) i fun t => A t (F + q)) = 0 := D_alt hi hq (fun e => hqi e.symm) fun t _ => by rw [setC_same, setC_ne _ _ _ hqi]
      rw [this, Int.mul_zero]
  · show F + k < _; omega
  · show 0 ≤ A k (F + p.m)
    rw [h.right k hk]; exact h.rnn k hk
/-- The costs of the first phase. -/
def artC (F m j : Nat) : Int := if F ≤ j ∧ j < F + m then 1 else 0
theorem art_sum {m F : Nat} {s : Tabl} (hb : ∀ k, k < m → s.b k < F + m) (j : Nat) : wsum m (artC F m) s j = sm m fun k => if F ≤ s.b k then s.T k j else 0 := sm_congr fun k hk => by
  unfold artC
  have := hb k hk
  by_cases e : F ≤ s.b k
  · rw [if_pos ⟨e, this⟩, if_pos e, Int.one_mul]
  · rw [if_neg (fun h => e h.1), if_neg e, Int.zero_mul]
theorem rc_art {m F : Nat} {s : Tabl} {j : Nat} (hj : j < F ∨ F + m ≤ j) : rc m (artC F m) s j = - wsum m (artC F m) s j := by
  unfold rc wsum
  have : artC F m j = 0 := by unfold artC; rw [if_neg (by omega)]
  rw [this]; omega
/-- In the first phase some row always leaves. -/
theorem phase1_row {s : Tabl} {m F : Nat} (hf : Feas A m (F + m) s) (he : 0 ≤ phE m F (artC F m) s) : 0 ≤ phR m (F + m) F (artC F m) s := by
  obtain ⟨g, ht⟩ := hf.tab
  rcases ent_spec (p := fun j => decide (rc m (artC F m) s j < 0)) (F := F) with ⟨q1, _⟩ | ⟨e, q1, q2, q3, _⟩
  · unfold phE at he; omega
  have hee : (phE m F (artC F m) s).toNat = e := by unfold phE; rw [q2]; rfl
  unfold phR
  rw [hee]
  rcases lv_spec (R := F + m) (s := s) (e := e) (q := m) fun i k hi hk => ht.inj hi hk with ⟨_, q6⟩ | ⟨r, _, q6, _⟩
  · have h1 : rc m (artC F m) s e < 0 := by simpa using q3
    rw [rc_art (.inl q1), art_sum hf.bas] at h1
    have h2 : 0 ≤ sm m fun k => - (if F ≤ s.b k then s.T k e else 0) := sm_nonneg fun k hk => by
      have := q6 k hk
      split <;> omega
    rw [sm_neg] at h2
    omega
  · rw [q6]; omega
/-- Artificial variables leave, where that is possible. -/
def drE (F : Nat) (s : Tabl) (i : Nat) : Int := ent (fun j => decide (s.T i j ≠ 0)) F
def drS (F : Nat) (s : Tabl) : Nat → Tabl
  | 0 => s
  | i + 1 => if F ≤ (drS F s i).b i ∧ 0 ≤ drE F (drS F s i) i then pivT (drS F s i) i (drE F (drS F s i) i).toNat else drS F s i
structure Driven (A : Nat → Nat → Int) (m F : Nat) (s : Tabl) (q : Nat) : Prop where
  feas : Feas A m (F + m) s
  noart : NoArt m F (F + m) s
  stuck : ∀ k, k < q → k < m → F ≤ s.b k → ∀ j, j < F → s.T k j = 0
theorem zero_of {d x : Int} (hd : 0 < d) (h : d * x = 0) : x = 0 := by
  rcases Int.mul_eq_zero.1 h with q | q
  · omega
  · exact q
theorem drive {s : Tabl} {m F : Nat} (h : Driven A m F s 0) : ∀ q, q ≤ m → Driven A m F (drS F s q) q
  | 0, _ => h
  | q + 1, hq => by
    have ih := drive h q (by omega)
    rw [drS]
    generalize drS F s q = u at ih
    obtain ⟨g, ht⟩ := ih.feas.tab
    have hqm : q < m := by omega
    by_cases hb : F ≤ u.b q ∧ 0 ≤ drE F u q
    · rw [if_pos hb]
      rcases ent_spec (p := fun j => decide (u.T q j ≠ 0)) (F := F) with ⟨q1, _⟩ | ⟨e, q1, q2, q3, _⟩
      · have := hb.2; unfold drE at this; omega
      have hee : (drE F u q).toNat = e := by unfold drE; rw [q2]; rfl
      rw [hee]
      have h0 : u.T q e ≠ 0 := by simpa using q3
      have hst := pivT_step ht hqm (show e < F + m + 1 by omega)
      have htab := pivT_tab ht hqm (show e < F + m + 1 by omega) h0
      have hqz := ih.noart q hqm hb.1
      have hzz : 0 < zOf u q e * u.T q e := by unfold zOf; split <;> omega
      have hd := ht.pos
      have rowq : ∀ j, j < F + m + 1 → (pivT u q e).T q j = zOf u q e * u.T q j := hst.row
      have right : ∀ k, k < m → k ≠ q → u.d * (pivT u q e).T k (F + m) = zOf u q e * u.T q e * u.T k (F + m) := fun k hk hkq => by
        rw [hst.rest k (F + m) hk hkq (by omega), hqz]
        grind
      have hbk : ∀ k, k < m → (pivT u q e).b k = up u.b q e k := hst.b
      refine ⟨⟨⟨_, htab⟩, fun k hk => ?_, fun k hk => ?_⟩, fun k hk hbk2 => ?_, fun k hkq hk hbk2 j hj => ?_⟩
      · rw [hbk k hk]
        unfold up
        split
        · omega
        · exact ih.feas.bas k hk
      · by_cases ek : k = q
        · subst ek
          rw [rowq _ (by omega), hqz, Int.mul_zero]
          exact Int.le_refl _
        · have h1 := right k hk ek
          have h2 := Int.mul_nonneg (Int.le_of_lt hzz) (ih.feas.right k hk)
          rcases Int.lt_or_le ((pivT u q e).T k (F + m)) 0 with h3 | h3
          · have := Int.mul_pos hd (show 0 < - (pivT u q e).T k (F + m) by omega)
            rw [Int.mul_neg] at this
            omega
          · exact h3
      · rw [hbk k hk] at hbk2
        by_cases ek : k = q
        · subst ek; rw [up_same] at hbk2; omega
        · rw [up_ne _ _ ek] at hbk2
          have h1 := right k hk ek
          rw [ih.noart k hk hbk2, Int.mul_zero] at h1
          exact zero_of hd h1
      · rw [hbk k hk] at hbk2
        by_cases ek : k = q
        · subst ek; rw [up_same] at hbk2; omega
        · rw [up_ne _ _ ek] at hbk2
          have h1 := hst.rest k j hk ek (by omega)
          rw [ih.stuck k (by omega) hk hbk2 j hj, ih.stuck k (by omega) hk hbk2 e q1] at h1
          simp only [Int.zero_mul, Int.sub_zero, Int.mul_zero] at h1
          exact zero_of hd h1
    · rw [if_neg hb]
      refine ⟨ih.feas, ih.noart, fun k hkq hk hbk2 j hj => ?_⟩
      rcases Nat.lt_succ_iff_lt_or_eq.1 hkq with h1 | rfl
      · exact ih.stuck k h1 hk hbk2 j hj
      · rcases ent_spec (p := fun j => decide (u.T k j ≠ 0)) (F := F) with ⟨_, q2⟩ | ⟨e, _, q2, _⟩
        · simpa using q2 j hj
        · exact absurd ⟨hbk2, by unfold drE; rw [q2]; omega⟩ hb
/-- A step of the second phase moves no artificial variable. -/
theorem driven_step {s s' : Tabl} {m F e r : Nat} {c : Nat → Int} (h : Driven A m F s m) (hb : BStep m (F + m) F c s s' e r) : Driven A m F s' m := by
  obtain ⟨g, ht⟩ := h.feas.tab
  have hd := ht.pos
  have hlt := hb.lt
  have key : ∀ k, k < m → F ≤ s'.b k → k ≠ r ∧ F ≤ s.b k := fun k hk hf => by
    rw [hb.step.b k hk] at hf
    by_cases ek : k = r
    · subst ek; rw [up_same] at hf; omega
    · rw [up_ne _ _ ek] at hf; exact ⟨ek, hf⟩
  refine ⟨h.feas.next (by omega) hb, fun k hk hf => ?_, fun k _ hk hf j hj => ?_⟩
  · obtain ⟨ek, hf2⟩ := key k hk hf
    have h1 := hb.step.rest k (F + m) hk ek (by omega)
    rw [h.noart k hk hf2, h.stuck k hk hk hf2 e hlt] at h1
    simp only [Int.zero_mul, Int.sub_zero, Int.mul_zero] at h1
    exact zero_of hd h1
  · obtain ⟨ek, hf2⟩ := key k hk hf
    have h1 := hb.step.rest k j hk ek (by omega)
    rw [h.stuck k hk hk hf2 j hj, h.stuck k hk hk hf2 e hlt] at h1
    simp only [Int.zero_mul, Int.sub_zero, Int.mul_zero] at h1
    exact zero_of hd h1
theorem driven_phase {s : Tabl} {m F K : Nat} {c : Nat → Int} (h : Driven A m F s m) (hg : ∀ n, n < K → Goes m (F + m) F c (phS m (F + m) F c s n)) : ∀ n, n ≤ K → Driven A m F (phS m (F + m) F c s n) m
  | 0, _ => h
  | n + 1, hn => by
    have ih := driven_phase h hg n (by omega)
    exact driven_step ih (goes_step (by omega) ih.feas (hg n (by omega)))
theorem noart_of {s : Tabl} {m F : Nat} (hf : Feas A m (F + m) s) (h : ¬ 0 < wsum m (artC F m) s (F + m)) : NoArt m F (F + m) s := fun k hk hb => by
  rw [art_sum hf.bas] at h
  have h0 : ∀ k, k < m → 0 ≤ (if F ≤ s.b k then s.T k (F + m) else 0) := fun k hk => by
    have := hf.right k hk
    split <;> omega
  have h1 := hf.right k hk
  rcases Int.lt_or_le 0 (s.T k (F + m)) with h2 | h2
  · exfalso
    refine h ?_
    have : ∀ n, n ≤ m → (k < n → 0 < sm n fun k => if F ≤ s.b k then s.T k (F + m) else 0) := fun n => by
      induction n with
      | zero => intro _ h; omega
      | succ n ih =>
        intro hn hkn
        rw [sm]
        have := h0 n (by omega)
        rcases Nat.lt_succ_iff_lt_or_eq.1 hkn with h3 | h3
        · have := ih (by omega) h3
          omega
        · subst h3
          have := sm_nonneg (f := fun k => if F ≤ s.b k then s.T k (F + m) else 0) (n := k) fun q hq => h0 q (by omega)
          rw [if_pos hb]
          omega
    exact this m (Nat.le_refl _) hk
  · omega
end
end Go.Proofs.YtdeaaonppokgkaaGreat.Lp
