/- Plain law: the steps as they are made; both phases end. -/
import Derived.Test.YtmefgachdnlaoaaPD
namespace Go.Proofs.Ytmefgachdnlaoaa.Lp
/-- A step at a row and a column. -/
def pivT (s : Tabl) (r e : Nat) : Tabl :=
  let z : Int := if s.T r e < 0 then -1 else 1
  ⟨fun i j => if i = r then z * s.T r j else z * ((s.T i j * s.T r e - s.T i e * s.T r j) / s.d), up s.b r e, z * s.T r e⟩
def zOf (s : Tabl) (r e : Nat) : Int := if s.T r e < 0 then -1 else 1
section
variable {A : Nat → Nat → Int} {m N R F : Nat} {c : Nat → Int}
theorem pivT_step {s : Tabl} {g : Int} (h : Tab A m N s g) {r e : Nat} (hr : r < m) (he : e < N) : Step s (pivT s r e) m N r e (zOf s r e) := by
  refine ⟨?_, rfl, fun k _ => rfl, fun j _ => ?_, fun i j hi hir hj => ?_⟩
  · unfold zOf; split
    · exact .inr rfl
    · exact .inl rfl
  · show (if r = r then _ else _) = _
    rw [if_pos rfl]; rfl
  · show s.d * (if i = r then _ else _) = _
    rw [if_neg hir, ← h.exact hr he hi hj hir, Int.mul_ediv_cancel_left _ (by have := h.pos; omega)]
    show s.d * (zOf s r e * _) = _
    rw [Int.mul_left_comm]
theorem pivT_tab {s : Tabl} {g : Int} (h : Tab A m N s g) {r e : Nat} (hr : r < m) (he : e < N) (h0 : s.T r e ≠ 0) : Tab A m N (pivT s r e) (g * zOf s r e) :=
  h.step hr he (pivT_step h hr he) (by
    show 0 < zOf s r e * s.T r e
    unfold zOf
    split <;> omega)
/-- The row that leaves. -/
def lv (R : Nat) (s : Tabl) (e : Nat) : Nat → Int
  | 0 => -1
  | i + 1 =>
    if s.T i e ≤ 0 then lv R s e i else
    if lv R s e i < 0 then i else
    if s.T i R * s.T (lv R s e i).toNat e < s.T (lv R s e i).toNat R * s.T i e ∨ (s.T i R * s.T (lv R s e i).toNat e = s.T (lv R s e i).toNat R * s.T i e ∧ s.b i < s.b (lv R s e i).toNat) then i else lv R s e i
/-- A row comes ahead of another one. -/
def Ahead (R : Nat) (s : Tabl) (e r i : Nat) : Prop := s.T r R * s.T i e < s.T i R * s.T r e ∨ (s.T r R * s.T i e = s.T i R * s.T r e ∧ s.b r < s.b i)
theorem mul_lt {a b k : Int} (h : a < b) (hk : 0 < k) : a * k < b * k := Int.mul_lt_mul_of_pos_right h hk
theorem Ahead.trans {s : Tabl} {e r i k : Nat} (h1 : Ahead R s e r i) (h2 : Ahead R s e i k) (hr : 0 < s.T r e) (hi : 0 < s.T i e) (hk : 0 < s.T k e) : Ahead R s e r k := by
  unfold Ahead at *
  have key : ∀ {x y : Int}, x * s.T i e < y * s.T i e → x < y := fun h => Int.lt_of_mul_lt_mul_right h (Int.le_of_lt hi)
  rcases h1 with h1 | ⟨h1, b1⟩ <;> rcases h2 with h2 | ⟨h2, b2⟩
  · left
    refine key ?_
    have q1 := mul_lt h1 hk
    have q2 := mul_lt h2 hr
    have e1 : s.T r R * s.T i e * s.T k e = s.T r R * s.T k e * s.T i e := by grind
    have e2 : s.T i R * s.T r e * s.T k e = s.T i R * s.T k e * s.T r e := by grind
    have e3 : s.T k R * s.T i e * s.T r e = s.T k R * s.T r e * s.T i e := by grind
    omega
  · left
    refine key ?_
    have q1 := mul_lt h1 hk
    have q2 : s.T i R * s.T k e * s.T r e = s.T k R * s.T i e * s.T r e := by rw [h2]
    have e1 : s.T r R * s.T i e * s.T k e = s.T r R * s.T k e * s.T i e := by grind
    have e2 : s.T i R * s.T r e * s.T k e = s.T i R * s.T k e * s.T r e := by grind
    have e3 : s.T k R * s.T i e * s.T r e = s.T k R * s.T r e * s.T i e := by grind
    omega
  · left
    refine key ?_
    have q1 : s.T r R * s.T i e * s.T k e = s.T i R * s.T r e * s.T k e := by rw [h1]
    have q2 := mul_lt h2 hr
    have e1 : s.T r R * s.T i e * s.T k e = s.T r R * s.T k e * s.T i e := by grind
    have e2 : s.T i R * s.T r e * s.T k e = s.T i R * s.T k e * s.T r e := by grind
    have e3 : s.T k R * s.T i e * s.T r e = s.T k R * s.T r e * s.T i e := by grind
    omega
  · right
    refine ⟨?_, by omega⟩
    have q1 : s.T r R * s.T i e * s.T k e = s.T i R * s.T r e * s.T k e := by rw [h1]
    have q2 : s.T i R * s.T k e * s.T r e = s.T k R * s.T i e * s.T r e := by rw [h2]
    have e1 : s.T r R * s.T i e * s.T k e = s.T r R * s.T k e * s.T i e := by grind
    have e2 : s.T i R * s.T r e * s.T k e = s.T i R * s.T k e * s.T r e := by grind
    have e3 : s.T k R * s.T i e * s.T r e = s.T k R * s.T r e * s.T i e := by grind
    exact Int.eq_of_mul_eq_mul_right (show s.T i e ≠ 0 by omega) (by omega)
theorem lv_spec {s : Tabl} {e : Nat} : ∀ {q : Nat}, (∀ i k, i < q → k < q → s.b i = s.b k → i = k) → (lv R s e q = -1 ∧ ∀ i, i < q → s.T i e ≤ 0) ∨ ∃ r : Nat, r < q ∧ lv R s e q = r ∧ 0 < s.T r e ∧ ∀ i, i < q → 0 < s.T i e → i = r ∨ Ahead R s e r i
  | 0, _ => .inl ⟨rfl, fun i hi => by omega⟩
  | q + 1, hb => by
    rw [lv]
    rcases lv_spec (q := q) fun i k hi hk => hb i k (by omega) (by omega) with ⟨h1, h2⟩ | ⟨r, h1, h2, h3, h4⟩
    · by_cases hq : s.T q e ≤ 0
      · rw [if_pos hq]
        refine .inl ⟨h1, fun i hi => ?_⟩
        rcases Nat.lt_succ_iff_lt_or_eq.1 hi with h | rfl
        · exact h2 i h
        · exact hq
      · rw [if_neg hq, if_pos (by omega)]
        refine .inr ⟨q, by omega, rfl, by omega, fun i hi hp => ?_⟩
        rcases Nat.lt_succ_iff_lt_or_eq.1 hi with h | rfl
        · have := h2 i h; omega
        · exact .inl rfl
    · by_cases hq : s.T q e ≤ 0
      · rw [if_pos hq]
        refine .inr ⟨r, by omega, h2, h3, fun i hi hp => ?_⟩
        rcases Nat.lt_succ_iff_lt_or_eq.1 hi with h | rfl
        · exact h4 i h hp
        · omega
      · rw [if_neg hq, if_neg (by omega), h2]
        simp only [Int.toNat_natCast]
        have hq : 0 < s.T q e := by omega
        by_cases hA : Ahead R s e q r
        · rw [if_pos (show _ ∨ _ from hA)]
          refine .inr ⟨q, by omega, rfl, hq, fun i hi hp => ?_⟩
          rcases Nat.lt_succ_iff_lt_or_eq.1 hi with h | rfl
          · rcases h4 i h hp with rfl | h5
            · exact .inr hA
            · exact .inr (hA.trans h5 hq h3 hp)
          · exact .inl rfl
        · rw [if_neg (show ¬ (_ ∨ _) from hA)]
          refine .inr ⟨r, by omega, rfl, h3, fun i hi hp => ?_⟩
          rcases Nat.lt_succ_iff_lt_or_eq.1 hi with h | rfl
          · exact h4 i h hp
          · refine .inr ?_
            unfold Ahead at hA ⊢
            rcases Int.lt_trichotomy (s.T r R * s.T i e) (s.T i R * s.T r e) with h5 | h5 | h5
            · exact .inl h5
            · refine .inr ⟨h5, ?_⟩
              rcases Nat.lt_trichotomy (s.b r) (s.b i) with h6 | h6 | h6
              · exact h6
              · have := hb r i (by omega) (by omega) h6; omega
              · exact absurd (.inr ⟨h5.symm, h6⟩) hA
            · exact absurd (.inl h5) hA
/-- The first column that may enter. -/
def ent (p : Nat → Bool) : Nat → Int
  | 0 => -1
  | j + 1 => if 0 ≤ ent p j then ent p j else if p j = true then j else -1
theorem ent_spec {p : Nat → Bool} : ∀ {F : Nat}, (ent p F = -1 ∧ ∀ j, j < F → p j = false) ∨ ∃ e : Nat, e < F ∧ ent p F = e ∧ p e = true ∧ ∀ j, j < e → p j = false
  | 0 => .inl ⟨rfl, fun j hj => by omega⟩
  | F + 1 => by
    rw [ent]
    rcases ent_spec (p := p) (F := F) with ⟨h1, h2⟩ | ⟨e, h1, h2, h3, h4⟩
    · rw [if_neg (by omega)]
      cases hp : p F with
      | true => exact .inr ⟨F, by omega, by simp, hp, h2⟩
      | false =>
        refine .inl ⟨by simp, fun j hj => ?_⟩
        rcases Nat.lt_succ_iff_lt_or_eq.1 hj with h | rfl
        · exact h2 j h
        · exact hp
    · rw [if_pos (by omega)]
      exact .inr ⟨e, by omega, h2, h3, h4⟩
/-- The steps of a phase. -/
def phE (m F : Nat) (c : Nat → Int) (s : Tabl) : Int := ent (fun j => decide (rc m c s j < 0)) F
def phR (m R F : Nat) (c : Nat → Int) (s : Tabl) : Int := lv R s (phE m F c s).toNat m
def phS (m R F : Nat) (c : Nat → Int) (s : Tabl) : Nat → Tabl
  | 0 => s
  | n + 1 => let q := phS m R F c s n; pivT q (phR m R F c q).toNat (phE m F c q).toNat
/-- Where a phase goes on. -/
def Goes (m R F : Nat) (c : Nat → Int) (s : Tabl) : Prop := 0 ≤ phE m F c s ∧ 0 ≤ phR m R F c s
instance {s : Tabl} : Decidable (Goes m R F c s) := by unfold Goes; exact inferInstance
theorem goes_step {s : Tabl} (hF : F ≤ R) (h : Feas A m R s) (hg : Goes m R F c s) : BStep m R F c s (pivT s (phR m R F c s).toNat (phE m F c s).toNat) (phE m F c s).toNat (phR m R F c s).toNat := by
  obtain ⟨g, ht⟩ := h.tab
  obtain ⟨h1, h2⟩ := hg
  rcases ent_spec (p := fun j => decide (rc m c s j < 0)) (F := F) with ⟨q1, _⟩ | ⟨e, q1, q2, q3, q4⟩
  · unfold phE at h1; omega
  have he : (phE m F c s).toNat = e := by unfold phE; rw [q2]; rfl
  rcases lv_spec (R := R) (s := s) (e := e) (q := m) fun i k hi hk => ht.inj hi hk with ⟨q5, _⟩ | ⟨r, q5, q6, q7, q8⟩
  · unfold phR at h2; rw [he] at h2; omega
  have hr : (phR m R F c s).toNat = r := by unfold phR; rw [he, q6]; rfl
  rw [he, hr]
  have hz : zOf s r e = 1 := by unfold zOf; rw [if_neg (by omega)]
  refine ⟨q1, by simpa using q3, fun j hj => by have := q4 j hj; simp at this; omega, q5, q7, fun i hi hp => ?_, ?_⟩
  · rcases q8 i hi hp with h | h
    · exact .inl h
    · exact .inr h
  · have := pivT_step ht q5 (show e < R + 1 by omega)
    rwa [hz] at this
/-- **A phase ends.** -/
theorem phase_ends {s : Tabl} (hF : F ≤ R) (hc : c R = 0) (h : Feas A m R s) : ∃ K, (∀ n, n < K → Goes m R F c (phS m R F c s n)) ∧ ¬ Goes m R F c (phS m R F c s K) ∧ ∀ n, n ≤ K → Feas A m R (phS m R F c s n) := by
  have feas : ∀ K, (∀ n, n < K → Goes m R F c (phS m R F c s n)) → ∀ n, n ≤ K → Feas A m R (phS m R F c s n) := fun K hK n => by
    induction n with
    | zero => intro _; exact h
    | succ n ih => intro hn; exact (ih (by omega)).next hF (goes_step hF (ih (by omega)) (hK n (by omega)))
  have main : ∀ K, (∀ n, n < K → Goes m R F c (phS m R F c s n)) ∨ ∃ K', (∀ n, n < K' → Goes m R F c (phS m R F c s n)) ∧ ¬ Goes m R F c (phS m R F c s K') := fun K => by
    induction K with
    | zero => exact .inl fun n hn => by omega
    | succ K ih =>
      rcases ih with h1 | h1
      · by_cases hg : Goes m R F c (phS m R F c s K)
        · refine .inl fun n hn => ?_
          rcases Nat.lt_succ_iff_lt_or_eq.1 hn with h2 | rfl
          · exact h1 n h2
          · exact hg
        · exact .inr ⟨K, h1, hg⟩
      · exact .inr h1
  rcases main (R ^ m) with h1 | ⟨K, h1, h2⟩
  · have := bland (A := A) (s := phS m R F c s) (e := fun n => (phE m F c (phS m R F c s n)).toNat) (r := fun n => (phR m R F c (phS m R F c s n)).toNat) (K := R ^ m) hF hc h fun n hn => goes_step hF (feas _ h1 n (by omega)) (h1 n hn)
    omega
  · exact ⟨K, h1, h2, feas K h1⟩
end
end Go.Proofs.Ytmefgachdnlaoaa.Lp
