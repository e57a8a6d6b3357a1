/- Plain law: the phases one after the other. -/
import Derived.Test.YtmefgachdnlaoaaPF
namespace Go.Proofs.Ytmefgachdnlaoaa.Lp
section
variable {p : Lp} {A : Nat → Nat → Int} {F : Nat} {σ : Nat → Int} {srow scol : Nat → Nat}
/-- The first table. -/
def firstT (A : Nat → Nat → Int) (F : Nat) : Tabl := ⟨A, fun i => F + i, 1⟩
theorem Form.first (h : Form p A F σ srow scol) : Feas A p.m (F + p.m) (firstT A F) := by
  have hu : (phi A p.m fun i => F + i).natAbs = 1 := D_unit fun i j hi hj => h.art i j hi hj
  obtain ⟨g, hg, hg1⟩ : ∃ g : Int, (g = 1 ∨ g = -1) ∧ g * phi A p.m (fun i => F + i) = 1 := by
    rcases Int.natAbs_eq_iff.1 hu with e | e
    · exact ⟨1, .inl rfl, by rw [e]; rfl⟩
    · exact ⟨-1, .inr rfl, by rw [e]; rfl⟩
  refine ⟨⟨g, ⟨Int.one_pos, hg, fun k hk => ?_, fun j t hj ht => ?_, hg1.symm, fun i j hi hj => ?_⟩⟩, fun k hk => ?_, fun k hk => ?_⟩
  · show F + k < _; omega
  · show 1 * A t j = sm p.m fun k => A k j * A t (F + k)
    rw [sm_one (q := t) ht fun k hk hkt => by rw [h.art t k ht hk, if_neg (fun e => hkt e.symm), Int.mul_zero], h.art t t ht ht, if_pos rfl]
    omega
  · show A i j = g * phi A p.m (up (fun i => F + i) i j)
    rw [phi_set]
    have e1 : D p.m (setC (fun t k => A t (F + k)) i fun t => A t j) = D p.m (setC (fun t k => A t (F + k)) i fun t => sm p.m fun q => A q j * A t (F + q)) := D_congr fun t k ht _ => by
      unfold setC
      split
      · show A t j = sm p.m fun q => A q j * A t (F + q)
        rw [sm_one (q := t) ht fun q hq hqt => by rw [h.art t q ht hq, if_neg (fun e => hqt e.symm), Int.mul_zero], h.art t t ht ht, if_pos rfl, Int.mul_one]
      · rfl
    rw [e1, D_sum hi (fun q => A q j) (fun q t => A t (F + q)) p.m, sm_one (q := i) hi fun q hq hqi => ?_]
    · have : D p.m (setC (fun t k => A t (F + k)) i fun t => A t (F + i)) = phi A p.m fun i => F + i := D_set_id (fun t k => A t (F + k)) i p.m
      rw [this, Int.mul_left_comm, hg1, Int.mul_one]
    · have : D p.m (setC (fun t k => A t (F + k)) i fun t => A t (F + q)) = 0 := D_alt hi hq (fun e => hqi e.symm) fun t _ => by rw [setC_same, setC_ne _ _ _ hqi]
      rw [this, Int.mul_zero]
  · show F + k < _; omega
  · show 0 ≤ A k (F + p.m)
    rw [h.right k hk]; exact h.rnn k hk
/-- The costs of the first phase. -/
def artC (F m j : Nat) : Int := if F ≤ j ∧ j < F + m then 1 else 0
theorem art_sum {m F : Nat} {s : Tabl} (hb : ∀ k, k < m → s.b k < F + m) (j : Nat) : wsum m (artC F m) s j = sm m fun k => if F ≤ s.b k then s.T k j else 0 := sm_congr fun k hk => by
  unfold artC
  have := hb k hk
  by_cases e : F ≤ s.b k
  · rw [if_pos ⟨e, this⟩, if_pos e, Int.one_mul]
  · rw [if_neg (fun h => e h.1), if_neg e, Int.zero_mul]
theorem rc_art {m F : Nat} {s : Tabl} {j : Nat} (hj : j < F ∨ F + m ≤ j) : rc m (artC F m) s j = - wsum m (artC F m) s j := by
  unfold rc wsum
  have : artC F m j = 0 := by unfold artC; rw [if_neg (by omega)]
  rw [this]; omega
/-- In the first phase some row always leaves. -/
theorem phase1_row {s : Tabl} {m F : Nat} (hf : Feas A m (F + m) s) (he : 0 ≤ phE m F (artC F m) s) : 0 ≤ phR m (F + m) F (artC F m) s := by
  obtain ⟨g, ht⟩ := hf.tab
  rcases ent_spec (p := fun j => decide (rc m (artC F m) s j < 0)) (F := F) with ⟨q1, _⟩ | ⟨e, q1, q2, q3, _⟩
  · unfold phE at he; omega
  have hee : (phE m F (artC F m) s).toNat = e := by unfold phE; rw [q2]; rfl
  unfold phR
  rw [hee]
  rcases lv_spec (R := F + m) (s := s) (e := e) (q := m) fun i k hi hk => ht.inj hi hk with ⟨_, q6⟩ | ⟨r, _, q6, _⟩
  · have h1 : rc m (artC F m) s e < 0 := by simpa using q3
    rw [rc_art (.inl q1), art_sum hf.bas] at h1
    have h2 : 0 ≤ sm m fun k => - (if F ≤ s.b k then s.T k e else 0) := sm_nonneg fun k hk => by
      have := q6 k hk
      split <;> omega
    rw [sm_neg] at h2
    omega
  · rw [q6]; omega
/-- Artificial variables leave, where that is possible. -/
def drE (F : Nat) (s : Tabl) (i : Nat) : Int := ent (fun j => decide (s.T i j ≠ 0)) F
def drS (F : Nat) (s : Tabl) : Nat → Tabl
  | 0 => s
  | i + 1 => if F ≤ (drS F s i).b i ∧ 0 ≤ drE F (drS F s i) i then pivT (drS F s i) i (drE F (drS F s i) i).toNat else drS F s i
structure Driven (A : Nat → Nat → Int) (m F : Nat) (s : Tabl) (q : Nat) : Prop where
  feas : Feas A m (F + m) s
  noart : NoArt m F (F + m) s
  stuck : ∀ k, k < q → k < m → F ≤ s.b k → ∀ j, j < F → s.T k j = 0
theorem zero_of {d x : Int} (hd : 0 < d) (h : d * x = 0) : x = 0 := by
  rcases Int.mul_eq_zero.1 h with q | q
  · omega
  · exact q
theorem drive {s : Tabl} {m F : Nat} (h : Driven A m F s 0) : ∀ q, q ≤ m → Driven A m F (drS F s q) q
  | 0, _ => h
  | q + 1, hq => by
    have ih := drive h q (by omega)
    rw [drS]
    generalize drS F s q = u at ih
    obtain ⟨g, ht⟩ := ih.feas.tab
    have hqm : q < m := by omega
    by_cases hb : F ≤ u.b q ∧ 0 ≤ drE F u q
    · rw [if_pos hb]
      rcases ent_spec (p := fun j => decide (u.T q j ≠ 0)) (F := F) with ⟨q1, _⟩ | ⟨e, q1, q2, q3, _⟩
      · have := hb.2; unfold drE at this; omega
      have hee : (drE F u q).toNat = e := by unfold drE; rw [q2]; rfl
      rw [hee]
      have h0 : u.T q e ≠ 0 := by simpa using q3
      have hst := pivT_step ht hqm (show e < F + m + 1 by omega)
      have htab := pivT_tab ht hqm (show e < F + m + 1 by omega) h0
      have hqz := ih.noart q hqm hb.1
      have hzz : 0 < zOf u q e * u.T q e := by unfold zOf; split <;> omega
      have hd := ht.pos
      have rowq : ∀ j, j < F + m + 1 → (pivT u q e).T q j = zOf u q e * u.T q j := hst.row
      have right : ∀ k, k < m → k ≠ q → u.d * (pivT u q e).T k (F + m) = zOf u q e * u.T q e * u.T k (F + m) := fun k hk hkq => by
        rw [hst.rest k (F + m) hk hkq (by omega), hqz]
        grind
      have hbk : ∀ k, k < m → (pivT u q e).b k = up u.b q e k := hst.b
      refine ⟨⟨⟨_, htab⟩, fun k hk => ?_, fun k hk => ?_⟩, fun k hk hbk2 => ?_, fun k hkq hk hbk2 j hj => ?_⟩
      · rw [hbk k hk]
        unfold up
        split
        · omega
        · exact ih.feas.bas k hk
      · by_cases ek : k = q
        · subst ek
          rw [rowq _ (by omega), hqz, Int.mul_zero]
          exact Int.le_refl _
        · have h1 := right k hk ek
          have h2 := Int.mul_nonneg (Int.le_of_lt hzz) (ih.feas.right k hk)
          rcases Int.lt_or_le ((pivT u q e).T k (F + m)) 0 with h3 | h3
          · have := Int.mul_pos hd (show 0 < - (pivT u q e).T k (F + m) by omega)
            rw [Int.mul_neg] at this
            omega
          · exact h3
      · rw [hbk k hk] at hbk2
        by_cases ek : k = q
        · subst ek; rw [up_same] at hbk2; omega
        · rw [up_ne _ _ ek] at hbk2
          have h1 := right k hk ek
          rw [ih.noart k hk hbk2, Int.mul_zero] at h1
          exact zero_of hd h1
      · rw [hbk k hk] at hbk2
        by_cases ek : k = q
        · subst ek; rw [up_same] at hbk2; omega
        · rw [up_ne _ _ ek] at hbk2
          have h1 := hst.rest k j hk ek (by omega)
          rw [ih.stuck k (by omega) hk hbk2 j hj, ih.stuck k (by omega) hk hbk2 e q1] at h1
          simp only [Int.zero_mul, Int.sub_zero, Int.mul_zero] at h1
          exact zero_of hd h1
    · rw [if_neg hb]
      refine ⟨ih.feas, ih.noart, fun k hkq hk hbk2 j hj => ?_⟩
      rcases Nat.lt_succ_iff_lt_or_eq.1 hkq with h1 | rfl
      · exact ih.stuck k h1 hk hbk2 j hj
      · rcases ent_spec (p := fun j => decide (u.T k j ≠ 0)) (F := F) with ⟨_, q2⟩ | ⟨e, _, q2, _⟩
        · simpa using q2 j hj
        · exact absurd ⟨hbk2, by unfold drE; rw [q2]; omega⟩ hb
/-- A step of the second phase moves no artificial variable. -/
theorem driven_step {s s' : Tabl} {m F e r : Nat} {c : Nat → Int} (h : Driven A m F s m) (hb : BStep m (F + m) F c s s' e r) : Driven A m F s' m := by
  obtain ⟨g, ht⟩ := h.feas.tab
  have hd := ht.pos
  have hlt := hb.lt
  have key : ∀ k, k < m → F ≤ s'.b k → k ≠ r ∧ F ≤ s.b k := fun k hk hf => by
    rw [hb.step.b k hk] at hf
    by_cases ek : k = r
    · subst ek; rw [up_same] at hf; omega
    · rw [up_ne _ _ ek] at hf; exact ⟨ek, hf⟩
  refine ⟨h.feas.next (by omega) hb, fun k hk hf => ?_, fun k _ hk hf j hj => ?_⟩
  · obtain ⟨ek, hf2⟩ := key k hk hf
    have h1 := hb.step.rest k (F + m) hk ek (by omega)
    rw [h.noart k hk hf2, h.stuck k hk hk hf2 e hlt] at h1
    simp only [Int.zero_mul, Int.sub_zero, Int.mul_zero] at h1
    exact zero_of hd h1
  · obtain ⟨ek, hf2⟩ := key k hk hf
    have h1 := hb.step.rest k j hk ek (by omega)
    rw [h.stuck k hk hk hf2 j hj, h.stuck k hk hk hf2 e hlt] at h1
    simp only [Int.zero_mul, Int.sub_zero, Int.mul_zero] at h1
    exact zero_of hd h1
theorem driven_phase {s : Tabl} {m F K : Nat} {c : Nat → Int} (h : Driven A m F s m) (hg : ∀ n, n < K → Goes m (F + m) F c (phS m (F + m) F c s n)) : ∀ n, n ≤ K → Driven A m F (phS m (F + m) F c s n) m
  | 0, _ => h
  | n + 1, hn => by
    have ih := driven_phase h hg n (by omega)
    exact driven_step ih (goes_step (by omega) ih.feas (hg n (by omega)))
theorem noart_of {s : Tabl} {m F : Nat} (hf : Feas A m (F + m) s) (h : ¬ 0 < wsum m (artC F m) s (F + m)) : NoArt m F (F + m) s := fun k hk hb => by
  rw [art_sum hf.bas] at h
  have h0 : ∀ k, k < m → 0 ≤ (if F ≤ s.b k then s.T k (F + m) else 0) := fun k hk => by
    have := hf.right k hk
    split <;> omega
  have h1 := hf.right k hk
  rcases Int.lt_or_le 0 (s.T k (F + m)) with h2 | h2
  · exfalso
    refine h ?_
    have : ∀ n, n ≤ m → (k < n → 0 < sm n fun k => if F ≤ s.b k then s.T k (F + m) else 0) := fun n => by
      induction n with
      | zero => intro _ h; omega
      | succ n ih =>
        intro hn hkn
        rw [sm]
        have := h0 n (by omega)
        rcases Nat.lt_succ_iff_lt_or_eq.1 hkn with h3 | h3
        · have := ih (by omega) h3
          omega
        · subst h3
          have := sm_nonneg (f := fun k => if F ≤ s.b k then s.T k (F + m) else 0) (n := k) fun q hq => h0 q (by omega)
          rw [if_pos hb]
          omega
    exact this m (Nat.le_refl _) hk
  · omega
end
end Go.Proofs.Ytmefgachdnlaoaa.Lp
