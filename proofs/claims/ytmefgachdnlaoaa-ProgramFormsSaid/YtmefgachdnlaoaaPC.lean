/- Plain law: Bland's rule ends. -/
import Derived.Test.YtmefgachdnlaoaaPB
namespace Go.Proofs.Ytmefgachdnlaoaa.Lp
section
variable {A : Nat → Nat → Int} {m R F : Nat} {c : Nat → Int}
/-- Reduced costs, times the denominator. -/
def rc (m : Nat) (c : Nat → Int) (s : Tabl) (j : Nat) : Int := c j * s.d - sm m fun k => c (s.b k) * s.T k j
theorem rc_basic {N : Nat} {s : Tabl} {g : Int} (h : Tab A m N s g) {i : Nat} (hi : i < m) : rc m c s (s.b i) = 0 := by
  unfold rc
  rw [sm_one (q := i) hi fun k hk hki => by rw [h.off hk hi (fun e => hki e.symm), Int.mul_zero], h.on hi]
  omega
theorem rc_step {N : Nat} {s s' : Tabl} {r e : Nat} (hr : r < m) (hs : Step s s' m N r e 1) {j : Nat} (hj : j < N) : s.d * rc m c s' j = rc m c s j * s.T r e - rc m c s e * s.T r j := by
  unfold rc
  have e0 : sm m (fun k => s.d * (c (s'.b k) * s'.T k j)) = sm m (up (fun k => s.T r e * (c (s.b k) * s.T k j) - s.T r j * (c (s.b k) * s.T k e)) r (c e * (s.d * s.T r j))) := sm_congr fun k hk => by
    by_cases ek : k = r
    · subst ek
      rw [up_same, hs.b k hk, up_same, hs.row j hj]
      grind
    · have := hs.rest k j hk ek hj
      rw [up_ne _ _ ek, hs.b k hk, up_ne _ _ ek]
      grind
  have hd := hs.d
  rw [Int.mul_sub, ← sm_mul, e0, sm_up hr, sm_sub, sm_mul, sm_mul, hd]
  grind
structure BStep (m R F : Nat) (c : Nat → Int) (s s' : Tabl) (e r : Nat) : Prop where
  lt : e < F
  neg : rc m c s e < 0
  first : ∀ j, j < e → 0 ≤ rc m c s j
  row : r < m
  pos : 0 < s.T r e
  min : ∀ i, i < m → 0 < s.T i e → i = r ∨ s.T r R * s.T i e < s.T i R * s.T r e ∨ (s.T r R * s.T i e = s.T i R * s.T r e ∧ s.b r < s.b i)
  step : Step s s' m (R + 1) r e 1
/-- A table with right-hand sides that are not negative. -/
structure Feas (A : Nat → Nat → Int) (m R : Nat) (s : Tabl) : Prop where
  tab : ∃ g, Tab A m (R + 1) s g
  bas : ∀ k, k < m → s.b k < R
  right : ∀ k, k < m → 0 ≤ s.T k R
theorem Feas.next {s s' : Tabl} {e r : Nat} (h : Feas A m R s) (hF : F ≤ R) (hb : BStep m R F c s s' e r) : Feas A m R s' := by
  obtain ⟨g, ht⟩ := h.tab
  have hd := ht.pos
  have hlt := hb.lt
  have hpos : 0 < s'.d := by rw [hb.step.d, Int.one_mul]; exact hb.pos
  refine ⟨⟨_, ht.step hb.row (by omega) hb.step hpos⟩, fun k hk => ?_, fun k hk => ?_⟩
  · rw [hb.step.b k hk]
    unfold up
    split
    · omega
    · exact h.bas k hk
  · by_cases ek : k = r
    · subst ek
      rw [hb.step.row R (by omega), Int.one_mul]
      exact h.right k hk
    · have := hb.step.rest k R hk ek (by omega)
      have h1 : 0 ≤ s.T k R * s.T r e - s.T k e * s.T r R := by
        have hr0 := h.right r hb.row
        have hk0 := h.right k hk
        have hp := hb.pos
        rcases Int.lt_or_le 0 (s.T k e) with h2 | h2
        · rcases hb.min k hk h2 with q | q | q
          · exact absurd q ek
          · rw [Int.mul_comm (s.T k e)]; omega
          · rw [Int.mul_comm (s.T k e)]; omega
        · have a1 := Int.mul_nonneg hk0 (Int.le_of_lt hp)
          have a2 := Int.mul_nonneg (a := - s.T k e) (b := s.T r R) (by omega) hr0
          rw [Int.neg_mul] at a2
          omega
      rw [Int.one_mul] at this
      rw [← this] at h1
      rcases Int.lt_or_le (s'.T k R) 0 with h3 | h3
      · have := Int.mul_pos hd (show 0 < - s'.T k R by omega)
        rw [Int.mul_neg] at this
        omega
      · exact h3
/-- A run of steps that comes back to where it began. -/
structure Cycle (A : Nat → Nat → Int) (m R F : Nat) (c : Nat → Int) (s : Nat → Tabl) (e r : Nat → Nat) (L : Nat) : Prop where
  pos : 0 < L
  le : F ≤ R
  cR : c R = 0
  feas : ∀ n, n ≤ L → Feas A m R (s n)
  step : ∀ n, n < L → BStep m R F c (s n) (s (n + 1)) (e n) (r n)
  bas : ∀ k, k < m → (s L).b k = (s 0).b k
variable {s : Nat → Tabl} {e r : Nat → Nat} {L : Nat}
theorem Tab.same {N : Nat} {s s' : Tabl} {g g' : Int} (h : Tab A m N s g) (h' : Tab A m N s' g') (hb : ∀ k, k < m → s'.b k = s.b k) : s'.d = s.d ∧ ∀ i j, i < m → j < N → s'.T i j = s.T i j := by
  have e1 : phi A m s'.b = phi A m s.b := D_congr fun t k _ hk => by rw [hb k hk]
  have h1 := h.den
  have h2 := h'.den
  rw [e1] at h2
  have p1 := h.pos
  have p2 := h'.pos
  have eg : g' = g := by
    rcases h.unit with q | q <;> rcases h'.unit with q' | q' <;> rw [q, q'] <;> rw [q] at h1 <;> rw [q'] at h2 <;> omega
  refine ⟨by rw [h1, h2, eg], fun i j hi hj => ?_⟩
  rw [h.cell i j hi hj, h'.cell i j hi hj, eg]
  congr 1
  exact D_congr fun t k _ hk => by
    by_cases ek : k = i
    · subst ek; rw [up_same, up_same]
    · rw [up_ne _ _ ek, up_ne _ _ ek, hb k hk]
def basic (m : Nat) (s : Tabl) (j : Nat) : Prop := ∃ k, k < m ∧ s.b k = j
theorem Cycle.tab (h : Cycle A m R F c s e r L) {n : Nat} (hn : n ≤ L) : ∃ g, Tab A m (R + 1) (s n) g := (h.feas n hn).tab
/-- All steps are degenerate. -/
theorem Cycle.flat (h : Cycle A m R F c s e r L) {n : Nat} (hn : n < L) : (s n).T (r n) R = 0 := by
  have up1 : ∀ n, n < L → rc m c (s n) R * (s (n + 1)).d ≤ rc m c (s (n + 1)) R * (s n).d ∧ (rc m c (s n) R * (s (n + 1)).d = rc m c (s (n + 1)) R * (s n).d → (s n).T (r n) R = 0) := fun n hn => by
    have hb := h.step n hn
    have h1 := rc_step (c := c) hb.row hb.step (j := R) (by omega)
    have h2 := hb.step.d
    rw [Int.one_mul] at h2
    rw [Int.mul_comm _ (s n).d, h1, h2]
    have h3 := (h.feas n (by omega)).right _ hb.row
    have h4 := Int.mul_nonneg (a := - rc m c (s n) (e n)) (b := (s n).T (r n) R) (by have := hb.neg; omega) h3
    rw [Int.neg_mul] at h4
    refine ⟨by omega, fun h5 => ?_⟩
    have h6 : rc m c (s n) (e n) * (s n).T (r n) R = 0 := by omega
    rcases Int.mul_eq_zero.1 h6 with q | q
    · have := hb.neg; omega
    · exact q
  have dpos : ∀ n, n ≤ L → 0 < (s n).d := fun n hn => (h.tab hn).elim fun _ t => t.pos
  have chain : ∀ k a, a + k ≤ L → rc m c (s a) R * (s (a + k)).d ≤ rc m c (s (a + k)) R * (s a).d := fun k => by
    induction k with
    | zero => intro a _; exact Int.le_refl _
    | succ k ih =>
      intro a hk
      have h1 := ih a (by omega)
      have h2 := (up1 (a + k) (by omega)).1
      have d1 := dpos (a + k) (by omega)
      have d2 := dpos (a + k + 1) (by omega)
      have d3 := dpos a (by omega)
      rw [show a + (k + 1) = a + k + 1 by omega]
      have q1 := Int.mul_le_mul_of_nonneg_right h1 (Int.le_of_lt d2)
      have q2 := Int.mul_le_mul_of_nonneg_right h2 (Int.le_of_lt d3)
      have q3 : (s (a + k)).d * (rc m c (s a) R * (s (a + k + 1)).d) ≤ (s (a + k)).d * (rc m c (s (a + k + 1)) R * (s a).d) := by grind
      exact Int.le_of_mul_le_mul_left q3 d1
  refine (up1 n hn).2 (Int.le_antisymm (up1 n hn).1 ?_)
  obtain ⟨g0, t0⟩ := h.tab (Nat.zero_le L)
  obtain ⟨gL, tL⟩ := h.tab (Nat.le_refl L)
  obtain ⟨sd, sT⟩ := t0.same tL h.bas
  have hz : rc m c (s L) R = rc m c (s 0) R := by
    unfold rc
    rw [sd]
    congr 1
    exact sm_congr fun k hk => by rw [h.bas k hk, sT k R hk (by omega)]
  have c1 := chain n 0 (by omega)
  have c2 := chain (L - (n + 1)) (n + 1) (by omega)
  rw [Nat.zero_add] at c1
  rw [show n + 1 + (L - (n + 1)) = L by omega, hz, sd] at c2
  have d1 := dpos n (by omega)
  have d2 := dpos (n + 1) (by omega)
  have d3 := dpos 0 (by omega)
  -- rc(n+1) d0 <= rc0 d(n+1); rc0 dn <= rcn d0
  have q1 := Int.mul_le_mul_of_nonneg_right c1 (Int.le_of_lt d2)
  have q2 := Int.mul_le_mul_of_nonneg_right c2 (Int.le_of_lt d1)
  have q3 : (s 0).d * (rc m c (s (n + 1)) R * (s n).d) ≤ (s 0).d * (rc m c (s n) R * (s (n + 1)).d) := by grind
  exact Int.le_of_mul_le_mul_left q3 d3
/-- A property that each step keeps holds all the way round. -/
theorem Cycle.round (h : Cycle A m R F c s e r L) (P : Nat → Prop) (hs : ∀ n, n < L → P n → P (n + 1)) (hw : P L → P 0) {q : Nat} (hq : q ≤ L) (hP : P q) : ∀ n, n ≤ L → P n := by
  have fwd : ∀ k a, a + k ≤ L → P a → P (a + k) := fun k => by
    induction k with
    | zero => intro a _ hp; exact hp
    | succ k ih => intro a hk hp; exact hs (a + k) (by omega) (ih a (by omega) hp)
  have hL : P L := by
    have := fwd (L - q) q (by omega) hP
    rwa [show q + (L - q) = L by omega] at this
  intro n hn
  have := fwd n 0 (by omega) (hw hL)
  rwa [Nat.zero_add] at this
theorem Cycle.basic_wrap (h : Cycle A m R F c s e r L) (j : Nat) : basic m (s L) j ↔ basic m (s 0) j := by
  constructor
  · rintro ⟨k, hk, e⟩; exact ⟨k, hk, by rw [← h.bas k hk]; exact e⟩
  · rintro ⟨k, hk, e⟩; exact ⟨k, hk, by rw [h.bas k hk]; exact e⟩
theorem BStep.basic_iff {s s' : Tabl} {e r : Nat} (h : BStep m R F c s s' e r) (j : Nat) : basic m s' j ↔ j = e ∨ ∃ k, k < m ∧ k ≠ r ∧ s.b k = j := by
  constructor
  · rintro ⟨k, hk, hj⟩
    rw [h.step.b k hk] at hj
    by_cases ek : k = r
    · subst ek; rw [up_same] at hj; exact .inl hj.symm
    · rw [up_ne _ _ ek] at hj; exact .inr ⟨k, hk, ek, hj⟩
  · rintro (rfl | ⟨k, hk, ek, hj⟩)
    · exact ⟨r, h.row, by rw [h.step.b r h.row, up_same]⟩
    · exact ⟨k, hk, by rw [h.step.b k hk, up_ne _ _ ek]; exact hj⟩
/-- What is in the basis at one time, and not at another one, enters. -/
theorem Cycle.fickle (h : Cycle A m R F c s e r L) {j p q : Nat} (hp : p ≤ L) (hq : q ≤ L) (bp : basic m (s p) j) (bq : ¬ basic m (s q) j) : ∃ n, n < L ∧ e n = j := by
  refine Classical.byContradiction fun hno => ?_
  have := h.round (fun n => ¬ basic m (s n) j) (fun n hn hb hb2 => ?_) (fun hb => by rwa [h.basic_wrap j] at hb) hq bq p hp
  · exact this bp
  · rcases ((h.step n hn).basic_iff j).1 hb2 with e1 | ⟨k, hk, _, e1⟩
    · exact hno ⟨n, hn, e1.symm⟩
    · exact hb ⟨k, hk, e1⟩
theorem Cycle.enters (h : Cycle A m R F c s e r L) {n : Nat} (hn : n < L) : ¬ basic m (s n) (e n) ∧ basic m (s (n + 1)) (e n) := by
  refine ⟨fun ⟨k, hk, hb⟩ => ?_, ((h.step n hn).basic_iff _).2 (.inl rfl)⟩
  obtain ⟨g, t⟩ := h.tab (Nat.le_of_lt hn)
  have := rc_basic (c := c) t hk
  rw [hb] at this
  have := (h.step n hn).neg
  omega
theorem Cycle.leaves (h : Cycle A m R F c s e r L) {n : Nat} (hn : n < L) : ∃ p, p < L ∧ (s p).b (r p) = e n := by
  refine Classical.byContradiction fun hno => ?_
  obtain ⟨h1, h2⟩ := h.enters hn
  have := h.round (fun p => basic m (s p) (e n)) (fun p hp ⟨k, hk, hb⟩ => ?_) (h.basic_wrap _).1 (by omega : n + 1 ≤ L) h2 n (by omega)
  · exact h1 this
  · refine ((h.step p hp).basic_iff _).2 (.inr ⟨k, hk, fun ek => ?_, hb⟩)
    subst ek
    exact hno ⟨p, hp, hb⟩
/-- Where a variable that is not always in the basis is in it, it is 0. -/
theorem Cycle.zero (h : Cycle A m R F c s e r L) {n p : Nat} (hn : n < L) (hp : p ≤ L) {i : Nat} (hi : i < m) (hb : (s p).b i = e n) : (s p).T i R = 0 := by
  have := h.round (fun p => ∀ i, i < m → (s p).b i = e n → (s p).T i R = 0) (fun q hq hz i hi hbi => ?_) (fun hz i hi hbi => ?_) (Nat.le_of_lt hn) (fun i hi hbi => absurd ⟨i, hi, hbi⟩ (h.enters hn).1) p hp
  · exact this i hi hb
  · have hst := h.step q hq
    have fl := h.flat hq
    by_cases ei : i = r q
    · subst ei
      rw [hst.step.row R (by omega), fl, Int.mul_zero]
    · rw [hst.step.b i hi, up_ne _ _ ei] at hbi
      have h1 := hst.step.rest i R hi ei (by omega)
      rw [hz i hi hbi, fl] at h1
      obtain ⟨g, t⟩ := h.tab (Nat.le_of_lt hq)
      have := t.pos
      simp only [Int.zero_mul, Int.mul_zero, Int.sub_zero] at h1
      rcases Int.mul_eq_zero.1 h1 with q1 | q1
      · omega
      · exact q1
  · obtain ⟨g0, t0⟩ := h.tab (Nat.zero_le L)
    obtain ⟨gL, tL⟩ := h.tab (Nat.le_refl L)
    obtain ⟨_, sT⟩ := t0.same tL h.bas
    rw [← sT i R hi (by omega)]
    exact hz i hi (by rw [h.bas i hi]; exact hbi)
/-- The greatest of some numbers. -/
theorem greatest (f : Nat → Nat) : ∀ L, 0 < L → ∃ n, n < L ∧ ∀ k, k < L → f k ≤ f n
  | 1, _ => ⟨0, Nat.zero_lt_one, fun k hk => by rw [Nat.lt_one_iff.1 hk]; exact Nat.le_refl _⟩
  | L + 2, _ => by
    obtain ⟨n, hn, h⟩ := greatest f (L + 1) (by omega)
    by_cases hf : f n ≤ f (L + 1)
    · refine ⟨L + 1, by omega, fun k hk => ?_⟩
      rcases Nat.lt_succ_iff_lt_or_eq.1 hk with h1 | h1
      · exact Nat.le_trans (h k h1) hf
      · rw [h1]; exact Nat.le_refl _
    · refine ⟨n, by omega, fun k hk => ?_⟩
      rcases Nat.lt_succ_iff_lt_or_eq.1 hk with h1 | h1
      · exact h k h1
      · rw [h1]; omega
/-- A column of one table, told by another one. -/
theorem Tab.cross {N : Nat} {s s' : Tabl} {g g' : Int} (h : Tab A m N s g) (h' : Tab A m N s' g') {q j : Nat} (hq : q < m) (hj : j < N) : s.d * s'.T q j = sm m fun i => s.T i j * s'.T q (s.b i) := by
  rw [h'.cell q j hq hj, phi_set]
  have e1 : sm m (fun i => s.T i j * s'.T q (s.b i)) = sm m fun i => g' * (s.T i j * D m (setC (fun t k => A t (s'.b k)) q fun t => A t (s.b i))) := sm_congr fun i hi => by
    rw [h'.cell q _ hq (h.bas i hi), phi_set]
    grind
  rw [e1, sm_mul, ← D_sum hq (fun i => s.T i j) (fun i t => A t (s.b i)) m]
  have e3 := D_lin (M := fun t k => A t (s'.b k)) s.d 0 (fun t => A t j) (fun _ => 0) hq
  simp only [Int.zero_mul, Int.add_zero] at e3
  have e4 : D m (setC (fun t k => A t (s'.b k)) q fun t => s.d * A t j) = D m (setC (fun t k => A t (s'.b k)) q fun t => sm m fun i => s.T i j * A t (s.b i)) := D_congr fun t k ht _ => by
    unfold setC
    split
    · exact h.rel j t hj ht
    · rfl
  rw [← e4, e3]
  grind
theorem rc_cross {N : Nat} {s s' : Tabl} {g g' : Int} (h : Tab A m N s g) (h' : Tab A m N s' g') {j : Nat} (hj : j < N) : s.d * rc m c s' j - sm m (fun i => s.T i j * rc m c s' (s.b i)) = s'.d * rc m c s j := by
  unfold rc
  have e1 : sm m (fun i => s.T i j * (c (s.b i) * s'.d - sm m fun k => c (s'.b k) * s'.T k (s.b i))) = s'.d * (sm m fun i => c (s.b i) * s.T i j) - sm m fun k => c (s'.b k) * (s.d * s'.T k j) := by
    have : sm m (fun k => c (s'.b k) * (s.d * s'.T k j)) = sm m fun k => c (s'.b k) * sm m fun i => s.T i j * s'.T k (s.b i) := sm_congr fun k hk => by rw [h.cross h' hk hj]
    rw [this]
    have e2 : sm m (fun k => c (s'.b k) * sm m fun i => s.T i j * s'.T k (s.b i)) = sm m fun k => sm m fun i => c (s'.b k) * (s.T i j * s'.T k (s.b i)) := sm_congr fun k _ => (sm_mul _ _ _).symm
    rw [e2, sm_swap (fun k i => c (s'.b k) * (s.T i j * s'.T k (s.b i))), ← sm_mul, ← sm_sub]
    refine sm_congr fun i _ => ?_
    rw [Int.mul_sub, ← sm_mul]
    have e3 : sm m (fun k => s.T i j * (c (s'.b k) * s'.T k (s.b i))) = sm m fun k => c (s'.b k) * (s.T i j * s'.T k (s.b i)) := sm_congr fun k _ => by grind
    rw [e3]
    grind
  rw [e1, Int.mul_sub, Int.mul_sub, ← sm_mul s.d]
  have e4 : sm m (fun k => c (s'.b k) * (s.d * s'.T k j)) = sm m fun k => s.d * (c (s'.b k) * s'.T k j) := sm_congr fun k _ => by grind
  rw [e4]
  grind
theorem sm_pos_of {f : Nat → Int} : ∀ {n : Nat}, 0 < sm n f → ∃ i, i < n ∧ 0 < f i
  | n + 1, h => by
    rw [sm] at h
    by_cases hf : 0 < f n
    · exact ⟨n, by omega, hf⟩
    · obtain ⟨i, h1, h2⟩ := sm_pos_of (n := n) (f := f) (by omega)
      exact ⟨i, by omega, h2⟩
/-- **No run of steps comes back.** -/
theorem Cycle.no (h : Cycle A m R F c s e r L) : False := by
  obtain ⟨ns, hns, hmax⟩ := greatest e L h.pos
  obtain ⟨nl, hnl, hleave⟩ := h.leaves hns
  have bl := h.step nl hnl
  have bs := h.step ns hns
  obtain ⟨g, t⟩ := h.tab (Nat.le_of_lt hnl)
  obtain ⟨g', t'⟩ := h.tab (Nat.le_of_lt hns)
  have hle := h.le
  have hlt := bl.lt
  have cr := rc_cross (c := c) t t' (j := e nl) (by omega)
  have hneg : (s ns).d * rc m c (s nl) (e nl) < 0 := by
    have := Int.mul_pos t'.pos (show 0 < - rc m c (s nl) (e nl) by have := bl.neg; omega)
    rw [Int.mul_neg] at this
    omega
  have hst : e nl < e ns := by
    rcases Nat.lt_or_eq_of_le (hmax nl hnl) with h1 | h1
    · exact h1
    · exact absurd ⟨_, bl.row, by rw [hleave, h1]⟩ (h.enters hnl).1
  have h0 : 0 ≤ (s nl).d * rc m c (s ns) (e nl) := Int.mul_nonneg (Int.le_of_lt t.pos) (bs.first _ hst)
  obtain ⟨i, hi, hpos⟩ := sm_pos_of (n := m) (f := fun i => (s nl).T i (e nl) * rc m c (s ns) ((s nl).b i)) (by omega)
  have hnb : ¬ basic m (s ns) ((s nl).b i) := fun ⟨k, hk, hb⟩ => by
    have := rc_basic (c := c) t' hk
    rw [hb] at this
    rw [this] at hpos
    simp at hpos
  obtain ⟨nj, hnj, hj⟩ := h.fickle (Nat.le_of_lt hnl) (Nat.le_of_lt hns) ⟨i, hi, rfl⟩ hnb
  have hjt := hmax nj hnj
  rw [hj] at hjt
  rcases Nat.lt_or_eq_of_le hjt with h1 | h1
  · have hr := bs.first _ h1
    have hT : 0 < (s nl).T i (e nl) := by
      rcases Int.lt_or_le 0 ((s nl).T i (e nl)) with h2 | h2
      · exact h2
      · have := Int.mul_nonneg (a := - (s nl).T i (e nl)) (by omega) hr
        rw [Int.neg_mul] at this
        omega
    have z1 := h.zero hnj (Nat.le_of_lt hnl) hi hj.symm
    have z2 := h.zero hns (Nat.le_of_lt hnl) bl.row hleave
    rcases bl.min i hi hT with e1 | e1 | e1
    · subst e1; rw [hleave] at h1; omega
    · rw [z1, z2] at e1; simp at e1
    · have := e1.2; rw [hleave] at this; omega
  · have hir : i = r nl := t.inj hi bl.row (by rw [h1, hleave])
    subst hir
    rw [h1] at hpos
    have := Int.mul_pos bl.pos (show 0 < - rc m c (s ns) (e ns) by have := bs.neg; omega)
    rw [Int.mul_neg] at this
    omega
/-- The basis as one number. -/
def code (R : Nat) (b : Nat → Nat) : Nat → Nat
  | 0 => 0
  | k + 1 => code R b k * R + b k
theorem code_lt {b : Nat → Nat} : ∀ {m : Nat}, (∀ k, k < m → b k < R) → code R b m < R ^ m
  | 0, _ => by simp [code]
  | m + 1, h => by
    have h1 := code_lt (b := b) (m := m) fun k hk => h k (by omega)
    have h2 := h m (by omega)
    rw [code, Nat.pow_succ]
    have : (code R b m + 1) * R ≤ R ^ m * R := Nat.mul_le_mul_right _ h1
    rw [Nat.add_mul] at this
    omega
theorem code_inj {b b' : Nat → Nat} : ∀ {m : Nat}, (∀ k, k < m → b k < R) → (∀ k, k < m → b' k < R) → code R b m = code R b' m → ∀ k, k < m → b k = b' k
  | m + 1, h, h', e, k, hk => by
    have h2 := h m (by omega)
    have h2' := h' m (by omega)
    rw [code, code] at e
    have e1 : b m = b' m := by
      have := congrArg (· % R) e
      simp only [Nat.mul_add_mod_self_right] at this
      rwa [Nat.mod_eq_of_lt h2, Nat.mod_eq_of_lt h2'] at this
    have e2 : code R b m = code R b' m := by
      have : code R b m * R = code R b' m * R := by omega
      exact Nat.eq_of_mul_eq_mul_right (by omega) this
    rcases Nat.lt_succ_iff_lt_or_eq.1 hk with h3 | rfl
    · exact code_inj (fun k hk => h k (by omega)) (fun k hk => h' k (by omega)) e2 k h3
    · exact e1
theorem pigeon : ∀ (K : Nat) (f : Nat → Nat), (∀ i, i ≤ K → f i < K) → ∃ i j, i < j ∧ j ≤ K ∧ f i = f j
  | 0, f, h => absurd (h 0 (Nat.le_refl _)) (by omega)
  | K + 1, f, h => by
    by_cases hx : ∃ i, i ≤ K ∧ f i = f (K + 1)
    · obtain ⟨i, h1, h2⟩ := hx
      exact ⟨i, K + 1, by omega, Nat.le_refl _, h2⟩
    · obtain ⟨i, j, h1, h2, h3⟩ := pigeon K (fun i => if f i = K then f (K + 1) else f i) fun i hi => by
        have h1 := h i (by omega)
        have h2 := h (K + 1) (Nat.le_refl _)
        split
        · rename_i e
          rcases Nat.lt_or_eq_of_le (Nat.le_of_lt_succ h2) with h3 | h3
          · exact h3
          · exact absurd ⟨i, hi, by rw [e, h3]⟩ hx
        · omega
      refine ⟨i, j, h1, by omega, ?_⟩
      split at h3 <;> split at h3
      · omega
      · exact absurd ⟨j, by omega, h3.symm⟩ hx
      · exact absurd ⟨i, by omega, h3⟩ hx
      · exact h3
/-- **There are no more steps than there are bases.** -/
theorem bland {K : Nat} (hF : F ≤ R) (hc : c R = 0) (h0 : Feas A m R (s 0)) (hs : ∀ n, n < K → BStep m R F c (s n) (s (n + 1)) (e n) (r n)) : K < R ^ m := by
  have feas : ∀ n, n ≤ K → Feas A m R (s n) := fun n => by
    induction n with
    | zero => intro _; exact h0
    | succ n ih => intro hn; exact (ih (by omega)).next hF (hs n (by omega))
  refine Classical.byContradiction fun hK => ?_
  obtain ⟨i, j, h1, h2, h3⟩ := pigeon (R ^ m) (fun n => code R (s n).b m) fun n hn => code_lt (feas n (by omega)).bas
  refine Cycle.no (A := A) (m := m) (R := R) (F := F) (c := c) (s := fun n => s (i + n)) (e := fun n => e (i + n)) (r := fun n => r (i + n)) (L := j - i) ⟨by omega, hF, hc, fun n hn => feas _ (by omega), fun n hn => hs (i + n) (by omega), fun k hk => ?_⟩
  have := code_inj (feas i (by omega)).bas (feas j (by omega)).bas h3 k hk
  simp only [Nat.add_zero]
  rw [show i + (j - i) = j by omega]
  exact this.symm
end
end Go.Proofs.Ytmefgachdnlaoaa.Lp
