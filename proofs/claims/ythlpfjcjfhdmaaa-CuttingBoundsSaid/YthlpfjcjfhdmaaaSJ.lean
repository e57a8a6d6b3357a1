/- Plain facts on merging in place. -/
import Derived.Test.YthlpfjcjfhdmaaaSI
set_option maxRecDepth 100000
set_option linter.unusedSimpArgs false
set_option linter.unusedVariables false
namespace Go.Proofs.Ythlpfjcjfhdmaaa
/-- The same elements in a stretch, the others as they were. -/
structure PO (f : Nat → Int) (a b : Nat) (g : Nat → Int) : Prop where
  out : ∀ k, k < a ∨ b ≤ k → g k = f k
  perm : (seg g a (b - a)).Perm (seg f a (b - a))
theorem PO.refl (f : Nat → Int) (a b : Nat) : PO f a b f := ⟨fun _ _ => rfl, .refl _⟩
theorem PO.trans {f g h : Nat → Int} {a b : Nat} (h1 : PO f a b g) (h2 : PO g a b h) : PO f a b h := ⟨fun k hk => (h2.out k hk).trans (h1.out k hk), h2.perm.trans h1.perm⟩
theorem PO.wide {f g : Nat → Int} {a b a0 b0 : Nat} (h : PO f a b g) (h1 : a0 ≤ a) (h2 : a ≤ b) (h3 : b ≤ b0) : PO f a0 b0 g where
  out k hk := h.out k (by omega)
  perm := by
    have e : ∀ u : Nat → Int, seg u a0 (b0 - a0) = seg u a0 (a - a0) ++ (seg u a (b - a) ++ seg u b (b0 - b)) := fun u => by
      have e1 := seg_app u a0 (a - a0) ((b - a) + (b0 - b))
      have e2 := seg_app u a (b - a) (b0 - b)
      rw [show a - a0 + ((b - a) + (b0 - b)) = b0 - a0 by omega, show a0 + (a - a0) = a by omega] at e1
      rw [show a + (b - a) = b by omega] at e2
      rw [e1, e2]
    rw [e g, e f, seg_congr (f := g) (g := f) (a := a0) fun k _ hk => h.out k (.inl (by omega)), seg_congr (f := g) (g := f) (a := b) fun k hk _ => h.out k (.inr (by omega))]
    exact List.Perm.append_left _ (h.perm.append_right _)
theorem PO.src {f g : Nat → Int} {a b : Nat} (h : PO f a b g) {p : Nat} (h1 : a ≤ p) (h2 : p < b) : ∃ q, a ≤ q ∧ q < b ∧ g p = f q := by
  have : g p ∈ seg f a (b - a) := h.perm.mem_iff.mp (mem_seg.mpr ⟨p, h1, by omega, rfl⟩)
  obtain ⟨q, q1, q2, q3⟩ := mem_seg.mp this
  exact ⟨q, q1, by omega, q3.symm⟩
theorem InI.po {K : Int → Int} {f g : Nat → Int} {a b : Nat} (h : InI K f a b g) : PO f a b g := ⟨h.out, h.perm⟩
theorem PO.sw (f : Nat → Int) {a b p q : Nat} (h1 : a ≤ p) (h2 : p < q) (h3 : q < b) : PO f a b (swF f p q) := ⟨fun k hk => by simp [swF, show k ≠ q by omega, show k ≠ p by omega], swF_perm f h1 h2 (by omega)⟩
theorem PO.rot (f : Nat → Int) {a m b : Nat} (h1 : a ≤ m) (h2 : m ≤ b) : PO f a b (rot f a m b) where
  out k hk := by
    simp only [Go.Proofs.Ythlpfjcjfhdmaaa.rot]
    rw [if_neg (by omega), if_neg (by omega)]
  perm := by
    have e1 := seg_app (Go.Proofs.Ythlpfjcjfhdmaaa.rot f a m b) a (b - m) (m - a)
    have e2 := seg_app f a (m - a) (b - m)
    rw [show b - m + (m - a) = b - a by omega] at e1
    rw [show m - a + (b - m) = b - a by omega, show a + (m - a) = m by omega] at e2
    have e3 : seg (Go.Proofs.Ythlpfjcjfhdmaaa.rot f a m b) a (b - m) = seg f m (b - m) := seg_congr2 fun k hk => by
      simp only [Go.Proofs.Ythlpfjcjfhdmaaa.rot]
      rw [if_pos (by omega)]
      congr 1
      omega
    have e4 : seg (Go.Proofs.Ythlpfjcjfhdmaaa.rot f a m b) (a + (b - m)) (m - a) = seg f a (m - a) := seg_congr2 fun k hk => by
      simp only [Go.Proofs.Ythlpfjcjfhdmaaa.rot]
      rw [if_neg (by omega), if_pos (by omega)]
      congr 1
      omega
    rw [e1, e2, e3, e4]
    exact List.perm_append_comm
/-- An element goes up to place `i`. -/
structure GoUp (f : Nat → Int) (a b k : Nat) (g : Nat → Int) : Prop where
  po : PO f a b g
  low : ∀ p, a ≤ p → p < k → g p = f (p + 1)
  here : g k = f a
  high : ∀ p, k < p → g p = f p
theorem goUp_0 (f : Nat → Int) (a b : Nat) : GoUp f a b a f := ⟨.refl f a b, fun p _ _ => by omega, rfl, fun _ _ => rfl⟩
theorem goUp_1 {f g : Nat → Int} {a b k : Nat} (ha : a ≤ k) (hk : k + 1 < b) (h : GoUp f a b k g) : GoUp f a b (k + 1) (swF g k (k + 1)) where
  po := h.po.trans (.sw g ha (by omega) hk)
  low p h1 h2 := by
    by_cases e : p = k
    · subst e
      simp [swF, h.high (p + 1) (by omega)]
    · simp [swF, e, show p ≠ k + 1 by omega, h.low p h1 (by omega)]
  here := by simp [swF, h.here]
  high p hp := by simp [swF, show p ≠ k by omega, show p ≠ k + 1 by omega, h.high p (by omega)]
theorem goUp_up {K : Int → Int} {f g : Nat → Int} {a b i : Nat} (hi : a < i) (hib : i ≤ b) (h : GoUp f a b (i - 1) g) (hu : upK K f (a + 1) b) (h1 : ∀ k, a < k → k < i → K (f k) ≤ K (f a)) (h2 : ∀ k, i ≤ k → k < b → K (f a) ≤ K (f k)) : InI K f a b g where
  out := h.po.out
  perm := h.po.perm
  up p q p1 p2 p3 := by
    rcases Nat.lt_trichotomy q (i - 1) with e | e | e
    · rw [h.low p p1 (by omega), h.low q (by omega) e]
      exact hu _ _ (by omega) (by omega) (by omega)
    · subst e
      rw [h.low p p1 p2, h.here]
      exact h1 _ (by omega) (by omega)
    · rw [h.high q e]
      rcases Nat.lt_trichotomy p (i - 1) with e2 | e2 | e2
      · rw [h.low p p1 e2]
        by_cases e3 : p + 1 = q
        · omega
        · exact hu _ _ (by omega) (by omega) p3
      · subst e2
        rw [h.here]
        exact h2 q (by omega) p3
      · rw [h.high p e2]
        exact hu p q (by omega) p2 p3
/-- An element goes down to place `i`. -/
structure GoDn (f : Nat → Int) (a b m k : Nat) (g : Nat → Int) : Prop where
  po : PO f a b g
  low : ∀ p, p < k → g p = f p
  here : g k = f m
  high : ∀ p, k < p → p ≤ m → g p = f (p - 1)
theorem goDn_0 (f : Nat → Int) (a b m : Nat) : GoDn f a b m m f := ⟨.refl f a b, fun _ _ => rfl, rfl, fun p _ _ => by omega⟩
theorem goDn_1 {f g : Nat → Int} {a b m k : Nat} (ha : a < k) (hk : k ≤ m) (hm : m < b) (h : GoDn f a b m k g) : GoDn f a b m (k - 1) (swF g (k - 1) k) where
  po := h.po.trans (.sw g (by omega) (by omega) (by omega))
  low p hp := by simp [swF, show p ≠ k by omega, show p ≠ k - 1 by omega, h.low p (by omega)]
  here := by simp [swF, show k - 1 ≠ k by omega, h.here]
  high p h1 h2 := by
    by_cases e : p = k
    · subst e
      simp [swF, h.low (p - 1) (by omega)]
    · simp [swF, e, show p ≠ k - 1 by omega, h.high p (by omega) h2]
theorem goDn_up {K : Int → Int} {f g : Nat → Int} {a m i : Nat} (ha : a ≤ i) (hi : i ≤ m) (h : GoDn f a (m + 1) m i g) (hu : upK K f a m) (h1 : ∀ k, a ≤ k → k < i → K (f k) ≤ K (f m)) (h2 : ∀ k, i ≤ k → k < m → K (f m) ≤ K (f k)) : InI K f a (m + 1) g where
  out := h.po.out
  perm := h.po.perm
  up p q p1 p2 p3 := by
    rcases Nat.lt_trichotomy q i with e | e | e
    · rw [h.low p (by omega), h.low q e]
      exact hu _ _ p1 p2 (by omega)
    · subst e
      rw [h.low p p2, h.here]
      exact h1 _ p1 p2
    · rw [h.high q e (by omega)]
      rcases Nat.lt_trichotomy p i with e2 | e2 | e2
      · rw [h.low p e2]
        by_cases e3 : p = q - 1
        · omega
        · exact hu _ _ p1 (by omega) (by omega)
      · subst e2
        rw [h.here]
        exact h2 _ (by omega) (by omega)
      · rw [h.high p e2 (by omega)]
        exact hu _ _ (by omega) (by omega) (by omega)
/-- Two halves in order, each element of the first at most each of the second. -/
theorem halves {K : Int → Int} {f g g1 g2 : Nat → Int} {a c b : Nat} (h1 : a ≤ c) (h2 : c ≤ b) (hp : PO f a b g) (i1 : InI K g a c g1) (i2 : InI K g1 c b g2) (hx : ∀ p q, a ≤ p → p < c → c ≤ q → q < b → K (g p) ≤ K (g q)) : InI K f a b g2 where
  out := (hp.trans ((i1.po.wide (Nat.le_refl _) h1 h2).trans (i2.po.wide h1 h2 (Nat.le_refl _)))).out
  perm := (hp.trans ((i1.po.wide (Nat.le_refl _) h1 h2).trans (i2.po.wide h1 h2 (Nat.le_refl _)))).perm
  up p q p1 p2 p3 := by
    by_cases e1 : q < c
    · rw [i2.out p (by omega), i2.out q (by omega)]
      exact i1.up p q p1 p2 e1
    · by_cases e2 : p < c
      · rw [i2.out p (by omega)]
        obtain ⟨p', r1, r2, r3⟩ := i1.src p1 e2
        obtain ⟨q', t1, t2, t3⟩ := i2.src (show c ≤ q by omega) p3
        rw [r3, t3, i1.out q' (by omega)]
        exact hx _ _ r1 r2 t1 t2
      · exact i2.up p q (by omega) p2 p3
/-- What merging has after the rotation. -/
structure MF (V : Int → Prop) (O : Int → Int → Prop) (K : Int → Int) (f : Nat → Int) (a c b s e : Nat) (g : Nat → Int) : Prop where
  po : PO f a b g
  v : allV V g a b
  u1 : upK K g a s
  u2 : upK K g s c
  u3 : upK K g c e
  u4 : upK K g e b
  o1 : ∀ p q, a ≤ p → p < s → s ≤ q → q < c → O (g p) (g q)
  o2 : ∀ p q, c ≤ p → p < e → e ≤ q → q < b → O (g p) (g q)
  hx : ∀ p q, a ≤ p → p < c → c ≤ q → q < b → K (g p) ≤ K (g q)
theorem mf {V : Int → Prop} {O : Int → Int → Prop} {K : Int → Int} {f : Nat → Int} {a m b c s e : Nat} (hV : allV V f a b) (hu1 : upK K f a m) (hu2 : upK K f m b) (hO : ∀ p q, a ≤ p → p < m → m ≤ q → q < b → O (f p) (f q))
    (h1 : a ≤ s) (h2 : s ≤ m) (h3 : m ≤ e) (h4 : e ≤ b) (h5 : s ≤ c) (h6 : e = c + m - s) (lo : a < s → e < b → K (f (s - 1)) ≤ K (f e)) (hi : s < m → m < e → K (f (e - 1)) < K (f s)) : MF V O K f a c b s e (rot f s m e) := by
  have rA : ∀ k, s ≤ k → k < c → rot f s m e k = f (k - s + m) := fun k k1 k2 => by simp only [rot]; rw [if_pos (by omega)]
  have rB : ∀ k, c ≤ k → k < e → rot f s m e k = f (k - (c - s)) := fun k k1 k2 => by simp only [rot]; rw [if_neg (by omega), if_pos (by omega), show e - m = c - s by omega]
  have rC : ∀ k, k < s ∨ e ≤ k → rot f s m e k = f k := fun k hk => by simp only [rot]; rw [if_neg (by omega), if_neg (by omega)]
  have hle : ∀ p q, a ≤ p → p ≤ q → q < m → K (f p) ≤ K (f q) := fun p q p1 p2 p3 => by
    by_cases e : p = q
    · subst e; exact Int.le_refl _
    · exact hu1 p q p1 (by omega) p3
  have hle2 : ∀ p q, m ≤ p → p ≤ q → q < b → K (f p) ≤ K (f q) := fun p q p1 p2 p3 => by
    by_cases e : p = q
    · subst e; exact Int.le_refl _
    · exact hu2 p q p1 (by omega) p3
  refine ⟨(PO.rot f h2 h3).wide h1 (by omega) h4, fun k k1 k2 => ?_, fun p q p1 p2 p3 => ?_, fun p q p1 p2 p3 => ?_, fun p q p1 p2 p3 => ?_, fun p q p1 p2 p3 => ?_, fun p q p1 p2 p3 p4 => ?_, fun p q p1 p2 p3 p4 => ?_, fun p q p1 p2 p3 p4 => ?_⟩
  · obtain ⟨q, q1, q2, q3⟩ := ((PO.rot f h2 h3).wide h1 (by omega) h4).src k1 k2
    rw [q3]
    exact hV q q1 q2
  · rw [rC p (by omega), rC q (by omega)]
    exact hu1 p q p1 p2 (by omega)
  · rw [rA p p1 (by omega), rA q (by omega) p3]
    exact hu2 _ _ (by omega) (by omega) (by omega)
  · rw [rB p p1 (by omega), rB q (by omega) p3]
    exact hu1 _ _ (by omega) (by omega) (by omega)
  · rw [rC p (by omega), rC q (by omega)]
    exact hu2 p q (by omega) p2 p3
  · rw [rC p (by omega), rA q p3 p4]
    exact hO _ _ p1 (by omega) (by omega) (by omega)
  · rw [rB p p1 p2, rC q (by omega)]
    exact hO _ _ (by omega) (by omega) (by omega) p4
  · by_cases e1 : p < s
    · rw [rC p (by omega)]
      by_cases e2 : q < e
      · rw [rB q p3 e2]
        exact hle _ _ p1 (by omega) (by omega)
      · rw [rC q (by omega)]
        exact Int.le_trans (hle p (s - 1) p1 (by omega) (by omega)) (Int.le_trans (lo (by omega) (by omega)) (hle2 e q h3 (by omega) p4))
    · rw [rA p (by omega) p2]
      by_cases e2 : q < e
      · rw [rB q p3 e2]
        exact Int.le_trans (hle2 _ (e - 1) (by omega) (by omega) (by omega)) (Int.le_trans (Int.le_of_lt (hi (by omega) (by omega))) (hle s _ h1 (by omega) (by omega)))
      · rw [rC q (by omega)]
        exact hle2 _ _ (by omega) (by omega) p4
theorem rot_nil {f : Nat → Int} {s m e : Nat} (h2 : s ≤ m) (h3 : m ≤ e) (h : s = m ∨ e = m) : rot f s m e = f := by
  funext k
  simp only [rot]
  repeat' split
  all_goals first | omega | (congr 1; omega) | rfl
end Go.Proofs.Ythlpfjcjfhdmaaa
