/- Contracts: the stable sort (merging given). -/
import Derived.Test.YthlpfjcjfhdmaaaSF
set_option maxRecDepth 100000
set_option linter.unusedSimpArgs false
set_option linter.unusedVariables false
namespace Go.Proofs.Ythlpfjcjfhdmaaa
open Go.RowKit
theorem InI.all {K : Int → Int} {f g : Nat → Int} {a b n : Nat} (h : InI K f a b g) (hab : a ≤ b) (hb : b ≤ n) : (seg g 0 n).Perm (seg f 0 n) := by
  have e : ∀ u : Nat → Int, seg u 0 n = seg u 0 a ++ (seg u a (b - a) ++ seg u b (n - b)) := fun u => by
    have e1 := seg_app u 0 a ((b - a) + (n - b))
    have e2 := seg_app u a (b - a) (n - b)
    rw [show a + ((b - a) + (n - b)) = n by omega, Nat.zero_add] at e1
    rw [show a + (b - a) = b by omega] at e2
    rw [e1, e2]
  rw [e g, e f, seg_congr (f := g) (g := f) (a := 0) fun k _ hk => h.out k (.inl (by omega)), seg_congr (f := g) (g := f) (a := b) fun k hk _ => h.out k (.inr (by omega))]
  exact List.Perm.append_left _ (h.perm.append_right _)
theorem InI.src {K : Int → Int} {f g : Nat → Int} {a b : Nat} (h : InI K f a b g) {p : Nat} (h1 : a ≤ p) (h2 : p < b) : ∃ q, a ≤ q ∧ q < b ∧ g p = f q := by
  have : g p ∈ seg f a (b - a) := h.perm.mem_iff.mp (mem_seg.mpr ⟨p, h1, by omega, rfl⟩)
  obtain ⟨q, q1, q2, q3⟩ := mem_seg.mp this
  exact ⟨q, q1, by omega, q3.symm⟩
theorem dv_iff {s p c : Nat} (hs : 0 < s) : p / s = c ↔ s * c ≤ p ∧ p < s * c + s := by
  rw [Nat.div_eq_iff hs]
  rw [Nat.mul_comm c s]
  omega
theorem dv_lt {s c d : Nat} (h : c < d) : s * c + s ≤ s * d := by
  have := Nat.mul_le_mul_left s (show c + 1 ≤ d by omega)
  rwa [Nat.mul_add, Nat.mul_one] at this
/-- Blocks of `s` elements are sorted up to place `a`. -/
structure BI (K : Int → Int) (f : Nat → Int) (n s a : Nat) (g : Nat → Int) : Prop where
  out : ∀ k, n ≤ k → g k = f k
  perm : (seg g 0 n).Perm (seg f 0 n)
  src : ∀ p, p < n → ∃ q, q < n ∧ q / s = p / s ∧ g p = f q
  up : ∀ p q, p < q → q < a → p / s = q / s → K (g p) ≤ K (g q)
theorem bi_0 (K : Int → Int) (f : Nat → Int) (n s : Nat) : BI K f n s 0 f := ⟨fun _ _ => rfl, .refl _, fun p h => ⟨p, h, rfl, rfl⟩, fun _ _ _ h => by omega⟩
/-- A further block (or what is left of one) is sorted. -/
theorem bi_next {K : Int → Int} {f g g2 : Nat → Int} {n s c b : Nat} (hs : 0 < s) (h : BI K f n s (s * c) g) (hr : ∀ k, s * c ≤ k → g k = f k) (hab : s * c ≤ b) (hb : b ≤ s * c + s) (hn : b ≤ n) (h2 : InI K g (s * c) b g2) :
    BI K f n s b g2 where
  out k hk := by rw [h2.out k (by omega), h.out k hk]
  perm := (h2.all hab hn).trans h.perm
  src p hp := by
    by_cases e : s * c ≤ p ∧ p < b
    · obtain ⟨q, q1, q2, q3⟩ := h2.src e.1 e.2
      refine ⟨q, by omega, ?_, by rw [q3, hr q q1]⟩
      rw [(dv_iff hs).mpr ⟨q1, by omega⟩, (dv_iff hs).mpr ⟨e.1, by omega⟩]
    · rw [h2.out p (by omega)]
      exact h.src p hp
  up p q hpq hq he := by
    obtain ⟨d, hd⟩ : ∃ d, d = q / s := ⟨_, rfl⟩
    have b1 := (dv_iff hs).mp (he.trans hd.symm)
    have b2 := (dv_iff hs).mp hd.symm
    rcases Nat.lt_trichotomy d c with e | e | e
    · have := dv_lt (s := s) e
      rw [h2.out p (by omega), h2.out q (by omega)]
      exact h.up p q hpq (by omega) he
    · subst e
      exact h2.up p q b1.1 hpq hq
    · have := dv_lt (s := s) e
      omega
/-- Pairs of blocks are merged up to place `a`. -/
structure MI (K : Int → Int) (f g : Nat → Int) (n s a : Nat) (g2 : Nat → Int) : Prop where
  b : BI K f n (2 * s) a g2
  rest : ∀ k, a ≤ k → g2 k = g k
theorem half {s p : Nat} : p / (2 * s) = p / s / 2 := by rw [Nat.mul_comm, Nat.div_div_eq_div_mul]
theorem mi_0 {K : Int → Int} {f g : Nat → Int} {n s : Nat} (h : BI K f n s n g) : MI K f g n s 0 g := ⟨⟨h.out, h.perm, fun p hp => by
  obtain ⟨q, q1, q2, q3⟩ := h.src p hp
  exact ⟨q, q1, by rw [half, half, q2], q3⟩, fun _ _ _ h => by omega⟩, fun _ _ => rfl⟩
theorem mi_next {K : Int → Int} {f g g2 g3 : Nat → Int} {n s c b : Nat} (hs : 0 < s) (hB : BI K f n s n g) (h : MI K f g n s (2 * s * c) g2) (hab : 2 * s * c ≤ b) (hb : b ≤ 2 * s * c + 2 * s) (hn : b ≤ n) (h3 : InI K g2 (2 * s * c) b g3) :
    MI K f g n s b g3 where
  b := {
    out := fun k hk => by rw [h3.out k (by omega), h.b.out k hk]
    perm := (h3.all hab hn).trans h.b.perm
    src := fun p hp => by
      by_cases e : 2 * s * c ≤ p ∧ p < b
      · obtain ⟨q, q1, q2, q3⟩ := h3.src e.1 e.2
        obtain ⟨q', r1, r2, r3⟩ := h.b.src q (by omega)
        refine ⟨q', r1, ?_, by rw [q3, r3]⟩
        rw [r2, (dv_iff (by omega)).mpr ⟨q1, by omega⟩, (dv_iff (by omega)).mpr ⟨e.1, by omega⟩]
      · rw [h3.out p (by omega)]
        exact h.b.src p hp
    up := fun p q hpq hq he => by
      obtain ⟨d, hd⟩ : ∃ d, d = q / (2 * s) := ⟨_, rfl⟩
      have b1 := (dv_iff (by omega)).mp (he.trans hd.symm)
      have b2 := (dv_iff (by omega)).mp hd.symm
      rcases Nat.lt_trichotomy d c with e | e | e
      · have := dv_lt (s := 2 * s) e
        rw [h3.out p (by omega), h3.out q (by omega)]
        exact h.b.up p q hpq (by omega) he
      · subst e
        exact h3.up p q b1.1 hpq hq
      · have := dv_lt (s := 2 * s) e
        omega }
  rest k hk := by rw [h3.out k (by omega), h.rest k (by omega)]
/-- What is left is at most one block. -/
theorem mi_end {K : Int → Int} {f g g2 : Nat → Int} {n s c : Nat} (hs : 0 < s) (hB : BI K f n s n g) (h : MI K f g n s (2 * s * c) g2) (hc : 2 * s * c ≤ n) (hn : n ≤ 2 * s * c + s) : BI K f n (2 * s) n g2 where
  out := h.b.out
  perm := h.b.perm
  src := h.b.src
  up p q hpq hq he := by
    obtain ⟨d, hd⟩ : ∃ d, d = q / (2 * s) := ⟨_, rfl⟩
    have b1 := (dv_iff (by omega)).mp (he.trans hd.symm)
    have b2 := (dv_iff (by omega)).mp hd.symm
    rcases Nat.lt_trichotomy d c with e | e | e
    · have := dv_lt (s := 2 * s) e
      exact h.b.up p q hpq (by omega) he
    · subst e
      rw [h.rest p b1.1, h.rest q b2.1]
      have e2 : 2 * s * d = s * (2 * d) := by rw [Nat.mul_comm 2 s, Nat.mul_assoc]
      refine hB.up p q hpq hq ?_
      rw [(dv_iff hs).mpr ⟨e2 ▸ b1.1, by omega⟩, (dv_iff hs).mpr ⟨e2 ▸ b2.1, by omega⟩]
    · have := dv_lt (s := 2 * s) e
      omega
/-- What merging asks. -/
theorem mi_ask {K : Int → Int} {f g g2 : Nat → Int} {n s c b : Nat} {V : Int → Prop} {O : Int → Int → Prop} (hs : 0 < s) (hB : BI K f n s n g) (h : MI K f g n s (2 * s * c) g2) (h1 : 2 * s * c + s < b) (hb : b ≤ 2 * s * c + 2 * s) (hn : b ≤ n)
    (hV : allV V f 0 n) (hO : ∀ p q, p < q → q < n → O (f p) (f q)) :
    allV V g2 (2 * s * c) b ∧ upK K g2 (2 * s * c) (2 * s * c + s) ∧ upK K g2 (2 * s * c + s) b ∧ ∀ p q, 2 * s * c ≤ p → p < 2 * s * c + s → 2 * s * c + s ≤ q → q < b → O (g2 p) (g2 q) := by
  have e2 : 2 * s * c = s * (2 * c) := by rw [Nat.mul_comm 2 s, Nat.mul_assoc]
  have e3 : 2 * s * c + s = s * (2 * c + 1) := by rw [e2, Nat.mul_add, Nat.mul_one]
  refine ⟨fun k k1 k2 => ?_, fun p q p1 p2 p3 => ?_, fun p q p1 p2 p3 => ?_, fun p q p1 p2 p3 p4 => ?_⟩
  · rw [h.rest k k1]
    obtain ⟨q, q1, q2, q3⟩ := hB.src k (by omega)
    rw [q3]
    exact hV q (by omega) q1
  · rw [h.rest p (by omega), h.rest q (by omega)]
    refine hB.up p q p2 (by omega) ?_
    rw [(dv_iff (c := 2 * c) hs).mpr ⟨by omega, by omega⟩, (dv_iff (c := 2 * c) hs).mpr ⟨by omega, by omega⟩]
  · rw [h.rest p (by omega), h.rest q (by omega)]
    refine hB.up p q p2 (by omega) ?_
    rw [(dv_iff (c := 2 * c + 1) hs).mpr ⟨by omega, by omega⟩, (dv_iff (c := 2 * c + 1) hs).mpr ⟨by omega, by omega⟩]
  · rw [h.rest p (by omega), h.rest q (by omega)]
    obtain ⟨p', r1, r2, r3⟩ := hB.src p (by omega)
    obtain ⟨q', t1, t2, t3⟩ := hB.src q (by omega)
    rw [(dv_iff (c := 2 * c) (p := p) hs).mpr ⟨by omega, by omega⟩, dv_iff hs] at r2
    rw [(dv_iff (c := 2 * c + 1) (p := q) hs).mpr ⟨by omega, by omega⟩, dv_iff hs] at t2
    rw [r3, t3]
    exact hO _ _ (by omega) (by omega)
end Go.Proofs.Ythlpfjcjfhdmaaa
