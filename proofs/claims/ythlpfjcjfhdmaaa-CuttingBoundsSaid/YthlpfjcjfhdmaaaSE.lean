/- Plain facts on stretches of a list that is sorted in its place. -/
import Derived.Test.YthlpfjcjfhdmaaaC
set_option maxRecDepth 100000
set_option linter.unusedSimpArgs false
set_option linter.unusedVariables false
namespace Go.Proofs.Ythlpfjcjfhdmaaa
/-- `n` elements from place `a` on. -/
def seg (f : Nat → Int) (a n : Nat) : List Int := (List.range n).map fun k => f (a + k)
theorem seg_len (f : Nat → Int) (a n : Nat) : (seg f a n).length = n := by simp [seg]
theorem seg_succ (f : Nat → Int) (a n : Nat) : seg f a (n + 1) = seg f a n ++ [f (a + n)] := by simp [seg, List.range_succ]
theorem seg_app (f : Nat → Int) (a n : Nat) : ∀ m, seg f a (n + m) = seg f a n ++ seg f (a + n) m
  | 0 => by simp [seg]
  | m + 1 => by rw [show n + (m + 1) = (n + m) + 1 by omega, seg_succ, seg_app f a n m, seg_succ, List.append_assoc, Nat.add_assoc]
theorem seg_congr {f g : Nat → Int} {a n : Nat} (h : ∀ k, a ≤ k → k < a + n → f k = g k) : seg f a n = seg g a n := by
  unfold seg
  refine List.map_congr_left fun k hk => ?_
  rw [List.mem_range] at hk
  exact h _ (by omega) (by omega)
theorem seg_congr2 {f g : Nat → Int} {a b n : Nat} (h : ∀ k, k < n → f (a + k) = g (b + k)) : seg f a n = seg g b n := by
  unfold seg
  refine List.map_congr_left fun k hk => ?_
  rw [List.mem_range] at hk
  exact h _ hk
theorem seg_one (f : Nat → Int) (a : Nat) : seg f a 1 = [f a] := by simp [seg]
theorem mem_seg {f : Nat → Int} {a n : Nat} {v : Int} : v ∈ seg f a n ↔ ∃ k, a ≤ k ∧ k < a + n ∧ f k = v := by
  simp only [seg, List.mem_map, List.mem_range]
  exact ⟨fun ⟨k, h1, h2⟩ => ⟨a + k, by omega, by omega, h2⟩, fun ⟨k, h1, h2, h3⟩ => ⟨k - a, by omega, by rw [show a + (k - a) = k by omega]; exact h3⟩⟩
/-- Two places exchanged. -/
def swF (f : Nat → Int) (p q : Nat) : Nat → Int := fun k => if k = q then f p else if k = p then f q else f k
theorem perm_swap (A B C : List Int) (x y : Int) : (A ++ (x :: (B ++ (y :: C)))).Perm (A ++ (y :: (B ++ (x :: C)))) := by
  refine List.Perm.append_left A ?_
  have h1 : (x :: (B ++ (y :: C))).Perm (x :: y :: (B ++ C)) := List.Perm.cons x List.perm_middle
  have h2 : (y :: (B ++ (x :: C))).Perm (y :: x :: (B ++ C)) := List.Perm.cons y List.perm_middle
  exact h1.trans ((List.Perm.swap y x _).trans h2.symm)
theorem swF_perm (f : Nat → Int) {a n p q : Nat} (h1 : a ≤ p) (h2 : p < q) (h3 : q < a + n) : (seg (swF f p q) a n).Perm (seg f a n) := by
  have e : ∀ g : Nat → Int, seg g a n = seg g a (p - a) ++ (g p :: (seg g (p + 1) (q - p - 1) ++ (g q :: seg g (q + 1) (a + n - q - 1)))) := by
    intro g
    have e1 := seg_app g a (p - a) (1 + (q - p - 1) + (1 + (a + n - q - 1)))
    have e2 := seg_app g p (1 + (q - p - 1)) (1 + (a + n - q - 1))
    have e3 := seg_app g p 1 (q - p - 1)
    have e4 := seg_app g q 1 (a + n - q - 1)
    rw [show p - a + (1 + (q - p - 1) + (1 + (a + n - q - 1))) = n by omega, show a + (p - a) = p by omega] at e1
    rw [show p + (1 + (q - p - 1)) = q by omega] at e2
    rw [e1, e2, e3, e4, seg_one, seg_one]
    simp
  have t : ∀ x y, (∀ k, x ≤ k → k < x + y → k ≠ p ∧ k ≠ q) → seg (swF f p q) x y = seg f x y := fun x y h => seg_congr fun k h1 h2 => by
    obtain ⟨i1, i2⟩ := h k h1 h2
    simp [swF, i1, i2]
  rw [e, e f, t a _ (fun k _ _ => ⟨by omega, by omega⟩), t (p + 1) _ (fun k _ _ => ⟨by omega, by omega⟩), t (q + 1) _ (fun k _ _ => ⟨by omega, by omega⟩)]
  have s1 : swF f p q p = f q := by simp [swF, show p ≠ q by omega]
  have s2 : swF f p q q = f p := by simp [swF]
  rw [s1, s2]
  exact perm_swap _ _ _ _ _
/-- A stretch is in order. -/
def upK (K : Int → Int) (f : Nat → Int) (a b : Nat) : Prop := ∀ p q, a ≤ p → p < q → q < b → K (f p) ≤ K (f q)
theorem upK_one (K : Int → Int) (f : Nat → Int) (a : Nat) : upK K f a (a + 1) := fun p q _ _ _ => by omega
/-- The elements in order. -/
def sortK (K : Int → Int) (l : List Int) : List Int := l.mergeSort fun x y => decide (K x ≤ K y)
theorem sortK_perm (K : Int → Int) (l : List Int) : (sortK K l).Perm l := List.mergeSort_perm _ _
theorem sortK_up (K : Int → Int) (l : List Int) : (sortK K l).Pairwise fun x y => K x ≤ K y := by
  have h := List.pairwise_mergeSort (le := fun x y => decide (K x ≤ K y)) (fun a b c h1 h2 => by simp only [decide_eq_true_eq] at *; omega) (fun a b => by simp only [Bool.or_eq_true, decide_eq_true_eq]; omega) l
  simpa [sortK] using h
theorem sort_one {K : Int → Int} : ∀ {l m : List Int}, l.Perm m → (∀ x ∈ l, ∀ y ∈ l, K x = K y → x = y) → (l.Pairwise fun x y => K x ≤ K y) → (m.Pairwise fun x y => K x ≤ K y) → l = m
  | [], m, hp, _, _, _ => (List.Perm.nil_eq hp)
  | x :: l, [], hp, _, _, _ => by have := hp.length_eq; simp at this
  | x :: l, y :: m, hp, hi, h1, h2 => by
    rw [List.pairwise_cons] at h1 h2
    have hx : x ∈ y :: m := hp.mem_iff.mp (by simp)
    have hy : y ∈ x :: l := hp.mem_iff.mpr (by simp)
    have e : x = y := by
      rcases List.mem_cons.mp hx with e | e
      · exact e
      rcases List.mem_cons.mp hy with e2 | e2
      · exact e2.symm
      exact hi x (by simp) y (by simp [e2]) (Int.le_antisymm (h1.1 y e2) (h2.1 x e))
    subst e
    rw [sort_one (List.Perm.cons_inv hp) (fun a ha b hb => hi a (by simp [ha]) b (by simp [hb])) h1.2 h2.2]
theorem seg_up {K : Int → Int} {f : Nat → Int} {a n : Nat} (h : upK K f a (a + n)) : (seg f a n).Pairwise fun x y => K x ≤ K y := by
  rw [List.pairwise_iff_getElem]
  intro i j hi hj hij
  rw [seg_len] at hi hj
  simp only [seg, List.getElem_map, List.getElem_range]
  exact h _ _ (by omega) (by omega) (by omega)
theorem seg_sorted {K : Int → Int} {f : Nat → Int} {n : Nat} {l : List Int} (hp : (seg f 0 n).Perm l) (hi : ∀ x ∈ l, ∀ y ∈ l, K x = K y → x = y) (h : upK K f 0 n) : seg f 0 n = sortK K l :=
  sort_one (hp.trans (sortK_perm K l).symm) (fun x hx y hy => hi x (hp.mem_iff.mp hx) y (hp.mem_iff.mp hy)) (seg_up (by simpa using h)) (sortK_up K l)
theorem seg_ix {f : Nat → Int} {n : Nat} {l : List Int} (h : seg f 0 n = l) {k : Nat} (hk : k < n) : f k = ix l k := by
  subst h
  rw [ix_eq (by rw [seg_len]; exact hk)]
  simp [seg]
end Go.Proofs.Ythlpfjcjfhdmaaa
