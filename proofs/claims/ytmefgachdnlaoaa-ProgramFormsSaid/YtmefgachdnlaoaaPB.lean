/- Plain law: tables of the simplex method; a step keeps them whole. -/
import Derived.Test.YtmefgachdnlaoaaPA
namespace Go.Proofs.Ytmefgachdnlaoaa.Lp
def up {α : Type} (f : Nat → α) (j : Nat) (x : α) (k : Nat) : α := if k = j then x else f k
theorem up_same {α : Type} (f : Nat → α) (j : Nat) (x : α) : up f j x j = x := by simp [up]
theorem up_ne {α : Type} (f : Nat → α) {j k : Nat} (x : α) (h : k ≠ j) : up f j x k = f k := by simp [up, h]
theorem sm_up {f : Nat → Int} {r : Nat} {x : Int} : ∀ {n : Nat}, r < n → sm n (up f r x) = sm n f - f r + x
  | n + 1, h => by
    rw [sm, sm]
    by_cases e : r = n
    · subst e
      have e : sm r (up f r x) = sm r f := sm_congr fun k hk => up_ne f x (by omega)
      rw [up_same, e]
      omega
    · rw [sm_up (n := n) (by omega), up_ne f x (fun h => e h.symm)]
      omega
/-- The form of the columns that a list of columns names. -/
def phi (A : Nat → Nat → Int) (m : Nat) (b : Nat → Nat) : Int := D m fun t k => A t (b k)
structure Tabl where
  T : Nat → Nat → Int
  b : Nat → Nat
  d : Int
structure Tab (A : Nat → Nat → Int) (m N : Nat) (s : Tabl) (g : Int) : Prop where
  pos : 0 < s.d
  unit : g = 1 ∨ g = -1
  bas : ∀ k, k < m → s.b k < N
  rel : ∀ j t, j < N → t < m → s.d * A t j = sm m fun k => s.T k j * A t (s.b k)
  den : s.d = g * phi A m s.b
  cell : ∀ i j, i < m → j < N → s.T i j = g * phi A m (up s.b i j)
section
variable {A : Nat → Nat → Int} {m N : Nat} {s : Tabl} {g : Int}
theorem phi_set (A : Nat → Nat → Int) (m : Nat) (b : Nat → Nat) (i j : Nat) : phi A m (up b i j) = D m (setC (fun t k => A t (b k)) i fun t => A t j) := D_congr fun t k _ _ => by
  unfold up setC
  split <;> rfl
theorem phi_self (A : Nat → Nat → Int) (m : Nat) (b : Nat → Nat) (i : Nat) : phi A m (up b i (b i)) = phi A m b := D_congr fun t k _ _ => by
  by_cases e : k = i
  · subst e; rw [up_same]
  · rw [up_ne _ _ e]
theorem phi_twice {b : Nat → Nat} {i k : Nat} (hi : i < m) (hk : k < m) (h : k ≠ i) : phi A m (up b i (b k)) = 0 :=
  D_alt hi hk (fun e => h e.symm) fun t _ => by rw [up_same, up_ne _ _ h]
theorem Tab.on (h : Tab A m N s g) {i : Nat} (hi : i < m) : s.T i (s.b i) = s.d := by
  rw [h.cell i _ hi (h.bas i hi), phi_self, h.den]
theorem Tab.off (h : Tab A m N s g) {i k : Nat} (hi : i < m) (hk : k < m) (hik : k ≠ i) : s.T i (s.b k) = 0 := by
  rw [h.cell i _ hi (h.bas k hk), phi_twice hi hk hik, Int.mul_zero]
theorem Tab.inj (h : Tab A m N s g) {i k : Nat} (hi : i < m) (hk : k < m) (e : s.b i = s.b k) : i = k := by
  rcases Nat.lt_trichotomy i k with h1 | h1 | h1
  · have := h.off hi hk (by omega : k ≠ i)
    rw [← e, h.on hi] at this
    have := h.pos; omega
  · exact h1
  · have := h.off hi hk (by omega : k ≠ i)
    rw [← e, h.on hi] at this
    have := h.pos; omega
theorem Tab.sq (h : Tab A m N s g) : g * g = 1 := by rcases h.unit with e | e <;> rw [e] <;> rfl
/-- **A step divides without a rest.** -/
theorem Tab.exact (h : Tab A m N s g) {r c : Nat} (hr : r < m) (hc : c < N) {i j : Nat} (hi : i < m) (hj : j < N) (hir : i ≠ r) :
    s.d * (g * phi A m (up (up s.b r c) i j)) = s.T i j * s.T r c - s.T i c * s.T r j := by
  have hd : s.d * phi A m (up (up s.b r c) i j) = sm m fun k => s.T k j * phi A m (up (up s.b r c) i (s.b k)) := by
    rw [phi_set]
    have e1 : ∀ k, phi A m (up (up s.b r c) i (s.b k)) = D m (setC (fun t q => A t (up s.b r c q)) i fun t => A t (s.b k)) := fun k => phi_set _ _ _ _ _
    have e2 : (fun k => s.T k j * phi A m (up (up s.b r c) i (s.b k))) = fun k => s.T k j * D m (setC (fun t q => A t (up s.b r c q)) i fun t => A t (s.b k)) := funext fun k => by rw [e1]
    rw [e2, ← D_sum hi (fun k => s.T k j) (fun k t => A t (s.b k)) m]
    have e3 := D_lin (M := fun t q => A t (up s.b r c q)) s.d 0 (fun t => A t j) (fun _ => 0) hi
    simp only [Int.zero_mul, Int.add_zero] at e3
    rw [← e3]
    refine D_congr fun t q ht _ => ?_
    unfold setC
    split
    · exact h.rel j t hj ht
    · rfl
  rw [sm_two (p := i) (q := r) hir hi hr] at hd
  · have z1 : phi A m (up (up s.b r c) i (s.b i)) = phi A m (up s.b r c) := D_congr fun t k _ _ => by
      by_cases e : k = i
      · subst e; rw [up_same, up_ne _ _ hir]
      · rw [up_ne _ _ e]
    have z2 : phi A m (up (up s.b r c) i (s.b r)) = - phi A m (up s.b i c) := by
      have sw := D_swap (M := fun t k => A t (s.b k)) hr hi (fun e => hir e.symm) (fun t => A t c) fun t => A t (s.b r)
      have q1 : phi A m (up (up s.b r c) i (s.b r)) = D m (setC (setC (fun t k => A t (s.b k)) r fun t => A t c) i fun t => A t (s.b r)) := D_congr fun t k _ _ => by
        unfold up setC
        split
        · rfl
        · split <;> rfl
      have q2 : phi A m (up s.b i c) = D m (setC (setC (fun t k => A t (s.b k)) r fun t => A t (s.b r)) i fun t => A t c) := D_congr fun t k _ _ => by
        unfold up setC
        split
        · rfl
        · split
          · rename_i e; rw [e]
          · rfl
      rw [q1, q2, sw]
    rw [z1, z2] at hd
    have c1 := h.cell i j hi hj
    have c2 := h.cell r c hr hc
    have c3 := h.cell i c hi hc
    have c4 := h.cell r j hr hj
    have sq := h.sq
    have k1 : phi A m (up s.b r c) = g * s.T r c := by rw [c2, ← Int.mul_assoc, sq, Int.one_mul]
    have k2 : phi A m (up s.b i c) = g * s.T i c := by rw [c3, ← Int.mul_assoc, sq, Int.one_mul]
    rw [k1, k2] at hd
    rw [Int.mul_left_comm, hd]
    grind
  · intro k hk hki hkr
    have : phi A m (up (up s.b r c) i (s.b k)) = 0 := D_alt hi hk (fun e => hki e.symm) fun t _ => by
      rw [up_same, up_ne _ _ hki, up_ne _ _ hkr]
    rw [this, Int.mul_zero]
/-- The table after a step. -/
structure Step (s s' : Tabl) (m N r c : Nat) (z : Int) : Prop where
  sign : z = 1 ∨ z = -1
  d : s'.d = z * s.T r c
  b : ∀ k, k < m → s'.b k = up s.b r c k
  row : ∀ j, j < N → s'.T r j = z * s.T r j
  rest : ∀ i j, i < m → i ≠ r → j < N → s.d * s'.T i j = z * (s.T i j * s.T r c - s.T i c * s.T r j)
theorem Tab.step (h : Tab A m N s g) {s' : Tabl} {r c : Nat} {z : Int} (hr : r < m) (hc : c < N) (hs : Step s s' m N r c z) (hpos : 0 < s'.d) : Tab A m N s' (g * z) := by
  have hd := h.pos
  have hph : ∀ (b b' : Nat → Nat), (∀ k, k < m → b k = b' k) → phi A m b = phi A m b' := fun b b' e => D_congr fun t k _ hk => by rw [e k hk]
  have hcell : ∀ i j, i < m → j < N → s'.T i j = g * z * phi A m (up s'.b i j) := fun i j hi hj => by
    by_cases e : i = r
    · subst e
      rw [hs.row j hj, h.cell i j hi hj, hph (up s'.b i j) (up s.b i j) fun k hk => ?_]
      · grind
      · by_cases ek : k = i
        · subst ek; rw [up_same, up_same]
        · rw [up_ne _ _ ek, up_ne _ _ ek, hs.b k hk, up_ne _ _ ek]
    · have e1 := hs.rest i j hi e hj
      have e2 := h.exact hr hc hi hj e
      rw [← e2] at e1
      have e3 : phi A m (up s'.b i j) = phi A m (up (up s.b r c) i j) := hph _ _ fun k hk => by
        by_cases ek : k = i
        · subst ek; rw [up_same, up_same]
        · rw [up_ne _ _ ek, up_ne _ _ ek, hs.b k hk]
      rw [e3]
      have : s.d * s'.T i j = s.d * (g * z * phi A m (up (up s.b r c) i j)) := by rw [e1]; grind
      exact Int.eq_of_mul_eq_mul_left (by omega) this
  refine ⟨hpos, ?_, fun k hk => ?_, fun j t hj ht => ?_, ?_, hcell⟩
  · rcases h.unit with e | e <;> rcases hs.sign with e' | e' <;> rw [e, e'] <;> simp
  · rw [hs.b k hk]
    unfold up
    split
    · exact hc
    · exact h.bas k hk
  · -- d' A_j = sum
    have r1 := h.rel j t hj ht
    have r2 := h.rel c t hc ht
    have key : s.d * (s.T r c * A t j) = s.d * (z * sm m fun k => s'.T k j * A t (s'.b k)) := by
      have e0 : sm m (fun k => s'.T k j * A t (s'.b k)) = sm m (up (fun k => s'.T k j * A t (s.b k)) r (s'.T r j * A t c)) := sm_congr fun k hk => by
        by_cases ek : k = r
        · subst ek; rw [up_same, hs.b k hk, up_same]
        · rw [up_ne _ _ ek, hs.b k hk, up_ne _ _ ek]
      rw [e0, sm_up hr]
      have zz : z * z = 1 := by rcases hs.sign with e' | e' <;> rw [e'] <;> rfl
      have e3 : s.d * (sm m fun k => s'.T k j * A t (s.b k)) = z * (s.T r c * (s.d * A t j)) - z * (s.T r j * (s.d * A t c)) + s.d * (s'.T r j * A t (s.b r)) := by
        rw [r1, r2, ← sm_mul, ← sm_mul, ← sm_mul, ← sm_mul, ← sm_mul, ← sm_sub]
        have : (sm m fun k => s.d * (s'.T k j * A t (s.b k))) = sm m (up (fun k => z * (s.T r c * (s.T k j * A t (s.b k))) - z * (s.T r j * (s.T k c * A t (s.b k)))) r (s.d * (s'.T r j * A t (s.b r)))) := sm_congr fun k hk => by
          by_cases ek : k = r
          · subst ek; rw [up_same]
          · rw [up_ne _ _ ek, ← Int.mul_assoc, hs.rest k j hk ek hj]
            grind
        rw [this, sm_up hr]
        grind
      have e4 := hs.row j hj
      grind
    have := Int.eq_of_mul_eq_mul_left (by omega) key
    rw [hs.d, Int.mul_assoc, this, ← Int.mul_assoc]
    have zz : z * z = 1 := by rcases hs.sign with e' | e' <;> rw [e'] <;> rfl
    rw [zz, Int.one_mul]
  · have := hcell r c hr hc
    rw [hs.row c hc, ← hs.d] at this
    rw [this, hph (up s'.b r c) s'.b fun k hk => ?_]
    by_cases ek : k = r
    · subst ek; rw [up_same, hs.b k hk, up_same]
    · rw [up_ne _ _ ek]
end
end Go.Proofs.Ytmefgachdnlaoaa.Lp
