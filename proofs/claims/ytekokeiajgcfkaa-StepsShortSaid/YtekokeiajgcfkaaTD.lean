/- StepsShort: plain facts on a list with a step more. -/
import Derived.Test.YtekokeiajgcfkaaT
import Derived.Test.YtekokeiajgcfkaaDA
set_option maxRecDepth 100000
set_option linter.unusedSimpArgs false
set_option linter.unusedVariables false
namespace Go.Proofs.Ytekokeiajgcfkaa
/-- A step put in ahead of the first one that does not stand before it. -/
def putL (x n : Int) : List Stp → List Stp
  | [] => [⟨x, n⟩]
  | p :: l => if p.x < x then p :: putL x n l else ⟨x, n⟩ :: p :: l
theorem put_mem {x n : Int} : ∀ {l : List Stp} {q : Stp}, q ∈ putL x n l → q = ⟨x, n⟩ ∨ q ∈ l
  | [], q, h => by simpa [putL] using h
  | p :: l, q, h => by
    rw [putL] at h
    split at h
    · rcases List.mem_cons.1 h with rfl | h
      · exact .inr List.mem_cons_self
      · rcases put_mem h with e | e
        · exact .inl e
        · exact .inr (List.mem_cons_of_mem _ e)
    · rcases List.mem_cons.1 h with rfl | h
      · exact .inl rfl
      · exact .inr h
theorem put_len {x n : Int} : ∀ {l : List Stp}, (putL x n l).length = l.length + 1
  | [] => rfl
  | p :: l => by
    rw [putL]
    split
    · simp [put_len (l := l)]
    · simp
theorem put_asc {x n : Int} : ∀ {l : List Stp}, AscP l → (∀ q ∈ l, q.x ≠ x) → AscP (putL x n l)
  | [], _, _ => ⟨fun q hq => by simp at hq, trivial⟩
  | p :: l, h, hx => by
    rw [putL]
    split
    · rename_i hp
      refine ⟨fun q hq => ?_, put_asc h.2 fun q hq => hx q (List.mem_cons_of_mem _ hq)⟩
      rcases put_mem hq with rfl | hq
      · exact hp
      · exact h.1 q hq
    · rename_i hp
      have := hx p List.mem_cons_self
      refine ⟨fun q hq => ?_, h⟩
      rcases List.mem_cons.1 hq with rfl | hq
      · simp only; omega
      · have := h.1 q hq
        simp only; omega
theorem at_put {x y : Int} : ∀ {l : List Stp} {n0 : Int}, AscP l → (∀ q ∈ l, q.x ≠ x) → atF y n0 (putL x (atF x n0 l) l) = atF y n0 l
  | [], n0, _, _ => by simp [putL, atF]
  | p :: l, n0, h, hx => by
    have hpx := hx p List.mem_cons_self
    rw [putL]
    by_cases hp : p.x < x
    · rw [if_pos hp]
      have e : atF x n0 (p :: l) = atF x p.v l := by rw [atF, if_pos (by omega)]
      rw [e]
      have ih := at_put (y := y) (n0 := p.v) h.2 fun q hq => hx q (List.mem_cons_of_mem _ hq)
      simp only [atF]
      by_cases hy : p.x ≤ y
      · rw [if_pos hy]; exact ih
      · rw [if_neg hy, atF_none n0 fun q hq => ?_, atF_none n0 fun q hq => ?_]
        · have := h.1 q hq; omega
        · rcases put_mem hq with rfl | hq
          · simp only; omega
          · have := h.1 q hq; omega
    · rw [if_neg hp]
      have e : atF x n0 (p :: l) = n0 := atF_none n0 fun q hq => by
        rcases List.mem_cons.1 hq with rfl | hq
        · omega
        · have := h.1 q hq; omega
      rw [e]
      simp [atF]
theorem put_take {x n : Int} : ∀ {l : List Stp} {k : Nat}, k ≤ l.length → (∀ j, j < k → (ix l j).x < x) → (k < l.length → ¬ (ix l k).x < x) → l.take k ++ ⟨x, n⟩ :: l.drop k = putL x n l
  | [], k, hk, _, _ => by
    obtain rfl : k = 0 := by simpa using hk
    simp [putL]
  | p :: l, 0, _, _, h => by
    have : ¬ p.x < x := h (by simp)
    rw [putL, if_neg this]
    simp
  | p :: l, k + 1, hk, h1, h2 => by
    have : p.x < x := h1 0 (by omega)
    rw [putL, if_pos this, ← put_take (k := k) (n := n) (by simpa using hk) (fun j hj => h1 (j + 1) (by omega)) fun h => h2 (by simpa using h)]
    simp
theorem short_put {l : List Stp} {x : Int} (hl : AscP l) (hx : ∀ q ∈ l, q.x ≠ x) : shortL 0 (putL x (atL l x) l) = shortL 0 l :=
  short_eq (put_asc hl hx) hl fun y => at_put hl hx
theorem idx_from {p : Stp → Bool} : ∀ (l : List Stp) (k0 : Int), (idxB p l k0 = -1 ∧ ∀ q ∈ l, p q = false) ∨ ∃ j : Nat, j < l.length ∧ idxB p l k0 = k0 + j ∧ p (ix l j) = true ∧ ∀ i, i < j → p (ix l i) = false
  | [], k0 => .inl ⟨rfl, fun q hq => by simp at hq⟩
  | q :: l, k0 => by
    cases hq : p q with
    | true => exact .inr ⟨0, by simp, by simp [idxB, hq], hq, fun i hi => by omega⟩
    | false =>
      have e : idxB p (q :: l) k0 = idxB p l (k0 + 1) := by simp [idxB, hq]
      rw [e]
      rcases idx_from l (k0 + 1) with ⟨h1, h2⟩ | ⟨j, h1, h2, h3, h4⟩
      · refine .inl ⟨h1, fun r hr => ?_⟩
        rcases List.mem_cons.1 hr with rfl | hr
        · exact hq
        · exact h2 r hr
      · refine .inr ⟨j + 1, by simpa using h1, by rw [h2]; omega, h3, fun i hi => ?_⟩
        cases i with
        | zero => exact hq
        | succ i => exact h4 i (by omega)
theorem idx_place {l : List Stp} {x ki : Int} (h : idxB (fun q => decide (x ≤ q.x)) l 0 = ki) : ∃ kN : Nat, kN ≤ l.length ∧ (∀ j, j < kN → (ix l j).x < x) ∧ (kN < l.length → ¬ (ix l kN).x < x) ∧ (ki < 0 → kN = l.length) ∧ (¬ ki < 0 → ki = kN) := by
  rcases idx_from (p := fun q => decide (x ≤ q.x)) l 0 with ⟨h1, h2⟩ | ⟨j, h1, h2, h3, h4⟩
  · refine ⟨l.length, Nat.le_refl _, fun j hj => ?_, fun h => absurd h (by omega), fun _ => rfl, fun h5 => absurd h5 (by omega)⟩
    have := h2 _ (ix_mem hj)
    simp only [decide_eq_false_iff_not] at this
    omega
  · refine ⟨j, by omega, fun i hi => ?_, fun _ => ?_, fun h5 => absurd h5 (by omega), fun _ => by omega⟩
    · have := h4 i hi
      simp only [decide_eq_false_iff_not] at this
      omega
    · simp only [decide_eq_true_eq] at h3
      omega
end Go.Proofs.Ytekokeiajgcfkaa
