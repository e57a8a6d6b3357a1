/- Contracts: the reference's greedy loads. -/
import Derived.Test.YtdinkpefoljigaaQ
set_option maxRecDepth 100000
set_option linter.unusedSimpArgs false
set_option linter.unusedVariables false
namespace Go.Proofs.Ytdinkpefoljigaa
open Go.RowKit
/-- Those that are done. -/
def dn (l : List Bun) (n k : Nat) : Bool := ((heavO l).take n).contains (k : Int)
theorem dn_succ {l : List Bun} {n : Nat} (h : n < (heavO l).length) (k : Nat) : dn l (n + 1) k = ((k : Int) == ix (heavO l) n || dn l n k) := by
  unfold dn
  rw [take_snoc h, List.contains_append, Bool.or_comm, Bool.eq_iff_iff]
  simp
theorem heavO_nodup (l : List Bun) : (heavO l).Nodup := by
  rw [heavO, (sortK_perm _ _).nodup_iff, rng, List.nodup_iff_pairwise_ne, List.pairwise_map]
  exact List.Pairwise.imp (fun h => by omega) List.pairwise_lt_range
theorem dn_mem {l : List Bun} {n k : Nat} (hk : k < l.length) (h : dn l n k = false) : ∃ j, n ≤ j ∧ j < (heavO l).length ∧ ix (heavO l) j = k := by
  have hm : (k : Int) ∈ heavO l := by
    rw [heavO, (sortK_perm _ _).mem_iff, rng]
    exact List.mem_map.2 ⟨k, by simpa using hk, rfl⟩
  obtain ⟨j, hj, e⟩ := List.mem_iff_getElem.1 hm
  refine ⟨j, ?_, hj, by rw [ix_eq hj, e]⟩
  rcases Nat.lt_or_ge j n with h2 | h2
  · exfalso
    unfold dn at h
    have : (k : Int) ∈ (heavO l).take n := List.mem_iff_getElem.2 ⟨j, by simp; omega, by rw [List.getElem_take]; exact e⟩
    rw [List.contains_iff_mem.2 this] at h
    cases h
  · exact h2
theorem dn_next {l : List Bun} {n : Nat} (h : n < (heavO l).length) : dn l n (ix (heavO l) n).toNat = false := by
  have hm := heavO_mem (ix_mem h)
  cases e : dn l n (ix (heavO l) n).toNat with
  | false => rfl
  | true =>
    exfalso
    unfold dn at e
    have hmem := List.contains_iff_mem.1 e
    rw [show (((ix (heavO l) n).toNat : Nat) : Int) = ix (heavO l) n by omega] at hmem
    obtain ⟨j, hj, e2⟩ := List.mem_iff_getElem.1 hmem
    have hjn : j < n := by simp at hj; omega
    rw [List.getElem_take, ix_eq h] at e2
    have := (List.nodup_iff_pairwise_ne.1 (heavO_nodup l))
    exact (List.pairwise_iff_getElem.1 this) j n (by omega) h hjn e2
/-- The best one of the first i that are not done. -/
structure Bst (l : List Bun) (n i : Nat) (k : Int) : Prop where
  none : k < 0 → k = -1 ∧ ∀ j, j < i → dn l n j = true
  some : 0 ≤ k → k < i ∧ dn l n k.toNat = false ∧ ∀ j, j < i → dn l n j = false → KH l k ≤ KH l j
theorem bst_0 (l : List Bun) (n : Nat) : Bst l n 0 (-1) := ⟨fun _ => ⟨rfl, fun j hj => by omega⟩, fun h => by omega⟩
theorem bst_end {l : List Bun} {n : Nat} {k : Int} (hlen : l.length ≤ 1000) (hn : n < (heavO l).length) (h : Bst l n l.length k) : k = ix (heavO l) n := by
  have hm := heavO_mem (ix_mem hn)
  have hd := dn_next hn
  have h0 : 0 ≤ k := by
    rcases Int.lt_or_le k 0 with h1 | h1
    · have := (h.none h1).2 (ix (heavO l) n).toNat (by omega)
      rw [hd] at this; cases this
    · exact h1
  obtain ⟨h1, h2, h3⟩ := h.some h0
  have h4 := h3 _ (by omega) hd
  rw [show (((ix (heavO l) n).toNat : Nat) : Int) = ix (heavO l) n by omega] at h4
  obtain ⟨j, j1, j2, j3⟩ := dn_mem (by omega) h2
  have h5 : KH l (ix (heavO l) n) ≤ KH l (ix (heavO l) j) := by
    rcases Nat.lt_or_eq_of_le j1 with hlt | rfl
    · have := List.pairwise_iff_getElem.1 (sortK_up (KH l) (rng l.length)) n j (by simpa [heavO] using hn) (by simpa [heavO] using j2) hlt
      rw [ix_eq hn, ix_eq j2]
      exact this
    · exact Int.le_refl _
  rw [j3] at h5
  have e : ((k.toNat : Nat) : Int) = k := by omega
  rw [e] at h5
  exact kH_inj hlen ⟨h0, h1⟩ hm (by omega)
theorem bst_no {l : List Bun} {n i : Nat} {k : Int} (h : Bst l n i k) (hd : dn l n i = true ∨ (0 ≤ k ∧ KH l k ≤ KH l i)) : Bst l n (i + 1) k := by
  refine ⟨fun hk => ⟨(h.none hk).1, fun j hj => ?_⟩, fun hk => ?_⟩
  · by_cases e : j = i
    · subst e
      rcases hd with hd | ⟨h0, _⟩
      · exact hd
      · omega
    · exact (h.none hk).2 j (by omega)
  · obtain ⟨h1, h2, h3⟩ := h.some hk
    refine ⟨by omega, h2, fun j hj hdj => ?_⟩
    by_cases e : j = i
    · subst e
      rcases hd with hd | ⟨_, hd⟩
      · rw [hd] at hdj; cases hdj
      · exact hd
    · exact h3 j (by omega) hdj
theorem bst_yes {l : List Bun} {n i : Nat} {k : Int} (h : Bst l n i k) (hd : dn l n i = false) (hb : 0 ≤ k → KH l i ≤ KH l k) : Bst l n (i + 1) i := by
  refine ⟨fun hk => by omega, fun _ => ⟨by omega, by simpa using hd, fun j hj hdj => ?_⟩⟩
  by_cases e : j = i
  · subst e; exact Int.le_refl _
  · rcases Int.lt_or_le k 0 with hk | hk
    · have := (h.none hk).2 j (by omega)
      rw [hdj] at this; cases this
    · exact Int.le_trans (hb hk) ((h.some hk).2.2 j (by omega) hdj)
theorem KH_lt {l : List Bun} {i k : Int} (hlen : l.length ≤ 1000) (h0 : 0 ≤ k) (h1 : k < i) (h2 : i < l.length) : KH l i ≤ KH l k ↔ (ix l k.toNat).mass < (ix l i.toNat).mass := by
  simp only [KH]
  omega
theorem fitAt_eq {l : List Bun} {most i : Int} {out : List (List Int)} {a : Nat} (ha : a ≤ out.length) (hn : ∀ j, j < a → fitB l most i (massL l (ix out j)) = false) (h : a < out.length → fitB l most i (massL l (ix out a)) = true) : fitAt l most i out = a := by
  unfold fitAt
  rcases Nat.lt_or_ge a out.length with h2 | h2
  · rw [List.findIdx_eq h2]
    refine ⟨by rw [← ix_eq h2]; exact h h2, fun j hj => ?_⟩
    have := hn j hj
    rw [ix_eq (by omega)] at this
    exact this
  · obtain rfl : a = out.length := by omega
    rw [List.findIdx_eq_length]
    intro x hx
    obtain ⟨j, hj, rfl⟩ := List.mem_iff_getElem.1 hx
    have := hn j hj
    rw [ix_eq hj] at this
    exact this
end Go.Proofs.Ytdinkpefoljigaa
