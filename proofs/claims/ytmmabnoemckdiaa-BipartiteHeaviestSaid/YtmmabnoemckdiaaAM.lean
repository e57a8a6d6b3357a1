/- Plain: the sum of a matching. -/
import Derived.Test.YtmmabnoemckdiaaAL
set_option maxRecDepth 100000
set_option linter.unusedSimpArgs false
set_option linter.unusedVariables false
namespace Go.Proofs.Ytmmabnoemckdiaa
open Go.RowKit Bip
/-- Whether a column may be taken by a row. -/
def badK (W : List (List Int)) (p : List Int) (k : Nat) : Prop := ix p k < 0 ∨ ((ix W k).length : Int) ≤ ix p k ∨ ix (ix W k) (ix p k).toNat < 0 ∨ ix p k ∈ p.take k
instance (W : List (List Int)) (p : List Int) (k : Nat) : Decidable (badK W p k) := by unfold badK; infer_instance
def sumK (W : List (List Int)) (p : List Int) : Nat → Option Int
  | 0 => some 0
  | k + 1 => match sumK W p k with
    | none => none
    | some n => if ix p k = -1 then some n else if badK W p k then none else some (n + ix (ix W k) (ix p k).toNat)
def sumR (W : List (List Int)) (p : List Int) : Option Int := if p.length = W.length then sumK W p W.length else none
theorem sumK_bnd {W : List (List Int)} (h : WOk W) {p : List Int} : ∀ (k : Nat) (n : Int), k ≤ W.length → sumK W p k = some n → 0 ≤ n ∧ n ≤ k * 1073741824
  | 0, n, _, hs => by
    simp only [sumK, Option.some.injEq] at hs
    omega
  | k + 1, n, hk, hs => by
    unfold sumK at hs
    cases hp : sumK W p k with
    | none => rw [hp] at hs; cases hs
    | some m =>
      rw [hp] at hs
      have ih := sumK_bnd h k m (by omega) hp
      simp only at hs
      split at hs
      · have := Option.some.inj hs
        omega
      · split at hs
        · cases hs
        · rename_i h1 h2
          have h3 := Option.some.inj hs
          unfold badK at h2
          simp only [not_or] at h2
          have := h.small _ (ix_mem (show k < W.length by omega)) _ (ix_mem (l := ix W k) (k := (ix p k).toNat) (by omega))
          omega
theorem sumK_none {W : List (List Int)} {p : List Int} {k : Nat} (h : sumK W p k = none) : ∀ d, sumK W p (k + d) = none
  | 0 => h
  | d + 1 => by
    rw [show k + (d + 1) = (k + d) + 1 by omega, sumK, sumK_none h d]
/-- The columns that have been taken, as bits. -/
def setK (p : List Int) : Nat → Nat
  | 0 => 0
  | k + 1 => if ix p k < 0 then setK p k else setK p k ||| 2 ^ (ix p k).toNat
theorem setK_bit {p : List Int} : ∀ (k j : Nat), k ≤ p.length → ((setK p k).testBit j = true ↔ (j : Int) ∈ p.take k)
  | 0, j, _ => by simp [setK]
  | k + 1, j, h => by
    have ih := setK_bit (p := p) k j (by omega)
    rw [take_snoc (by omega), List.mem_append, List.mem_singleton]
    unfold setK
    split
    · rw [ih]
      exact ⟨.inl, fun h => h.elim id fun h => absurd h (by omega)⟩
    · rw [Nat.testBit_or, Bool.or_eq_true, ih, Nat.testBit_two_pow, decide_eq_true_eq]
      exact ⟨fun h => h.imp id fun h => by omega, fun h => h.imp id fun h => by omega⟩
theorem rowB_ge0 {next : Nat → Int} {r : List Int} {s : Nat} : ∀ n, next s ≤ rowB next r s n
  | 0 => Int.le_refl _
  | n + 1 => by
    have ih := rowB_ge0 (next := next) (r := r) (s := s) n
    unfold rowB
    cases decide (0 ≤ ix r n) && !s.testBit n
    · exact ih
    · exact Int.le_trans ih (Int.le_max_left _ _)
theorem rowB_ge {next : Nat → Int} {r : List Int} {s k : Nat} (h0 : 0 ≤ ix r k) (hb : s.testBit k = false) : ∀ n, k < n → ix r k + next (s ||| 2 ^ k) ≤ rowB next r s n
  | 0, h => by omega
  | n + 1, h => by
    by_cases e : k = n
    · subst e
      unfold rowB
      rw [decide_eq_true h0, hb]
      exact Int.le_max_right _ _
    · have ih := rowB_ge (next := next) (r := r) h0 hb n (by omega)
      unfold rowB
      cases decide (0 ≤ ix r n) && !s.testBit n
      · exact ih
      · exact Int.le_trans ih (Int.le_max_left _ _)
/-- No matching is heavier. -/
theorem sum_le {W : List (List Int)} {p : List Int} {n : Int} (hl : p.length = W.length) (hn : sumK W p W.length = some n) : ∀ (d k : Nat) (m : Int), k + d = W.length → sumK W p k = some m → n ≤ m + bst (W.drop k) (setK p k)
  | 0, k, m, hk, hm => by
    obtain rfl : k = W.length := by omega
    rw [hn] at hm
    have := Option.some.inj hm
    rw [List.drop_length, bst]
    omega
  | d + 1, k, m, hk, hm => by
    have hkl : k < W.length := by omega
    rw [bst_drop hkl]
    have h0 := rowB_ge0 (next := bst (W.drop (k + 1))) (r := ix W k) (s := setK p k) (ix W k).length
    cases hs : sumK W p (k + 1) with
    | none =>
      have := sumK_none hs d
      rw [show k + 1 + d = W.length by omega, hn] at this
      cases this
    | some m' =>
      have ih := sum_le hl hn d (k + 1) m' (by omega) hs
      unfold sumK at hs
      rw [hm] at hs
      simp only at hs
      unfold setK at ih
      split at hs
      · have := Option.some.inj hs
        rw [if_pos (by omega)] at ih
        omega
      · split at hs
        · cases hs
        · rename_i h1 h2
          have h3 := Option.some.inj hs
          unfold badK at h2
          simp only [not_or] at h2
          obtain ⟨q1, q2, q3, q4⟩ := h2
          rw [if_neg (by omega)] at ih
          have hb : (setK p k).testBit (ix p k).toNat = false := by
            rw [Bool.eq_false_iff]
            intro h
            have := (setK_bit k _ (by omega)).1 h
            rw [show (((ix p k).toNat : Nat) : Int) = ix p k by omega] at this
            exact q4 this
          have := rowB_ge (next := bst (W.drop (k + 1))) (r := ix W k) (s := setK p k) (k := (ix p k).toNat) (by omega) hb (ix W k).length (by omega)
          omega
/-- The heaviest matching has its sum. -/
theorem sum_pick {W : List (List Int)} : ∀ k, k ≤ W.length → sumK W (hpick W 0) k = some (bst W 0 - bst (W.drop k) (setK (hpick W 0) k)) ∧ (hpick W 0).drop k = hpick (W.drop k) (setK (hpick W 0) k)
  | 0, _ => by simp [sumK, setK]
  | k + 1, hk => by
    obtain ⟨h1, h2⟩ := sum_pick (W := W) k (by omega)
    have hkl : k < W.length := by omega
    have hpl := hpick_len W 0
    have hd : (hpick W 0).drop k = ix (hpick W 0) k :: (hpick W 0).drop (k + 1) := by
      rw [List.drop_eq_getElem_cons (show k < (hpick W 0).length by omega), ix_eq (show k < (hpick W 0).length by omega)]
    unfold sumK
    rw [h1]
    simp only
    generalize hS : setK (hpick W 0) k = s at *
    by_cases hex : ∃ j, j < (ix W k).length ∧ okW (W.drop (k + 1)) (ix W k) (bst (W.drop k) s) s j = true ∧ ∀ q, q < j → okW (W.drop (k + 1)) (ix W k) (bst (W.drop k) s) s q = false
    · obtain ⟨j, j1, j2, j3⟩ := hex
      have h3 := hpick_some hkl j1 j3 j2 []
      rw [List.nil_append, List.nil_append, ← h2, hd] at h3
      simp only [List.cons_append, List.nil_append, List.cons.injEq] at h3
      obtain ⟨h4, h5⟩ := h3
      have hset : setK (hpick W 0) (k + 1) = s ||| 2 ^ j := by
        unfold setK
        rw [h4, if_neg (by omega), hS]
        rfl
      rw [hset, h4, if_neg (by omega)]
      have hbs := bst_some j2
      have j2' := j2
      unfold okW at j2'
      simp only [Bool.and_eq_true, decide_eq_true_eq, Bool.not_eq_true'] at j2'
      refine ⟨?_, h5⟩
      rw [if_neg ?_]
      · congr 1
        rw [Int.toNat_natCast]
        omega
      · unfold badK
        rw [h4, Int.toNat_natCast]
        rintro (h | h | h | h)
        · omega
        · omega
        · omega
        · have := (setK_bit k j (by omega)).2 h
          rw [hS, j2'.2.1] at this
          cases this
    · have hno : ∀ q, q < (ix W k).length → okW (W.drop (k + 1)) (ix W k) (bst (W.drop k) s) s q = false := by
        intro q
        induction q using Nat.strongRecOn with
        | _ q ih =>
          intro hq
          rw [Bool.eq_false_iff]
          intro h
          exact hex ⟨q, hq, h, fun a ha => ih a ha (by omega)⟩
      have h3 := hpick_none hkl hno []
      rw [List.nil_append, List.nil_append, ← h2, hd] at h3
      simp only [List.cons_append, List.nil_append, List.cons.injEq] at h3
      obtain ⟨h4, h5⟩ := h3
      have hset : setK (hpick W 0) (k + 1) = s := by
        unfold setK
        rw [h4, if_pos (by omega), hS]
      rw [hset, h4, if_pos rfl, ← bst_none hkl hno]
      exact ⟨rfl, h5⟩
theorem sum_own (W : List (List Int)) : sumR W (hpick W 0) = some (bst W 0) := by
  unfold sumR
  rw [if_pos (hpick_len W 0), (sum_pick W.length (Nat.le_refl _)).1, List.drop_length, bst, Int.sub_zero]
theorem sum_other {W : List (List Int)} {p : List Int} {n : Int} (h : sumR W p = some n) : n ≤ bst W 0 := by
  unfold sumR at h
  split at h
  · rename_i hl
    have := sum_le hl h W.length 0 0 (by omega) rfl
    rw [List.drop_zero] at this
    have e : setK p 0 = 0 := rfl
    rw [e] at this
    omega
  · cases h
end Go.Proofs.Ytmmabnoemckdiaa
