/- Lists that lie anywhere, as further objects that are only read. -/
import Derived.Test.YtmmabnoemckdiaaG
set_option maxRecDepth 100000
set_option linter.unusedSimpArgs false
set_option linter.unusedVariables false
namespace Go.Proofs.Ytmmabnoemckdiaa
open Go.RowKit Bip
theorem wk_near {H : List Ob} {J N c : Nat} {near : Nat → List Int} {cp : Nat → Nat} {ty : Nat} {ro : Bool} {len cap : Nat → Nat} {f : Nat → Nat → List SV} (hro : roB H = true)
    (hJ : H[J]? = some ⟨ty, ro, .row 1 1 len cap f⟩) (hl : N ≤ len 0) (he : ∀ k, k < N → ∃ x, f 0 k = [x] ∧ Ld H x (near k) (cp k)) :
    Wk (α := List Value) H.length (fun β u => OkL β [.s J 0 0 N c 1] u) (fun β u => OkL β [.s H.length 0 0 N c 1] u) H (H ++ [oNe (H.length + 1) N near cp, oNf N near]) := by
  intro β w hI _
  obtain ⟨L, hL⟩ := ne_places hI hJ hl he
  let n := H.length
  have hnn : H.length = n := rfl
  let β' : Bs := fun j i => if j < n then β j i else if j = n then (if i = 0 then β J 0 else none) else if j = n + 1 then (if i < N then L i else none) else none
  have bo : ∀ j i, j < n → β' j i = β j i := fun j i hj => if_pos hj
  have b0 : β' n 0 = β J 0 := by
    show (if n < n then _ else if n = n then (if 0 = 0 then β J 0 else none) else _) = _
    rw [if_neg (by omega), if_pos rfl, if_pos rfl]
  have b0' : ∀ i, 1 ≤ i → β' n i = none := fun i hi => by
    show (if n < n then _ else if n = n then (if i = 0 then β J 0 else none) else _) = _
    rw [if_neg (by omega), if_pos rfl, if_neg (by omega)]
  have b1 : ∀ i, i < N → β' (n + 1) i = L i := fun i hi => by
    show (if n + 1 < n then _ else if n + 1 = n then _ else if n + 1 = n + 1 then (if i < N then L i else none) else none) = _
    rw [if_neg (by omega), if_neg (by omega), if_pos rfl, if_pos hi]
  have b1' : ∀ i, N ≤ i → β' (n + 1) i = none := fun i hi => by
    show (if n + 1 < n then _ else if n + 1 = n then _ else if n + 1 = n + 1 then (if i < N then L i else none) else none) = _
    rw [if_neg (by omega), if_neg (by omega), if_pos rfl, if_neg (by omega)]
  have b2 : ∀ j i, n + 2 ≤ j → β' j i = none := fun j i hj => by
    show (if j < n then _ else if j = n then _ else if j = n + 1 then _ else none) = _
    rw [if_neg (by omega), if_neg (by omega), if_neg (by omega)]
  have ble : BLe β β' := fun j i x h => by
    by_cases hj : j < n
    · rw [bo j i hj]; exact h
    · rw [hI.out j i (by omega)] at h; cases h
  have key : ∀ j o, (H ++ [oNe (n + 1) N near cp, oNf N near])[j]? = some o → (j < n ∧ H[j]? = some o) ∨ (j = n ∧ o = oNe (n + 1) N near cp) ∨ (j = n + 1 ∧ o = oNf N near) := fun j o h => by
    rcases Nat.lt_or_ge j n with h1 | h1
    · rw [List.getElem?_append_left h1] at h; exact .inl ⟨h1, h⟩
    · rw [List.getElem?_append_right h1] at h
      rcases (by omega : j = n ∨ j = n + 1 ∨ n + 2 ≤ j) with e | e | e
      · subst e
        rw [hnn, Nat.sub_self] at h
        exact .inr (.inl ⟨rfl, by simpa using h.symm⟩)
      · subst e
        rw [show n + 1 - H.length = 1 by omega] at h
        exact .inr (.inr ⟨rfl, by simpa using h.symm⟩)
      · rw [List.getElem?_eq_none (by simp; omega)] at h; cases h
  refine ⟨β', inv_ro (fun j o ho => ?_) (fun j i hj => b2 j i (by simp at hj; omega)) (fun j o i ho hov => ?_), fun u hu => ?_, fun j i x hj hx => by rw [bo j i hj]; exact hx, fun g hg => ?_, fun g hg => ?_, by simp⟩
  · rcases key j o ho with ⟨h1, h2⟩ | ⟨rfl, rfl⟩ | ⟨rfl, rfl⟩
    · refine ⟨?_, (hI.ob j o h2).same ble (fun i hi => by rw [bo j i h1]; exact hi) (Nat.le_refl _) fun _ _ _ _ _ => rfl⟩
      have : ∀ (H : List Ob), roB H = true → ∀ (j : Nat) (o : Ob), H[j]? = some o → o.ro = true := fun H => by
        induction H with
        | nil => intro _ j o h; simp at h
        | cons p l ih =>
          intro hr j o h
          simp only [roB, Bool.and_eq_true] at hr
          match j with
          | 0 => simp at h; subst h; exact hr.1
          | j + 1 => exact ih hr.2 j o (by simpa using h)
      exact this H hro j o h2
    · refine ⟨rfl, fun i hi k hk => ?_⟩
      obtain rfl : i = 0 := by omega
      have hk : k < N := hk
      obtain ⟨g, b, A, q1, q2, q3, q4, q5⟩ := hL k hk
      obtain ⟨g', b', h6, h7, _⟩ := row_place hI hJ (i := 0) (by omega) (k := k) (by omega)
      rw [q1] at h6
      obtain ⟨rfl, rfl⟩ : g = g' ∧ b = b' := by simpa using h6
      refine ⟨g, b, by rw [b0]; exact q1, h7, fun c x hx => ?_⟩
      match c with
      | 0 =>
        simp at hx; subst hx
        refine ⟨_, q2, ?_⟩
        simp only [Ok]
        refine ⟨A, rfl, q3, fun hc => ?_⟩
        obtain ⟨g1, bb, h8, rfl⟩ := q4 hc
        exact ⟨g1, bb, by rw [b1 k hk]; exact h8, by simp⟩
      | c + 1 => simp at hx
    · refine ⟨rfl, fun i hi k hk => ?_⟩
      have hi : i < N := hi
      have hk : k < (near i).length := hk
      obtain ⟨_, _, A, _, _, _, _, q5⟩ := hL i hi
      obtain ⟨g, b, h6, h7, _, h8⟩ := q5 (by omega)
      refine ⟨g, b, by rw [b1 i hi]; exact h6, h7, fun c x hx => ?_⟩
      match c with
      | 0 =>
        simp at hx; subst hx
        have h9 := h8 k hk
        rw [show b + k = b + (k * 1 + 0) by omega] at h9
        exact ⟨_, h9, by simp only [Ok]⟩
      | c + 1 => simp at hx
  · rcases key j o ho with ⟨h1, h2⟩ | ⟨rfl, rfl⟩ | ⟨rfl, rfl⟩
    · rw [bo j i h1]; exact hI.bey j o i h2 hov
    · exact b0' i hov
    · exact b1' i hov
  · simp only [OkL, Ok] at hu ⊢
    rw [show β' H.length 0 = β J 0 from b0]
    exact hu
  · obtain ⟨j, i, o, b, ho, hown, hb⟩ := hg
    rcases key j o ho with ⟨h1, h2⟩ | ⟨rfl, rfl⟩ | ⟨rfl, rfl⟩
    · exact ⟨j, i, o, b, h2, hown, by rw [← bo j i h1]; exact hb⟩
    · cases hown.2.1
    · cases hown.2.1
  · obtain ⟨j, i, o, b, ho, hmem, hb⟩ := hg
    rcases key j o ho with ⟨h1, h2⟩ | ⟨rfl, rfl⟩ | ⟨rfl, rfl⟩
    · exact ⟨j, i, o, b, h2, hmem, by rw [← bo j i h1]; exact hb⟩
    · have hi : i < 1 := hmem.1
      obtain rfl : i = 0 := by omega
      have hn : 0 < N := hmem.2.1 rfl
      obtain ⟨g', b', h6, _, h7⟩ := row_place hI hJ (i := 0) (by omega) (k := 0) (by omega)
      rw [b0, h6] at hb
      obtain ⟨rfl, rfl⟩ : g' = g ∧ b' = b := by simpa using hb
      exact ⟨J, 0, _, _, hJ, h7, h6⟩
    · have hi : i < N := hmem.1
      have hn : 0 < (near i).length := hmem.2.1 rfl
      obtain ⟨_, _, A, _, _, _, _, q5⟩ := hL i hi
      obtain ⟨g', b', h6, _, h8, _⟩ := q5 hn
      rw [b1 i hi] at hb
      have : L i = some (g', b') := h6
      rw [this] at hb
      obtain ⟨rfl, rfl⟩ : g' = g ∧ b' = b := by simpa using hb
      exact h8
end Go.Proofs.Ytmmabnoemckdiaa
