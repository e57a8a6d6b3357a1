/- Plain facts: the first place; equal functions have equal short steps. -/
import Derived.Test.YtekokeiajgcfkaaS
set_option maxRecDepth 100000
set_option linter.unusedSimpArgs false
set_option linter.unusedVariables false
namespace Go.Proofs.Ytekokeiajgcfkaa
/-- Where the values at a place come from. -/
theorem at_from {a b : List Stp} (ha : AscP a) (hb : AscP b) {lo y : Int} (hy : lo ≤ y) : ∃ z, (z = lo ∨ (z ∈ brk a b ∧ lo < z)) ∧ z ≤ y ∧ atL a y = atL a z ∧ atL b y = atL b z := by
  obtain ⟨m1, m2⟩ := brk_all a b
  rcases atF_map (x := y) (fun y => y) 0 (brk_asc ha hb) with ⟨h1, _⟩ | ⟨g, hg, h1, h2, _⟩
  · exact ⟨lo, .inl rfl, hy, atF_same 0 fun q hq => by have := h1 _ (m1 q hq); omega, atF_same 0 fun q hq => by have := h1 _ (m2 q hq); omega⟩
  · by_cases e : lo < g
    · exact ⟨g, .inr ⟨hg, e⟩, h1, atF_same 0 fun q hq => ⟨fun h => h2 _ (m1 q hq) h, fun h => by omega⟩, atF_same 0 fun q hq => ⟨fun h => h2 _ (m2 q hq) h, fun h => by omega⟩⟩
    · exact ⟨lo, .inl rfl, hy, atF_same 0 fun q hq => ⟨fun h => by have := h2 _ (m1 q hq) h; omega, fun h => by omega⟩, atF_same 0 fun q hq => ⟨fun h => by have := h2 _ (m2 q hq) h; omega, fun h => by omega⟩⟩
theorem ascI_split : ∀ {u : List Int} {x : Int} {v : List Int}, AscI (u ++ x :: v) → ∀ z ∈ v, x < z
  | [], _, _, h => h.1
  | _ :: u, _, _, h => ascI_split (u := u) h.2
theorem bel_cases {a b : List Stp} {lo hi : Int} (hva : validB a = true) (hvb : validB b = true) (hr : rngB lo hi = true) :
    (∃ x, belR a b lo hi = (x, 0) ∧ lo ≤ x ∧ x ≤ hi ∧ atL a x < atL b x ∧ ∀ y, lo ≤ y → y < x → ¬ atL a y < atL b y) ∨
    (belR a b lo hi = (0, 12) ∧ ∀ y, lo ≤ y → y ≤ hi → ¬ atL a y < atL b y) := by
  have ha := ascI_of_valid hva
  have hb := ascI_of_valid hvb
  have hr2 := hr
  simp only [rngB, placeB, Bool.and_eq_true, decide_eq_true_eq] at hr2
  unfold belR
  rw [hva, hvb, hr]
  simp only [Bool.and_self, Bool.true_eq_false, if_false]
  by_cases h : atL a lo < atL b lo
  · rw [if_pos h]
    exact .inl ⟨lo, rfl, Int.le_refl _, hr2.2.2, h, fun y h1 h2 => by omega⟩
  · rw [if_neg h]
    cases hf : (brk a b).find? (lowB a b lo hi) with
    | some x =>
      obtain ⟨hx, u, v, huv, hu⟩ := List.find?_eq_some_iff_append.1 hf
      simp only [lowB, Bool.and_eq_true, decide_eq_true_eq] at hx
      refine .inl ⟨x, rfl, by omega, by omega, hx.2.2, fun y h1 h2 => ?_⟩
      obtain ⟨z, hz, hzy, e1, e2⟩ := at_from ha hb h1
      rw [e1, e2]
      rcases hz with rfl | ⟨hz, hlz⟩
      · exact h
      · have hasc := brk_asc ha hb
        rw [huv] at hasc hz
        rcases List.mem_append.1 hz with hz | hz
        · have := hu z hz
          simp only [lowB, Bool.not_eq_true', Bool.and_eq_false_iff, decide_eq_false_iff_not] at this
          omega
        · rcases List.mem_cons.1 hz with rfl | hz
          · omega
          · have := ascI_split hasc z hz
            omega
    | none =>
      refine .inr ⟨rfl, fun y h1 h2 => ?_⟩
      obtain ⟨z, hz, hzy, e1, e2⟩ := at_from ha hb h1
      rw [e1, e2]
      rcases hz with rfl | ⟨hz, hlz⟩
      · exact h
      · have := List.find?_eq_none.1 hf z hz
        simp only [lowB, Bool.and_eq_true, decide_eq_true_eq] at this
        omega
theorem bel_bad {a b : List Stp} {lo hi : Int} (h : validB a = false ∨ validB b = false ∨ rngB lo hi = false) : (belR a b lo hi).1 = 0 ∧ ((belR a b lo hi).2 = 1 ∨ (belR a b lo hi).2 = 2) := by
  unfold belR
  by_cases hv : (validB a && validB b) = false
  · rw [if_pos hv]; exact ⟨rfl, .inl rfl⟩
  · rw [if_neg hv]
    have : rngB lo hi = false := by
      rcases h with h | h | h
      · simp [h] at hv
      · simp [h] at hv
      · exact h
    rw [if_pos this]
    exact ⟨rfl, .inr rfl⟩
/-- Short steps as they come. -/
def CanS : Int → List Stp → Prop
  | _, [] => True
  | n, p :: l => p.v ≠ n ∧ CanS p.v l
theorem short_can : ∀ (l : List Stp) (n : Int), CanS n (shortL n l)
  | [], _ => trivial
  | p :: l, n => by
    rw [shortL]
    split
    · rename_i e
      rw [e]
      exact short_can l n
    · exact ⟨by assumption, short_can l p.v⟩
theorem can_eq : ∀ {l m : List Stp} {n : Int}, AscP l → AscP m → CanS n l → CanS n m → (∀ x, atF x n l = atF x n m) → l = m
  | [], [], _, _, _, _, _, _ => rfl
  | [], q :: m, n, _, hm, _, cm, h => by
    have := h q.x
    rw [atF, atF, if_pos (Int.le_refl _), atF_none q.v fun r hr => hm.1 r hr] at this
    exact absurd this.symm cm.1
  | p :: l, [], n, hl, _, cl, _, h => by
    have := h p.x
    rw [atF, atF, if_pos (Int.le_refl _), atF_none p.v fun r hr => hl.1 r hr] at this
    exact absurd this cl.1
  | p :: l, q :: m, n, hl, hm, cl, cm, h => by
    have hx : p.x = q.x := by
      have h1 := h p.x
      have h2 := h q.x
      rw [atF, atF, if_pos (Int.le_refl _), atF_none p.v fun r hr => hl.1 r hr] at h1
      rw [atF, atF, if_pos (Int.le_refl q.x), atF_none q.v fun r hr => hm.1 r hr] at h2
      by_cases e1 : p.x < q.x
      · rw [if_neg (by omega), atF_none n fun r hr => by have := hm.1 r hr; omega] at h1
        exact absurd h1 cl.1
      · by_cases e2 : q.x < p.x
        · rw [if_neg (by omega), atF_none n fun r hr => by have := hl.1 r hr; omega] at h2
          exact absurd h2.symm cm.1
        · omega
    have hv : p.v = q.v := by
      have h1 := h p.x
      rw [atF, atF, if_pos (Int.le_refl _), atF_none p.v fun r hr => hl.1 r hr, if_pos (by omega), atF_none q.v fun r hr => by have := hm.1 r hr; omega] at h1
      exact h1
    have he : p = q := Stp.ext' hx hv
    subst he
    rw [can_eq hl.2 hm.2 cl.2 cm.2 fun x => ?_]
    by_cases e : p.x ≤ x
    · have := h x
      rwa [atF, atF, if_pos e] at this
    · rw [atF_none p.v fun r hr => by have := hl.1 r hr; omega, atF_none p.v fun r hr => by have := hm.1 r hr; omega]
/-- **Equal functions have equal short steps.** -/
theorem short_eq {l m : List Stp} (hl : AscP l) (hm : AscP m) (h : ∀ x, atL l x = atL m x) : shortL 0 l = shortL 0 m :=
  can_eq (short_asc hl) (short_asc hm) (short_can l 0) (short_can m 0) fun x => by rw [at_short hl, at_short hm]; exact h x
theorem at_low {l : List Stp} (h : validB l = true) {y : Int} (hy : y < -1048576) : atL l y = 0 := atF_none 0 fun q hq => by have := mem_ok h hq; omega
theorem at_high {l : List Stp} (h : validB l = true) {y : Int} (hy : 1048576 ≤ y) : atL l y = atL l 1048576 := atF_same 0 fun q hq => by have := mem_ok h hq; omega
/-- Where nothing is below, the least values are those of the second function. -/
theorem least_second {a b : List Stp} (hva : validB a = true) (hvb : validB b = true) (h : ∀ y, -1048576 ≤ y → y ≤ 1048576 → ¬ atL a y < atL b y) : joinE minF a b = 0 ∧ joinR minF a b = shortL 0 b := by
  have ha := ascI_of_valid hva
  have hb := ascI_of_valid hvb
  have e : joinL minF a b = shortL 0 b := by
    refine short_eq (opL_asc (brk_asc ha hb)) hb fun x => ?_
    rw [at_opL ha hb rfl]
    unfold minF
    by_cases h1 : x < -1048576
    · rw [at_low hva h1, at_low hvb h1]; rfl
    · by_cases h2 : x ≤ 1048576
      · have := h x (by omega) h2
        omega
      · have := h 1048576 (by omega) (by omega)
        rw [at_high hva (by omega : (1048576 : Int) ≤ x), at_high hvb (by omega : (1048576 : Int) ≤ x)]
        omega
  have e2 : joinE minF a b = 0 := by
    rw [joinE, hva, hvb, e]
    have h1 : (shortL 0 b).any bigB = false := by
      rw [List.any_eq_false]
      intro q hq
      have := mem_ok hvb (short_mem hq)
      simp [bigB]
      omega
    have h2 := shortL_len b 0
    have h3 := (valid_yes.1 hvb).1
    rw [h1, if_neg (by decide), if_neg (by decide), if_neg (by omega)]
  exact ⟨e2, by rw [joinR_ok e2, e]⟩
end Go.Proofs.Ytekokeiajgcfkaa
