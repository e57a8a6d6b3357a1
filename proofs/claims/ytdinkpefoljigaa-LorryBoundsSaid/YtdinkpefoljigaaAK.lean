/- Plain facts: what the search of exact loads finds. -/
import Derived.Test.YtdinkpefoljigaaAE
import Derived.Test.YtdinkpefoljigaaAJ
set_option maxRecDepth 100000
set_option linter.unusedSimpArgs false
set_option linter.unusedVariables false
namespace Go.Proofs.Ytdinkpefoljigaa
open Go.RowKit
def seenL (l : List Bun) (L : List (List Int)) (j : Nat) : Bool := (List.range j).any fun q => decide (massL l (ix L q) = massL l (ix L j))
/-- A load that is not tried. -/
def skipL (l : List Bun) (most i : Int) (L : List (List Int)) (j : Nat) : Bool := seenL l L j || decide (most < massL l (ix L j) + (ix l i.toNat).mass)
/-- The search: the bundles that are left, the loads, the best ones so far. -/
def vis (l : List Bun) (most : Int) : List Int → List (List Int) → List (List Int) → List (List Int)
  | [], L, B => if B ≠ [] ∧ B.length ≤ L.length then B else L
  | i :: rest, L, B => if B ≠ [] ∧ B.length ≤ L.length then B else
      vis l most rest (L ++ [[i]]) ((List.range L.length).foldl (fun B j => if skipL l most i L j then B else vis l most rest (L.set j (ix L j ++ [i])) B) B)
def ub (b n : Nat) : Nat := if b = 0 then n else min b n
theorem fold_len {α : Type} {f : List α → Nat → List α} {g : Nat → Nat → Nat} : ∀ (js : List Nat) (B : List α), (∀ j ∈ js, ∀ B : List α, (f B j).length = g B.length j) → (js.foldl f B).length = js.foldl g B.length
  | [], _, _ => rfl
  | j :: js, B, h => by
    simp only [List.foldl_cons]
    rw [fold_len js _ (fun j hj => h j (List.mem_cons_of_mem _ hj)), h j List.mem_cons_self]
theorem fchain (q : Nat → Bool) (o : Nat → Nat) (ho : ∀ j, o j ≠ 0) : ∀ (js : List Nat) (b : Nat), (js.foldl (fun b j => if q j then b else ub b (o j)) b = b ∨ ∃ j ∈ js, q j = false ∧ js.foldl (fun b j => if q j then b else ub b (o j)) b = o j) ∧
    (∀ j ∈ js, q j = false → js.foldl (fun b j => if q j then b else ub b (o j)) b ≤ o j ∧ js.foldl (fun b j => if q j then b else ub b (o j)) b ≠ 0) ∧ (b ≠ 0 → js.foldl (fun b j => if q j then b else ub b (o j)) b ≤ b ∧ js.foldl (fun b j => if q j then b else ub b (o j)) b ≠ 0)
  | [], b => by simp
  | j :: js, b => by
    simp only [List.foldl_cons]
    obtain ⟨h1, h2, h3⟩ := fchain q o ho js (if q j then b else ub b (o j))
    generalize hv : js.foldl (fun b j => if q j then b else ub b (o j)) (if q j then b else ub b (o j)) = v at *
    have hoj := ho j
    cases hq : q j with
    | true =>
      rw [hq] at h1 h3
      simp only [if_true] at h1 h3
      refine ⟨?_, fun p hp hpq => ?_, h3⟩
      · rcases h1 with h | ⟨p, hp, h⟩
        · exact .inl h
        · exact .inr ⟨p, List.mem_cons_of_mem _ hp, h⟩
      · rcases List.mem_cons.1 hp with rfl | hp
        · rw [hq] at hpq; cases hpq
        · exact h2 p hp hpq
    | false =>
      rw [hq] at h1 h3
      simp only [Bool.false_eq_true, if_false] at h1 h3
      unfold ub at h1 h3
      have hnz : (if b = 0 then o j else min b (o j)) ≠ 0 := by
        split
        · exact hoj
        · rename_i hb; rw [Nat.min_def]; split <;> omega
      obtain ⟨h4, h5⟩ := h3 hnz
      refine ⟨?_, fun p hp hpq => ?_, fun hb => ?_⟩
      · rcases h1 with h | ⟨p, hp, h⟩
        · by_cases hb : b = 0
          · rw [if_pos hb] at h
            exact .inr ⟨j, List.mem_cons_self, hq, h⟩
          · rw [if_neg hb] at h
            rcases Nat.le_total b (o j) with h6 | h6
            · left; omega
            · right; exact ⟨j, List.mem_cons_self, hq, by omega⟩
        · exact .inr ⟨p, List.mem_cons_of_mem _ hp, h⟩
      · rcases List.mem_cons.1 hp with rfl | hp
        · refine ⟨?_, h5⟩
          split at h4 <;> omega
        · exact h2 p hp hpq
      · rw [if_neg hb] at h4
        exact ⟨by omega, h5⟩
theorem skip_first {l : List Bun} {most i : Int} {L : List (List Int)} : ∀ (j : Nat), massL l (ix L j) + (ix l i.toNat).mass ≤ most → ∃ q, q ≤ j ∧ massL l (ix L q) = massL l (ix L j) ∧ skipL l most i L q = false := by
  intro j
  induction j using Nat.strongRecOn with
  | _ j ih =>
    intro hf
    cases hs : seenL l L j with
    | false => exact ⟨j, Nat.le_refl _, rfl, by unfold skipL; rw [hs]; simp; exact hf⟩
    | true =>
      unfold seenL at hs
      obtain ⟨q, hq, h⟩ := List.any_eq_true.1 hs
      have hq := List.mem_range.1 hq
      have h : massL l (ix L q) = massL l (ix L j) := by simpa using h
      obtain ⟨p, p1, p2, p3⟩ := ih q hq (by rw [h]; exact hf)
      exact ⟨p, by omega, p2.trans h, p3⟩
def msL (l : List Bun) (L : List (List Int)) : List Int := L.map (massL l)
def wsL (l : List Bun) (x : List Int) : List Int := x.map fun i => (ix l i.toNat).mass
theorem msL_len (l : List Bun) (L : List (List Int)) : (msL l L).length = L.length := by simp [msL]
theorem msL_ix (l : List Bun) {L : List (List Int)} {j : Nat} (h : j < L.length) : ix (msL l L) j = massL l (ix L j) := by
  rw [ix_eq (by rw [msL_len]; exact h), ix_eq h]; simp [msL]
theorem msL_set (l : List Bun) {L : List (List Int)} {j : Nat} (i : Int) (h : j < L.length) : msL l (L.set j (ix L j ++ [i])) = (msL l L).set j (massL l (ix L j) + (ix l i.toNat).mass) := by
  unfold msL
  rw [List.map_set, massL_app, massL_one]
theorem msL_snoc (l : List Bun) (L : List (List Int)) (i : Int) : msL l (L ++ [[i]]) = msL l L ++ [(ix l i.toNat).mass] := by
  unfold msL
  rw [List.map_append, List.map_cons, massL_one]; rfl
theorem skip_fits {l : List Bun} {most i : Int} {L : List (List Int)} {j : Nat} (h : skipL l most i L j = false) : massL l (ix L j) + (ix l i.toNat).mass ≤ most := by
  unfold skipL at h
  simp only [Bool.or_eq_false_iff, decide_eq_false_iff_not] at h
  omega
/-- How many loads it finds. -/
theorem vis_len {l : List Bun} {most : Int} : ∀ (x : List Int) (L B : List (List Int)), (∀ i ∈ x, 0 ≤ (ix l i.toNat).mass ∧ (ix l i.toNat).mass ≤ most) → (∀ y ∈ L, massL l y ≤ most) → (vis l most x L B).length = ub B.length (optF most (wsL l x) (msL l L))
  | [], L, B, _, _ => by
    have hb : B.length = 0 ↔ B = [] := List.length_eq_zero_iff
    simp only [vis, wsL, List.map_nil, optF, msL_len, ub]
    by_cases h : B = []
    · subst h; simp
    · have h2 : B.length ≠ 0 := fun e => h (hb.1 e)
      rw [if_neg h2]
      by_cases h3 : B.length ≤ L.length
      · rw [if_pos ⟨h, h3⟩]; omega
      · rw [if_neg (fun h4 => h3 h4.2)]; omega
  | i :: x, L, B, hx, hL => by
    have hb : B.length = 0 ↔ B = [] := List.length_eq_zero_iff
    have hxs : ∀ i ∈ x, 0 ≤ (ix l i.toNat).mass ∧ (ix l i.toNat).mass ≤ most := fun j hj => hx j (List.mem_cons_of_mem _ hj)
    have hi := hx i List.mem_cons_self
    have hge := optF_ge most (wsL l (i :: x)) (msL l L)
    rw [msL_len] at hge
    simp only [vis]
    by_cases h : B ≠ [] ∧ B.length ≤ L.length
    · rw [if_pos h]
      unfold ub
      rw [if_neg (fun e => h.1 (hb.1 e))]
      omega
    rw [if_neg h]
    have hws : wsL l (i :: x) = (ix l i.toNat).mass :: wsL l x := rfl
    have hw2 : ∀ w ∈ wsL l x, 0 ≤ w ∧ w ≤ most := fun w hw => by
      obtain ⟨j, hj, rfl⟩ := List.mem_map.1 hw
      exact hxs j hj
    have hms : ∀ m ∈ msL l L, m ≤ most := fun m hm => by
      obtain ⟨y, hy, rfl⟩ := List.mem_map.1 hm
      exact hL y hy
    rw [vis_len x (L ++ [[i]]) _ hxs (fun y hy => by
      rcases List.mem_append.1 hy with hy | hy
      · exact hL y hy
      · simp only [List.mem_singleton] at hy
        subst hy
        rw [massL_one]; exact hi.2)]
    -- what each way comes to
    let o : Nat → Nat := fun j => if j < L.length then optF most (wsL l x) ((msL l L).set j (massL l (ix L j) + (ix l i.toNat).mass)) else 1
    have ho : ∀ j, o j ≠ 0 := fun j => by
      simp only [o]
      split
      · have := optF_ge most (wsL l x) ((msL l L).set j (massL l (ix L j) + (ix l i.toNat).mass))
        rw [List.length_set, msL_len] at this
        omega
      · omega
    have hof : ∀ j, j < L.length → o j = optF most (wsL l x) ((msL l L).set j (massL l (ix L j) + (ix l i.toNat).mass)) := fun j hj => if_pos hj
    have hfl := fold_len (f := fun B j => if skipL l most i L j then B else vis l most x (L.set j (ix L j ++ [i])) B) (g := fun b j => if skipL l most i L j then b else ub b (o j)) (List.range L.length) B (fun j hj B => by
      have hj := List.mem_range.1 hj
      cases hs : skipL l most i L j with
      | true => rfl
      | false =>
        simp only [Bool.false_eq_true, if_false]
        have hf := skip_fits hs
        rw [vis_len x _ B hxs (fun y hy => by
          rcases List.mem_or_eq_of_mem_set hy with hy | rfl
          · exact hL y hy
          · rw [massL_app, massL_one]; exact hf), msL_set l i hj, hof j hj])
    rw [hfl]
    obtain ⟨c1, c2, c3⟩ := fchain (skipL l most i L) o ho (List.range L.length) B.length
    generalize hv : (List.range L.length).foldl (fun b j => if skipL l most i L j then b else ub b (o j)) B.length = v at *
    obtain ⟨t1, t2, t3⟩ := optF_cons most (ix l i.toNat).mass (wsL l x) (msL l L)
    rw [← hws] at t1 t2 t3
    rw [msL_snoc]
    rw [msL_len] at t2 t3
    generalize ht : optF most (wsL l (i :: x)) (msL l L) = t at *
    have hn0 := optF_ge most (wsL l x) (msL l L ++ [(ix l i.toNat).mass])
    simp only [List.length_append, List.length_cons, List.length_nil] at hn0
    generalize hnn : optF most (wsL l x) (msL l L ++ [(ix l i.toNat).mass]) = nw at *
    -- no try is less than the least number
    have u1 : ∀ j, j < L.length → skipL l most i L j = false → t ≤ o j := fun j hj hs => by
      rw [hof j hj]
      have := t2 j hj (by rw [msL_ix l hj]; exact skip_fits hs)
      rw [msL_ix l hj] at this
      exact this
    -- each one that fits has a like one that is tried
    have u2 : t = nw ∨ ∃ j, j < L.length ∧ skipL l most i L j = false ∧ t = o j := by
      rcases t3 with h | ⟨j, hj, hf, h⟩
      · exact .inl h
      · rw [msL_ix l hj] at hf h
        obtain ⟨q, hq, e1, e2⟩ := skip_first (l := l) (most := most) (i := i) (L := L) j hf
        refine .inr ⟨q, by omega, e2, ?_⟩
        rw [h, hof q (by omega), e1]
        exact optF_perm (List.Perm.refl _) (set_perm (by rw [msL_len]; exact hj) (by rw [msL_len]; omega) (by rw [msL_ix l hj, msL_ix l (show q < L.length by omega), e1]) _) hw2 (fun m hm => by
          rcases List.mem_or_eq_of_mem_set hm with hm | rfl
          · exact hms m hm
          · exact hf)
    have c1' : v = B.length ∨ ∃ j, j < L.length ∧ skipL l most i L j = false ∧ v = o j := by
      rcases c1 with h | ⟨j, hj, h1, h2⟩
      · exact .inl h
      · exact .inr ⟨j, List.mem_range.1 hj, h1, h2⟩
    unfold ub
    by_cases hb0 : B.length = 0
    · rw [if_pos hb0]
      rcases u2 with h | ⟨j, hj, hs, h⟩
      · rcases c1' with h1 | ⟨q, hq, hs, h1⟩
        · rw [if_pos (by omega)]; omega
        · have := ho q
          have := u1 q hq hs
          rw [if_neg (by omega)]; omega
      · obtain ⟨e1, e2⟩ := c2 j (List.mem_range.2 hj) hs
        rw [if_neg e2]
        rcases c1' with h1 | ⟨q, hq, hs, h1⟩
        · omega
        · have := u1 q hq hs
          omega
    · obtain ⟨e1, e2⟩ := c3 hb0
      rw [if_neg hb0, if_neg e2]
      rcases u2 with h | ⟨j, hj, hs, h⟩
      · rcases c1' with h1 | ⟨q, hq, hs, h1⟩
        · omega
        · have := u1 q hq hs
          omega
      · obtain ⟨e3, e4⟩ := c2 j (List.mem_range.2 hj) hs
        rcases c1' with h1 | ⟨q, hq, hs, h1⟩
        · omega
        · have := u1 q hq hs
          omega
def Good (l : List Bun) (most : Int) (R : List (List Int)) : Prop := R.flatten.Perm (rng l.length) ∧ ∀ x ∈ R, x ≠ [] ∧ massL l x ≤ most
theorem fold_inv {α β : Type} {Q : β → Prop} {f : β → α → β} : ∀ (js : List α) (b : β), Q b → (∀ j ∈ js, ∀ b, Q b → Q (f b j)) → Q (js.foldl f b)
  | [], _, h, _ => h
  | j :: js, b, h, hs => fold_inv js (f b j) (hs j List.mem_cons_self b h) fun j hj => hs j (List.mem_cons_of_mem _ hj)
theorem flat_set1 {L : List (List Int)} {j : Nat} {i : Int} (h : j < L.length) : (L.set j (ix L j ++ [i])).flatten.Perm (L.flatten ++ [i]) := by
  have e : L.set j (ix L j ++ [i]) = L.take j ++ (ix L j ++ [i]) :: L.drop (j + 1) := by rw [List.set_eq_take_append_cons_drop, if_pos h]
  refine List.perm_iff_count.2 fun a => ?_
  rw [e]
  conv => rhs; rw [split_ix h]
  simp only [List.flatten_append, List.flatten_cons, List.count_append]
  omega
theorem vis_good {l : List Bun} {most : Int} : ∀ (x : List Int) (L B : List (List Int)), (∀ i ∈ x, (ix l i.toNat).mass ≤ most) → (∀ y ∈ L, y ≠ [] ∧ massL l y ≤ most) → (L.flatten ++ x).Perm (rng l.length) → (B = [] ∨ Good l most B) → Good l most (vis l most x L B)
  | [], L, B, _, hL, hp, hB => by
    simp only [vis]
    by_cases h : B ≠ [] ∧ B.length ≤ L.length
    · rw [if_pos h]
      rcases hB with hB | hB
      · exact absurd hB h.1
      · exact hB
    · rw [if_neg h]
      exact ⟨by simpa using hp, hL⟩
  | i :: x, L, B, hx, hL, hp, hB => by
    have hxs : ∀ i ∈ x, (ix l i.toNat).mass ≤ most := fun j hj => hx j (List.mem_cons_of_mem _ hj)
    have hi := hx i List.mem_cons_self
    simp only [vis]
    by_cases h : B ≠ [] ∧ B.length ≤ L.length
    · rw [if_pos h]
      rcases hB with hB | hB
      · exact absurd hB h.1
      · exact hB
    · rw [if_neg h]
      refine vis_good x _ _ hxs (fun y hy => ?_) (by simpa using hp) (fold_inv (Q := fun B => B = [] ∨ Good l most B) _ _ hB fun j hj B hB => ?_)
      · rcases List.mem_append.1 hy with hy | hy
        · exact hL y hy
        · simp only [List.mem_singleton] at hy
          subst hy
          exact ⟨by simp, by rw [massL_one]; exact hi⟩
      · have hj := List.mem_range.1 hj
        cases hs : skipL l most i L j with
        | true => simpa using hB
        | false =>
          simp only [Bool.false_eq_true, if_false]
          refine .inr (vis_good x _ B hxs (fun y hy => ?_) ?_ hB)
          · rcases List.mem_or_eq_of_mem_set hy with hy | rfl
            · exact hL y hy
            · exact ⟨by simp, by rw [massL_app, massL_one]; exact skip_fits hs⟩
          · refine ((flat_set1 hj).append_right x).trans ?_
            simpa using hp
theorem good_right {l : List Bun} {most : Int} {R : List (List Int)} (h : Good l most R) : Right l most R :=
  ⟨fun i hi => rng_mem (h.1.mem_iff.1 hi), h.1.nodup_iff.2 (rng_nodup _), h.2, by rw [h.1.length_eq, rng_len]⟩
/-- Right loads are no fewer than the least number. -/
theorem right_opt {l : List Bun} {most : Int} {R : List (List Int)} {x : List Int} (hx : x.Perm (rng l.length)) (h0 : ∀ k, k < l.length → 0 ≤ (ix l k).mass) (h : Right l most R) : optF most (wsL l x) [] ≤ R.length := by
  have hp := right_perm h
  refine pack_le (fun w hw => ?_) ⟨[], R.map (wsL l), rfl, by simp, fun b hb => ?_, ?_, by simp⟩
  · obtain ⟨i, hi, rfl⟩ := List.mem_map.1 hw
    obtain ⟨a1, a2⟩ := rng_mem (hx.mem_iff.1 hi)
    exact h0 _ (by omega)
  · obtain ⟨y, hy, rfl⟩ := List.mem_map.1 hb
    exact (h.good y hy).2
  · simp only [List.flatMap_nil, List.nil_append]
    have : (R.map (wsL l)).flatten = wsL l R.flatten := by
      unfold wsL
      rw [List.map_flatten]
    rw [this]
    exact (hp.trans hx.symm).map _
end Go.Proofs.Ytdinkpefoljigaa
