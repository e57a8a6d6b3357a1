/- Plain facts: the least number of loads (bins). No program in sight. -/
import Derived.Test.YthlpfjcjfhdmaaaH
set_option maxRecDepth 100000
set_option linter.unusedSimpArgs false
set_option linter.unusedVariables false
namespace Go.Proofs.Ythlpfjcjfhdmaaa
open Go.RowKit
theorem sum_perm {x y : List Int} (h : x.Perm y) : x.sum = y.sum := by
  induction h with
  | nil => rfl
  | cons a _ ih => simp [ih]
  | swap a b l => simp only [List.sum_cons]; omega
  | trans _ _ h1 h2 => exact h1.trans h2
theorem sum_erase {x : List Int} {w : Int} (h : w ∈ x) : x.sum = w + (x.erase w).sum := by
  rw [sum_perm (List.perm_cons_erase h), List.sum_cons]
/-- The least number of loads, by the masses of those that are begun. -/
def optF (lim : Int) : List Int → List Int → Nat
  | [], ms => ms.length
  | w :: ws, ms => (List.range ms.length).foldl (fun b j => if ix ms j + w ≤ lim then min b (optF lim ws (ms.set j (ix ms j + w))) else b) (optF lim ws (ms ++ [w]))
theorem fmin (p : Nat → Prop) [DecidablePred p] (g : Nat → Nat) : ∀ (js : List Nat) (b : Nat), js.foldl (fun b j => if p j then min b (g j) else b) b ≤ b ∧ (∀ j ∈ js, p j → js.foldl (fun b j => if p j then min b (g j) else b) b ≤ g j) ∧
    (js.foldl (fun b j => if p j then min b (g j) else b) b = b ∨ ∃ j ∈ js, p j ∧ js.foldl (fun b j => if p j then min b (g j) else b) b = g j)
  | [], b => by simp
  | j :: js, b => by
    simp only [List.foldl_cons]
    obtain ⟨h1, h2, h3⟩ := fmin p g js (if p j then min b (g j) else b)
    generalize hv : js.foldl (fun b j => if p j then min b (g j) else b) (if p j then min b (g j) else b) = v at *
    by_cases hp : p j
    · rw [if_pos hp] at h1 h3
      refine ⟨by omega, fun q hq hpq => ?_, ?_⟩
      · rcases List.mem_cons.1 hq with rfl | hq
        · omega
        · exact h2 q hq hpq
      · rcases h3 with h | ⟨q, hq, hp2, h⟩
        · rcases Nat.le_total b (g j) with h4 | h4
          · left; omega
          · right; exact ⟨j, List.mem_cons_self, hp, by omega⟩
        · exact .inr ⟨q, List.mem_cons_of_mem _ hq, hp2, h⟩
    · rw [if_neg hp] at h1 h3
      refine ⟨h1, fun q hq hpq => ?_, ?_⟩
      · rcases List.mem_cons.1 hq with rfl | hq
        · exact absurd hpq hp
        · exact h2 q hq hpq
      · rcases h3 with h | ⟨q, hq, hp2, h⟩
        · exact .inl h
        · exact .inr ⟨q, List.mem_cons_of_mem _ hq, hp2, h⟩
/-- What the least number is of. -/
theorem optF_cons (lim w : Int) (ws ms : List Int) : optF lim (w :: ws) ms ≤ optF lim ws (ms ++ [w]) ∧ (∀ j, j < ms.length → ix ms j + w ≤ lim → optF lim (w :: ws) ms ≤ optF lim ws (ms.set j (ix ms j + w))) ∧
    (optF lim (w :: ws) ms = optF lim ws (ms ++ [w]) ∨ ∃ j, j < ms.length ∧ ix ms j + w ≤ lim ∧ optF lim (w :: ws) ms = optF lim ws (ms.set j (ix ms j + w))) := by
  obtain ⟨h1, h2, h3⟩ := fmin (fun j => ix ms j + w ≤ lim) (fun j => optF lim ws (ms.set j (ix ms j + w))) (List.range ms.length) (optF lim ws (ms ++ [w]))
  refine ⟨h1, fun j hj hf => h2 j (List.mem_range.2 hj) hf, ?_⟩
  rcases h3 with h | ⟨j, hj, hf, h⟩
  · exact .inl h
  · exact .inr ⟨j, List.mem_range.1 hj, hf, h⟩
theorem optF_ge (lim : Int) : ∀ (ws ms : List Int), ms.length ≤ optF lim ws ms
  | [], ms => Nat.le_refl _
  | w :: ws, ms => by
    obtain ⟨_, _, h | ⟨j, _, _, h⟩⟩ := optF_cons lim w ws ms
    · have := optF_ge lim ws (ms ++ [w]); simp at this; omega
    · have := optF_ge lim ws (ms.set j (ix ms j + w)); simp at this; omega
theorem optF_pos (lim w : Int) (ws ms : List Int) : 0 < optF lim (w :: ws) ms := by
  obtain ⟨_, _, h | ⟨j, hj, _, h⟩⟩ := optF_cons lim w ws ms
  · have := optF_ge lim ws (ms ++ [w]); simp at this; omega
  · have := optF_ge lim ws (ms.set j (ix ms j + w)); simp at this; omega
/-- A way to put all into so many loads, some of which are begun. -/
def Pack (lim : Int) (ws ms : List Int) (n : Nat) : Prop := ∃ (C : List (Int × List Int)) (B : List (List Int)), C.map Prod.fst = ms ∧ (∀ c ∈ C, c.1 + c.2.sum ≤ lim) ∧ (∀ b ∈ B, b.sum ≤ lim) ∧ (C.flatMap Prod.snd ++ B.flatten).Perm ws ∧ n = ms.length + B.length
theorem sum_nonneg {x : List Int} (h : ∀ w ∈ x, 0 ≤ w) : 0 ≤ x.sum := by
  induction x with
  | nil => simp
  | cons a x ih =>
    simp only [List.sum_cons]
    have := h a List.mem_cons_self
    have := ih fun w hw => h w (List.mem_cons_of_mem _ hw)
    omega
theorem split_ix {α : Type} [Inhabited α] {l : List α} {j : Nat} (h : j < l.length) : l = l.take j ++ ix l j :: l.drop (j + 1) := by
  rw [ix_eq h]
  simp
theorem ix_mid {α : Type} [Inhabited α] (a b : List α) (x : α) : ix (a ++ x :: b) a.length = x := by
  rw [ix_eq (by simp)]; simp
/-- No way has fewer loads. -/
theorem pack_le {lim : Int} : ∀ {ws ms : List Int} {n : Nat}, (∀ w ∈ ws, 0 ≤ w) → Pack lim ws ms n → optF lim ws ms ≤ n
  | [], ms, n, _, ⟨C, B, _, _, _, _, hn⟩ => by simp only [optF]; omega
  | w :: ws, ms, n, hw, ⟨C, B, hC, hC2, hB, hp, hn⟩ => by
    have hws : ∀ w ∈ ws, 0 ≤ w := fun x hx => hw x (List.mem_cons_of_mem _ hx)
    have hm : w ∈ C.flatMap Prod.snd ++ B.flatten := hp.mem_iff.2 List.mem_cons_self
    have hcp := List.perm_iff_count.1 hp
    obtain ⟨o1, o2, _⟩ := optF_cons lim w ws ms
    rcases List.mem_append.1 hm with h | h
    · obtain ⟨c, hc, hwc⟩ := List.mem_flatMap.1 h
      obtain ⟨C1, C2, rfl⟩ := List.append_of_mem hc
      have hms : ms = C1.map Prod.fst ++ c.1 :: C2.map Prod.fst := by rw [← hC]; simp
      have hl : C1.length < ms.length := by rw [hms]; simp
      have hix : ix ms C1.length = c.1 := by rw [hms]; have := ix_mid (C1.map Prod.fst) (C2.map Prod.fst) c.1; simpa using this
      have hset : ms.set C1.length (c.1 + w) = C1.map Prod.fst ++ (c.1 + w) :: C2.map Prod.fst := by
        rw [hms, List.set_append_right _ _ (by simp)]; simp
      have hse := sum_erase hwc
      have hc2 := hC2 c (by simp)
      have hsub : ∀ x ∈ c.2.erase w, 0 ≤ x := fun x hx => hw x (hp.mem_iff.1 (List.mem_append_left _ (List.mem_flatMap.2 ⟨c, by simp, List.mem_of_mem_erase hx⟩)))
      have hns := sum_nonneg hsub
      have ih := pack_le (ms := ms.set C1.length (c.1 + w)) (n := n) hws ⟨C1 ++ (c.1 + w, c.2.erase w) :: C2, B, by rw [hset]; simp, fun d hd => by
          rcases List.mem_append.1 hd with h | h
          · exact hC2 d (List.mem_append_left _ h)
          · rcases List.mem_cons.1 h with rfl | h
            · simp only; omega
            · exact hC2 d (List.mem_append_right _ (List.mem_cons_of_mem _ h)), hB, by
          refine List.perm_iff_count.2 fun a => ?_
          have h1 := hcp a
          have h2 : List.count a c.2 = (if w == a then 1 else 0) + List.count a (c.2.erase w) := by
            rw [(List.perm_cons_erase hwc).count_eq, List.count_cons]; omega
          simp only [List.flatMap_append, List.flatMap_cons, List.count_append, List.count_cons] at h1 ⊢
          omega, by simpa using hn⟩
      rw [← hix] at ih
      exact Nat.le_trans (o2 _ hl (by omega)) ih
    · obtain ⟨b, hb, hwb⟩ := List.mem_flatten.1 h
      obtain ⟨B1, B2, rfl⟩ := List.append_of_mem hb
      have hse := sum_erase hwb
      have hb2 := hB b (by simp)
      have ih := pack_le (ms := ms ++ [w]) (n := n) hws ⟨C ++ [(w, b.erase w)], B1 ++ B2, by rw [← hC]; simp, fun d hd => by
          rcases List.mem_append.1 hd with h | h
          · exact hC2 d h
          · simp only [List.mem_singleton] at h
            subst h
            simp only; omega, fun d hd => hB d (by
          rcases List.mem_append.1 hd with h | h
          · exact List.mem_append_left _ h
          · exact List.mem_append_right _ (List.mem_cons_of_mem _ h)), by
          refine List.perm_iff_count.2 fun a => ?_
          have h1 := hcp a
          have h2 : List.count a b = (if w == a then 1 else 0) + List.count a (b.erase w) := by
            rw [(List.perm_cons_erase hwb).count_eq, List.count_cons]; omega
          simp only [List.flatMap_append, List.flatMap_cons, List.flatMap_nil, List.append_nil, List.flatten_append, List.flatten_cons, List.count_append, List.count_cons] at h1 ⊢
          omega, by simp at hn ⊢; omega⟩
      exact Nat.le_trans o1 ih
/-- The least number has a way. -/
theorem opt_pack {lim : Int} : ∀ {ws ms : List Int}, (∀ w ∈ ws, w ≤ lim) → (∀ m ∈ ms, m ≤ lim) → Pack lim ws ms (optF lim ws ms)
  | [], ms, _, hm => ⟨ms.map fun m => (m, []), [], by simp [Function.comp_def], fun c hc => by
      obtain ⟨m, h1, rfl⟩ := List.mem_map.1 hc
      simpa using hm m h1, by simp, by simp, by simp [optF]⟩
  | w :: ws, ms, hw, hm => by
    have hws : ∀ w ∈ ws, w ≤ lim := fun x hx => hw x (List.mem_cons_of_mem _ hx)
    obtain ⟨_, _, h | ⟨j, hj, hf, h⟩⟩ := optF_cons lim w ws ms
    · obtain ⟨C, B, h1, h2, h3, h4, h5⟩ := opt_pack (ms := ms ++ [w]) hws (fun m h => by
        rcases List.mem_append.1 h with h | h
        · exact hm m h
        · simp only [List.mem_singleton] at h; subst h; exact hw m List.mem_cons_self)
      have hne : C ≠ [] := fun e => by subst e; simp at h1
      obtain ⟨C0, c, rfl⟩ : ∃ C0 c, C = C0 ++ [c] := ⟨C.dropLast, C.getLast hne, (List.dropLast_concat_getLast hne).symm⟩
      simp only [List.map_append, List.map_cons, List.map_nil] at h1
      obtain ⟨h6, h7⟩ := List.append_inj h1 (by have := congrArg List.length h1; simp at this; simpa using this)
      have hc1 : c.1 = w := by simpa using h7
      have hc2 := h2 c (by simp)
      refine ⟨C0, (w :: c.2) :: B, h6, fun d hd => h2 d (List.mem_append_left _ hd), fun b hb => ?_, ?_, ?_⟩
      · rcases List.mem_cons.1 hb with rfl | hb
        · simp only [List.sum_cons]; omega
        · exact h3 b hb
      · have h4 := List.perm_iff_count.1 h4
        refine List.perm_iff_count.2 fun a => ?_
        have := h4 a
        simp only [List.flatMap_append, List.flatMap_cons, List.flatMap_nil, List.append_nil, List.flatten_cons, List.count_append, List.count_cons] at this ⊢
        omega
      · rw [h, h5]; simp; omega
    · obtain ⟨C, B, h1, h2, h3, h4, h5⟩ := opt_pack (ms := ms.set j (ix ms j + w)) hws (fun m h => by
        rcases List.mem_or_eq_of_mem_set h with h | h
        · exact hm m h
        · omega)
      have hlC : C.length = ms.length := by have := congrArg List.length h1; simpa using this
      have hjC : j < C.length := by omega
      have hsp := split_ix hjC
      have hsm := split_ix hj
      have hcj : (ix C j).1 = ix ms j + w := by
        have h6 : ix (C.map Prod.fst) j = ix (ms.set j (ix ms j + w)) j := by rw [h1]
        rw [ix_set_self hj, ix_eq (by simpa using hjC), List.getElem_map, ← ix_eq hjC] at h6
        exact h6
      have hmap : (C.set j (ix ms j, w :: (ix C j).2)).map Prod.fst = ms := by
        rw [List.map_set, h1, List.set_set]
        conv => rhs; rw [hsm]
        rw [List.set_eq_take_append_cons_drop, if_pos hj]
      have hcs : C.set j (ix ms j, w :: (ix C j).2) = C.take j ++ (ix ms j, w :: (ix C j).2) :: C.drop (j + 1) := by rw [List.set_eq_take_append_cons_drop, if_pos hjC]
      have hmem : ix C j ∈ C := by rw [ix_eq hjC]; exact List.getElem_mem _
      refine ⟨C.set j (ix ms j, w :: (ix C j).2), B, hmap, fun c hc => ?_, h3, ?_, ?_⟩
      · rcases List.mem_or_eq_of_mem_set hc with hc | rfl
        · exact h2 c hc
        · have := h2 _ hmem
          simp only [List.sum_cons]
          omega
      · have h4 := List.perm_iff_count.1 h4
        refine List.perm_iff_count.2 fun a => ?_
        have h6 := h4 a
        rw [hsp] at h6
        rw [hcs]
        simp only [List.flatMap_append, List.flatMap_cons, List.count_append, List.count_cons, List.cons_append] at h6 ⊢
        omega
      · rw [h, h5]; simp
theorem lift_perm {α : Type} {f : α → Int} {a b : List Int} (h : a.Perm b) : ∀ {C : List α}, C.map f = a → ∃ C' : List α, C'.Perm C ∧ C'.map f = b := by
  induction h with
  | nil => intro C hC; exact ⟨C, List.Perm.refl _, hC⟩
  | cons x _ ih =>
    intro C hC
    cases C with
    | nil => simp at hC
    | cons c C =>
      simp only [List.map_cons, List.cons.injEq] at hC
      obtain ⟨C', h1, h2⟩ := ih hC.2
      exact ⟨c :: C', List.Perm.cons c h1, by rw [List.map_cons, h2, hC.1]⟩
  | swap x y l =>
    intro C hC
    match C, hC with
    | c :: d :: C, hC =>
      simp only [List.map_cons, List.cons.injEq] at hC
      exact ⟨d :: c :: C, List.Perm.swap c d C, by rw [List.map_cons, List.map_cons, hC.1, hC.2.1, hC.2.2]⟩
  | trans _ _ h1 h2 =>
    intro C hC
    obtain ⟨C1, a1, a2⟩ := h1 hC
    obtain ⟨C2, b1, b2⟩ := h2 a2
    exact ⟨C2, b1.trans a1, b2⟩
theorem Pack.perm {lim : Int} {ws ws' ms ms' : List Int} {n : Nat} (h : Pack lim ws ms n) (hw : ws.Perm ws') (hm : ms.Perm ms') : Pack lim ws' ms' n := by
  obtain ⟨C, B, h1, h2, h3, h4, h5⟩ := h
  obtain ⟨C', c1, c2⟩ := lift_perm hm h1
  exact ⟨C', B, c2, fun c hc => h2 c (c1.mem_iff.1 hc), h3, ((c1.flatMap_right _).append_right _).trans (h4.trans hw), by rw [← hm.length_eq]; exact h5⟩
theorem optF_perm {lim : Int} {ws ws' ms ms' : List Int} (hw : ws.Perm ws') (hm : ms.Perm ms') (h1 : ∀ w ∈ ws, 0 ≤ w ∧ w ≤ lim) (h2 : ∀ m ∈ ms, m ≤ lim) : optF lim ws ms = optF lim ws' ms' :=
  Nat.le_antisymm (pack_le (fun w h => (h1 w h).1) ((opt_pack (fun w h => (h1 w (hw.mem_iff.2 h)).2) (fun m h => h2 m (hm.mem_iff.2 h))).perm hw.symm hm.symm))
    (pack_le (fun w h => (h1 w (hw.mem_iff.2 h)).1) ((opt_pack (fun w h => (h1 w h).2) h2).perm hw hm))
theorem optF_lim {lim lim' : Int} {ws : List Int} (hl : lim ≤ lim') (h1 : ∀ w ∈ ws, 0 ≤ w ∧ w ≤ lim) : optF lim' ws [] ≤ optF lim ws [] := by
  obtain ⟨C, B, a1, a2, a3, a4, a5⟩ := opt_pack (lim := lim) (ws := ws) (ms := []) (fun w h => (h1 w h).2) (by simp)
  exact pack_le (fun w h => (h1 w h).1) ⟨C, B, a1, fun c hc => Int.le_trans (a2 c hc) hl, fun b hb => Int.le_trans (a3 b hb) hl, a4, a5⟩
theorem optF_extra {lim w : Int} {ws : List Int} (h1 : ∀ x ∈ w :: ws, 0 ≤ x ∧ x ≤ lim) : optF lim ws [] ≤ optF lim (w :: ws) [] ∧ optF lim (w :: ws) [] ≤ optF lim ws [] + 1 := by
  have hws : ∀ x ∈ ws, 0 ≤ x ∧ x ≤ lim := fun x hx => h1 x (List.mem_cons_of_mem _ hx)
  constructor
  · obtain ⟨C, B, a1, a2, a3, a4, a5⟩ := opt_pack (lim := lim) (ws := w :: ws) (ms := []) (fun w h => (h1 w h).2) (by simp)
    have hC : C = [] := by simpa using a1
    subst hC
    have hm : w ∈ B.flatten := by have := a4.mem_iff.2 List.mem_cons_self; simpa using this
    obtain ⟨b, hb, hwb⟩ := List.mem_flatten.1 hm
    obtain ⟨B1, B2, rfl⟩ := List.append_of_mem hb
    have hse := sum_erase hwb
    have hw0 := (h1 w List.mem_cons_self).1
    refine pack_le (fun w h => (hws w h).1) ⟨[], B1 ++ b.erase w :: B2, rfl, by simp, fun d hd => ?_, ?_, ?_⟩
    · rcases List.mem_append.1 hd with h | h
      · exact a3 d (List.mem_append_left _ h)
      · rcases List.mem_cons.1 h with rfl | h
        · have := a3 b hb; omega
        · exact a3 d (List.mem_append_right _ (List.mem_cons_of_mem _ h))
    · have h4 := List.perm_iff_count.1 a4
      refine List.perm_iff_count.2 fun a => ?_
      have h5 := h4 a
      have h2 : List.count a b = (if w == a then 1 else 0) + List.count a (b.erase w) := by
        rw [(List.perm_cons_erase hwb).count_eq, List.count_cons]; omega
      simp only [List.flatMap_nil, List.nil_append, List.flatten_append, List.flatten_cons, List.count_append, List.count_cons] at h5 ⊢
      omega
    · rw [a5]; simp
  · obtain ⟨C, B, a1, a2, a3, a4, a5⟩ := opt_pack (lim := lim) (ws := ws) (ms := []) (fun w h => (hws w h).2) (by simp)
    have hC : C = [] := by simpa using a1
    subst hC
    refine pack_le (fun w h => (h1 w h).1) ⟨[], [w] :: B, rfl, by simp, fun d hd => ?_, ?_, ?_⟩
    · rcases List.mem_cons.1 hd with rfl | h
      · have := (h1 w List.mem_cons_self).2; simpa using this
      · exact a3 d h
    · simpa using a4
    · rw [a5]; simp
theorem optF_le_len {lim : Int} {ws : List Int} (h1 : ∀ w ∈ ws, 0 ≤ w ∧ w ≤ lim) : optF lim ws [] ≤ ws.length := by
  refine pack_le (fun w h => (h1 w h).1) ⟨[], ws.map fun w => [w], rfl, by simp, fun b hb => ?_, ?_, by simp⟩
  · obtain ⟨w, hw, rfl⟩ := List.mem_map.1 hb
    simpa using (h1 w hw).2
  · have : (ws.map fun w => [w]).flatten = ws := by
      induction ws with
      | nil => rfl
      | cons a l ih => simp only [List.map_cons, List.flatten_cons, ih (fun w hw => h1 w (List.mem_cons_of_mem _ hw))]; rfl
    simp [this]
theorem set_perm {ms : List Int} {j q : Nat} (hj : j < ms.length) (hq : q < ms.length) (h : ix ms j = ix ms q) (x : Int) : (ms.set j x).Perm (ms.set q x) := by
  refine List.perm_iff_count.2 fun a => ?_
  rw [List.count_set hj, List.count_set hq]
  rw [ix_eq hj, ix_eq hq] at h
  rw [h]
end Go.Proofs.Ythlpfjcjfhdmaaa
