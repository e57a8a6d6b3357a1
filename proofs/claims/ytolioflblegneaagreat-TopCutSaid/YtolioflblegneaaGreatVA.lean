/- Plain facts: the least number of loads (bins). No program in sight. Plain facts: the search of the least number of lengths, and right plans. The search of the least number of lengths: its objects, and the end of a way. The search of the least number of lengths: a piece more. Contracts: Least. -/
import Derived.Test.YtolioflblegneaaGreatE
import Derived.Test.YtolioflblegneaaGreatM
import Derived.Test.YtolioflblegneaaGreatI
set_option maxRecDepth 100000
set_option linter.unusedSimpArgs false
set_option linter.unusedVariables false
namespace Go.Proofs.YtolioflblegneaaGreat
open Go.RowKit
theorem sum_perm {x y : List Int} (h : x.Perm y) : x.sum = y.sum := by
  induction h with
  | nil => rfl
  | cons a _ ih => simp [ih]
  | swap a b l => simp only [List.sum_cons]; omega
  | trans _ _ h1 h2 => exact h1.trans h2
theorem sum_erase {x : List Int} {w : Int} (h : w ∈ x) : x.sum = w + (x.erase w).sum := by
  rw [sum_perm (List.perm_cons_erase h), List.sum_cons]
/-- The least number of loads, by the masses of those that are begun. -/
def optF (lim : Int) : List Int → List Int → Nat
  | [], ms => ms.length
  | w :: ws, ms => (List.range ms.length).foldl (fun b j => if ix ms j + w ≤ lim then min b (optF lim ws (ms.set j (ix ms j + w))) else b) (optF lim ws (ms ++ [w]))
theorem fmin (p : Nat → Prop) [DecidablePred p] (g : Nat → Nat) : ∀ (js : List Nat) (b : Nat), js.foldl (fun b j => if p j then min b (g j) else b) b ≤ b ∧ (∀ j ∈ js, p j → js.foldl (fun b j => if p j then min b (g j) else b) b ≤ g j) ∧
    (js.foldl (fun b j => if p j then min b (g j) else b) b = b ∨ ∃ j ∈ js, p j ∧ js.foldl (fun b j => if p j then min b (g j) else b) b = g j)
  | [], b => by simp
  | j :: js, b => by
    simp only [List.foldl_cons]
    obtain ⟨h1, h2, h3⟩ := fmin p g js (if p j then min b (g j) else b)
    generalize hv : js.foldl (fun b j => if p j then min b (g j) else b) (if p j then min b (g j) else b) = v at *
    by_cases hp : p j
    · rw [if_pos hp] at h1 h3
      refine ⟨by omega, fun q hq hpq => ?_, ?_⟩
      · rcases List.mem_cons.1 hq with rfl | hq
        · omega
        · exact h2 q hq hpq
      · rcases h3 with h | ⟨q, hq, hp2, h⟩
        · rcases Nat.le_total b (g j) with h4 | h4
          · left; omega
          · right; exact ⟨j, List.mem_cons_self, hp, by omega⟩
        · exact .inr ⟨q, List.mem_cons_of_mem _ hq, hp2, h⟩
    · rw [if_neg hp] at h1 h3
      refine ⟨h1, fun q hq hpq => ?_, ?_⟩
      · rcases List.mem_cons.1 hq with rfl | hq
        · exact absurd hpq hp
        · exact h2 q hq hpq
      · rcases h3 with h | ⟨q, hq, hp2, h⟩
        · exact .inl h
        · exact .inr ⟨q, List.mem_cons_of_mem _ hq, hp2, h⟩
/-- What the least number is of. -/
theorem optF_cons (lim w : Int) (ws ms : List Int) : optF lim (w :: ws) ms ≤ optF lim ws (ms ++ [w]) ∧ (∀ j, j < ms.length → ix ms j + w ≤ lim → optF lim (w :: ws) ms ≤ optF lim ws (ms.set j (ix ms j + w))) ∧
    (optF lim (w :: ws) ms = optF lim ws (ms ++ [w]) ∨ ∃ j, j < ms.length ∧ ix ms j + w ≤ lim ∧ optF lim (w :: ws) ms = optF lim ws (ms.set j (ix ms j + w))) := by
  obtain ⟨h1, h2, h3⟩ := fmin (fun j => ix ms j + w ≤ lim) (fun j => optF lim ws (ms.set j (ix ms j + w))) (List.range ms.length) (optF lim ws (ms ++ [w]))
  refine ⟨h1, fun j hj hf => h2 j (List.mem_range.2 hj) hf, ?_⟩
  rcases h3 with h | ⟨j, hj, hf, h⟩
  · exact .inl h
  · exact .inr ⟨j, List.mem_range.1 hj, hf, h⟩
theorem optF_ge (lim : Int) : ∀ (ws ms : List Int), ms.length ≤ optF lim ws ms
  | [], ms => Nat.le_refl _
  | w :: ws, ms => by
    obtain ⟨_, _, h | ⟨j, _, _, h⟩⟩ := optF_cons lim w ws ms
    · have := optF_ge lim ws (ms ++ [w]); simp at this; omega
    · have := optF_ge lim ws (ms.set j (ix ms j + w)); simp at this; omega
theorem optF_pos (lim w : Int) (ws ms : List Int) : 0 < optF lim (w :: ws) ms := by
  obtain ⟨_, _, h | ⟨j, hj, _, h⟩⟩ := optF_cons lim w ws ms
  · have := optF_ge lim ws (ms ++ [w]); simp at this; omega
  · have := optF_ge lim ws (ms.set j (ix ms j + w)); simp at this; omega
/-- A way to put all into so many loads, some of which are begun. -/
def Pack (lim : Int) (ws ms : List Int) (n : Nat) : Prop := ∃ (C : List (Int × List Int)) (B : List (List Int)), C.map Prod.fst = ms ∧ (∀ c ∈ C, c.1 + c.2.sum ≤ lim) ∧ (∀ b ∈ B, b.sum ≤ lim) ∧ (C.flatMap Prod.snd ++ B.flatten).Perm ws ∧ n = ms.length + B.length
theorem sum_nonneg {x : List Int} (h : ∀ w ∈ x, 0 ≤ w) : 0 ≤ x.sum := by
  induction x with
  | nil => simp
  | cons a x ih =>
    simp only [List.sum_cons]
    have := h a List.mem_cons_self
    have := ih fun w hw => h w (List.mem_cons_of_mem _ hw)
    omega
theorem split_ix {α : Type} [Inhabited α] {l : List α} {j : Nat} (h : j < l.length) : l = l.take j ++ ix l j :: l.drop (j + 1) := by
  rw [ix_eq h]
  simp
theorem ix_mid {α : Type} [Inhabited α] (a b : List α) (x : α) : ix (a ++ x :: b) a.length = x := by
  rw [ix_eq (by simp)]; simp
/-- No way has fewer loads. -/
theorem pack_le {lim : Int} : ∀ {ws ms : List Int} {n : Nat}, (∀ w ∈ ws, 0 ≤ w) → Pack lim ws ms n → optF lim ws ms ≤ n
  | [], ms, n, _, ⟨C, B, _, _, _, _, hn⟩ => by simp only [optF]; omega
  | w :: ws, ms, n, hw, ⟨C, B, hC, hC2, hB, hp, hn⟩ => by
    have hws : ∀ w ∈ ws, 0 ≤ w := fun x hx => hw x (List.mem_cons_of_mem _ hx)
    have hm : w ∈ C.flatMap Prod.snd ++ B.flatten := hp.mem_iff.2 List.mem_cons_self
    have hcp := List.perm_iff_count.1 hp
    obtain ⟨o1, o2, _⟩ := optF_cons lim w ws ms
    rcases List.mem_append.1 hm with h | h
    · obtain ⟨c, hc, hwc⟩ := List.mem_flatMap.1 h
      obtain ⟨C1, C2, rfl⟩ := List.append_of_mem hc
      have hms : ms = C1.map Prod.fst ++ c.1 :: C2.map Prod.fst := by rw [← hC]; simp
      have hl : C1.length < ms.length := by rw [hms]; simp
      have hix : ix ms C1.length = c.1 := by rw [hms]; have := ix_mid (C1.map Prod.fst) (C2.map Prod.fst) c.1; simpa using this
      have hset : ms.set C1.length (c.1 + w) = C1.map Prod.fst ++ (c.1 + w) :: C2.map Prod.fst := by
        rw [hms, List.set_append_right _ _ (by simp)]; simp
      have hse := sum_erase hwc
      have hc2 := hC2 c (by simp)
      have hsub : ∀ x ∈ c.2.erase w, 0 ≤ x := fun x hx => hw x (hp.mem_iff.1 (List.mem_append_left _ (List.mem_flatMap.2 ⟨c, by simp, List.mem_of_mem_erase hx⟩)))
      have hns := sum_nonneg hsub
      have ih := pack_le (ms := ms.set C1.length (c.1 + w)) (n := n) hws ⟨C1 ++ (c.1 + w, c.2.erase w) :: C2, B, by rw [hset]; simp, fun d hd => by
          rcases List.mem_append.1 hd with h | h
          · exact hC2 d (List.mem_append_left _ h)
          · rcases List.mem_cons.1 h with rfl | h
            · simp only; omega
            · exact hC2 d (List.mem_append_right _ (List.mem_cons_of_mem _ h)), hB, by
          refine List.perm_iff_count.2 fun a => ?_
          have h1 := hcp a
          have h2 : List.count a c.2 = (if w == a then 1 else 0) + List.count a (c.2.erase w) := by
            rw [(List.perm_cons_erase hwc).count_eq, List.count_cons]; omega
          simp only [List.flatMap_append, List.flatMap_cons, List.count_append, List.count_cons] at h1 ⊢
          omega, by simpa using hn⟩
      rw [← hix] at ih
      exact Nat.le_trans (o2 _ hl (by omega)) ih
    · obtain ⟨b, hb, hwb⟩ := List.mem_flatten.1 h
      obtain ⟨B1, B2, rfl⟩ := List.append_of_mem hb
      have hse := sum_erase hwb
      have hb2 := hB b (by simp)
      have ih := pack_le (ms := ms ++ [w]) (n := n) hws ⟨C ++ [(w, b.erase w)], B1 ++ B2, by rw [← hC]; simp, fun d hd => by
          rcases List.mem_append.1 hd with h | h
          · exact hC2 d h
          · simp only [List.mem_singleton] at h
            subst h
            simp only; omega, fun d hd => hB d (by
          rcases List.mem_append.1 hd with h | h
          · exact List.mem_append_left _ h
          · exact List.mem_append_right _ (List.mem_cons_of_mem _ h)), by
          refine List.perm_iff_count.2 fun a => ?_
          have h1 := hcp a
          have h2 : List.count a b = (if w == a then 1 else 0) + List.count a (b.erase w) := by
            rw [(List.perm_cons_erase hwb).count_eq, List.count_cons]; omega
          simp only [List.flatMap_append, List.flatMap_cons, List.flatMap_nil, List.append_nil, List.flatten_append, List.flatten_cons, List.count_append, List.count_cons] at h1 ⊢
          omega, by simp at hn ⊢; omega⟩
      exact Nat.le_trans o1 ih
/-- The least number has a way. -/
theorem opt_pack {lim : Int} : ∀ {ws ms : List Int}, (∀ w ∈ ws, w ≤ lim) → (∀ m ∈ ms, m ≤ lim) → Pack lim ws ms (optF lim ws ms)
  | [], ms, _, hm => ⟨ms.map fun m => (m, []), [], by simp [Function.comp_def], fun c hc => by
      obtain ⟨m, h1, rfl⟩ := List.mem_map.1 hc
      simpa using hm m h1, by simp, by simp, by simp [optF]⟩
  | w :: ws, ms, hw, hm => by
    have hws : ∀ w ∈ ws, w ≤ lim := fun x hx => hw x (List.mem_cons_of_mem _ hx)
    obtain ⟨_, _, h | ⟨j, hj, hf, h⟩⟩ := optF_cons lim w ws ms
    · obtain ⟨C, B, h1, h2, h3, h4, h5⟩ := opt_pack (ms := ms ++ [w]) hws (fun m h => by
        rcases List.mem_append.1 h with h | h
        · exact hm m h
        · simp only [List.mem_singleton] at h; subst h; exact hw m List.mem_cons_self)
      have hne : C ≠ [] := fun e => by subst e; simp at h1
      obtain ⟨C0, c, rfl⟩ : ∃ C0 c, C = C0 ++ [c] := ⟨C.dropLast, C.getLast hne, (List.dropLast_concat_getLast hne).symm⟩
      simp only [List.map_append, List.map_cons, List.map_nil] at h1
      obtain ⟨h6, h7⟩ := List.append_inj h1 (by have := congrArg List.length h1; simp at this; simpa using this)
      have hc1 : c.1 = w := by simpa using h7
      have hc2 := h2 c (by simp)
      refine ⟨C0, (w :: c.2) :: B, h6, fun d hd => h2 d (List.mem_append_left _ hd), fun b hb => ?_, ?_, ?_⟩
      · rcases List.mem_cons.1 hb with rfl | hb
        · simp only [List.sum_cons]; omega
        · exact h3 b hb
      · have h4 := List.perm_iff_count.1 h4
        refine List.perm_iff_count.2 fun a => ?_
        have := h4 a
        simp only [List.flatMap_append, List.flatMap_cons, List.flatMap_nil, List.append_nil, List.flatten_cons, List.count_append, List.count_cons] at this ⊢
        omega
      · rw [h, h5]; simp; omega
    · obtain ⟨C, B, h1, h2, h3, h4, h5⟩ := opt_pack (ms := ms.set j (ix ms j + w)) hws (fun m h => by
        rcases List.mem_or_eq_of_mem_set h with h | h
        · exact hm m h
        · omega)
      have hlC : C.length = ms.length := by have := congrArg List.length h1; simpa using this
      have hjC : j < C.length := by omega
      have hsp := split_ix hjC
      have hsm := split_ix hj
      have hcj : (ix C j).1 = ix ms j + w := by
        have h6 : ix (C.map Prod.fst) j = ix (ms.set j (ix ms j + w)) j := by rw [h1]
        rw [ix_set_self hj, ix_eq (by simpa using hjC), List.getElem_map, ← ix_eq hjC] at h6
        exact h6
      have hmap : (C.set j (ix ms j, w :: (ix C j).2)).map Prod.fst = ms := by
        rw [List.map_set, h1, List.set_set]
        conv => rhs; rw [hsm]
        rw [List.set_eq_take_append_cons_drop, if_pos hj]
      have hcs : C.set j (ix ms j, w :: (ix C j).2) = C.take j ++ (ix ms j, w :: (ix C j).2) :: C.drop (j + 1) := by rw [List.set_eq_take_append_cons_drop, if_pos hjC]
      have hmem : ix C j ∈ C := by rw [ix_eq hjC]; exact List.getElem_mem _
      refine ⟨C.set j (ix ms j, w :: (ix C j).2), B, hmap, fun c hc => ?_, h3, ?_, ?_⟩
      · rcases List.mem_or_eq_of_mem_set hc with hc | rfl
        · exact h2 c hc
        · have := h2 _ hmem
          simp only [List.sum_cons]
          omega
      · have h4 := List.perm_iff_count.1 h4
        refine List.perm_iff_count.2 fun a => ?_
        have h6 := h4 a
        rw [hsp] at h6
        rw [hcs]
        simp only [List.flatMap_append, List.flatMap_cons, List.count_append, List.count_cons, List.cons_append] at h6 ⊢
        omega
      · rw [h, h5]; simp
theorem lift_perm {α : Type} {f : α → Int} {a b : List Int} (h : a.Perm b) : ∀ {C : List α}, C.map f = a → ∃ C' : List α, C'.Perm C ∧ C'.map f = b := by
  induction h with
  | nil => intro C hC; exact ⟨C, List.Perm.refl _, hC⟩
  | cons x _ ih =>
    intro C hC
    cases C with
    | nil => simp at hC
    | cons c C =>
      simp only [List.map_cons, List.cons.injEq] at hC
      obtain ⟨C', h1, h2⟩ := ih hC.2
      exact ⟨c :: C', List.Perm.cons c h1, by rw [List.map_cons, h2, hC.1]⟩
  | swap x y l =>
    intro C hC
    match C, hC with
    | c :: d :: C, hC =>
      simp only [List.map_cons, List.cons.injEq] at hC
      exact ⟨d :: c :: C, List.Perm.swap c d C, by rw [List.map_cons, List.map_cons, hC.1, hC.2.1, hC.2.2]⟩
  | trans _ _ h1 h2 =>
    intro C hC
    obtain ⟨C1, a1, a2⟩ := h1 hC
    obtain ⟨C2, b1, b2⟩ := h2 a2
    exact ⟨C2, b1.trans a1, b2⟩
theorem Pack.perm {lim : Int} {ws ws' ms ms' : List Int} {n : Nat} (h : Pack lim ws ms n) (hw : ws.Perm ws') (hm : ms.Perm ms') : Pack lim ws' ms' n := by
  obtain ⟨C, B, h1, h2, h3, h4, h5⟩ := h
  obtain ⟨C', c1, c2⟩ := lift_perm hm h1
  exact ⟨C', B, c2, fun c hc => h2 c (c1.mem_iff.1 hc), h3, ((c1.flatMap_right _).append_right _).trans (h4.trans hw), by rw [← hm.length_eq]; exact h5⟩
theorem optF_perm {lim : Int} {ws ws' ms ms' : List Int} (hw : ws.Perm ws') (hm : ms.Perm ms') (h1 : ∀ w ∈ ws, 0 ≤ w ∧ w ≤ lim) (h2 : ∀ m ∈ ms, m ≤ lim) : optF lim ws ms = optF lim ws' ms' :=
  Nat.le_antisymm (pack_le (fun w h => (h1 w h).1) ((opt_pack (fun w h => (h1 w (hw.mem_iff.2 h)).2) (fun m h => h2 m (hm.mem_iff.2 h))).perm hw.symm hm.symm))
    (pack_le (fun w h => (h1 w (hw.mem_iff.2 h)).1) ((opt_pack (fun w h => (h1 w h).2) h2).perm hw hm))
theorem optF_le_len {lim : Int} {ws : List Int} (h1 : ∀ w ∈ ws, 0 ≤ w ∧ w ≤ lim) : optF lim ws [] ≤ ws.length := by
  refine pack_le (fun w h => (h1 w h).1) ⟨[], ws.map fun w => [w], rfl, by simp, fun b hb => ?_, ?_, by simp⟩
  · obtain ⟨w, hw, rfl⟩ := List.mem_map.1 hb
    simpa using (h1 w hw).2
  · have : (ws.map fun w => [w]).flatten = ws := by
      induction ws with
      | nil => rfl
      | cons a l ih => simp only [List.map_cons, List.flatten_cons, ih (fun w hw => h1 w (List.mem_cons_of_mem _ hw))]; rfl
    simp [this]
theorem set_perm {ms : List Int} {j q : Nat} (hj : j < ms.length) (hq : q < ms.length) (h : ix ms j = ix ms q) (x : Int) : (ms.set j x).Perm (ms.set q x) := by
  refine List.perm_iff_count.2 fun a => ?_
  rw [List.count_set hj, List.count_set hq]
  rw [ix_eq hj, ix_eq hq] at h
  rw [h]
end Go.Proofs.YtolioflblegneaaGreat
namespace Go.Proofs.YtolioflblegneaaGreat
open Go.RowKit
def seenL (L : List Br) (j : Nat) : Bool := (List.range j).any fun q => decide ((ix L q).left = (ix L j).left)
/-- A length in use that is not tried. -/
def skipL (n : Int) (L : List Br) (j : Nat) : Bool := seenL L j || decide ((ix L j).left < n)
def newB (l : List Pc) (lim i : Int) : Br := cutBr i (ix l i.toNat).len ⟨0, lim, zeros l.length⟩
/-- The search: the pieces that are left, the lengths in use, the best ones so far. -/
def vis (l : List Pc) (lim : Int) : List Int → List Br → List Br → List Br
  | [], L, B => if B ≠ [] ∧ B.length ≤ L.length then B else L
  | i :: rest, L, B => if B ≠ [] ∧ B.length ≤ L.length then B else
      vis l lim rest (L ++ [newB l lim i]) ((List.range L.length).foldl (fun B j => if skipL (ix l i.toNat).len L j then B else vis l lim rest (L.set j (cutBr i (ix l i.toNat).len (ix L j))) B) B)
def ub (b n : Nat) : Nat := if b = 0 then n else min b n
theorem fold_len {α : Type} {f : List α → Nat → List α} {g : Nat → Nat → Nat} : ∀ (js : List Nat) (B : List α), (∀ j ∈ js, ∀ B : List α, (f B j).length = g B.length j) → (js.foldl f B).length = js.foldl g B.length
  | [], _, _ => rfl
  | j :: js, B, h => by
    simp only [List.foldl_cons]
    rw [fold_len js _ (fun j hj => h j (List.mem_cons_of_mem _ hj)), h j List.mem_cons_self]
theorem fchain (q : Nat → Bool) (o : Nat → Nat) (ho : ∀ j, o j ≠ 0) : ∀ (js : List Nat) (b : Nat), (js.foldl (fun b j => if q j then b else ub b (o j)) b = b ∨ ∃ j ∈ js, q j = false ∧ js.foldl (fun b j => if q j then b else ub b (o j)) b = o j) ∧
    (∀ j ∈ js, q j = false → js.foldl (fun b j => if q j then b else ub b (o j)) b ≤ o j ∧ js.foldl (fun b j => if q j then b else ub b (o j)) b ≠ 0) ∧ (b ≠ 0 → js.foldl (fun b j => if q j then b else ub b (o j)) b ≤ b ∧ js.foldl (fun b j => if q j then b else ub b (o j)) b ≠ 0)
  | [], b => by simp
  | j :: js, b => by
    simp only [List.foldl_cons]
    obtain ⟨h1, h2, h3⟩ := fchain q o ho js (if q j then b else ub b (o j))
    generalize hv : js.foldl (fun b j => if q j then b else ub b (o j)) (if q j then b else ub b (o j)) = v at *
    have hoj := ho j
    cases hq : q j with
    | true =>
      rw [hq] at h1 h3
      simp only [if_true] at h1 h3
      refine ⟨?_, fun p hp hpq => ?_, h3⟩
      · rcases h1 with h | ⟨p, hp, h⟩
        · exact .inl h
        · exact .inr ⟨p, List.mem_cons_of_mem _ hp, h⟩
      · rcases List.mem_cons.1 hp with rfl | hp
        · rw [hq] at hpq; cases hpq
        · exact h2 p hp hpq
    | false =>
      rw [hq] at h1 h3
      simp only [Bool.false_eq_true, if_false] at h1 h3
      unfold ub at h1 h3
      have hnz : (if b = 0 then o j else min b (o j)) ≠ 0 := by
        split
        · exact hoj
        · rename_i hb; rw [Nat.min_def]; split <;> omega
      obtain ⟨h4, h5⟩ := h3 hnz
      refine ⟨?_, fun p hp hpq => ?_, fun hb => ?_⟩
      · rcases h1 with h | ⟨p, hp, h⟩
        · by_cases hb : b = 0
          · rw [if_pos hb] at h
            exact .inr ⟨j, List.mem_cons_self, hq, h⟩
          · rw [if_neg hb] at h
            rcases Nat.le_total b (o j) with h6 | h6
            · left; omega
            · right; exact ⟨j, List.mem_cons_self, hq, by omega⟩
        · exact .inr ⟨p, List.mem_cons_of_mem _ hp, h⟩
      · rcases List.mem_cons.1 hp with rfl | hp
        · refine ⟨?_, h5⟩
          split at h4 <;> omega
        · exact h2 p hp hpq
      · rw [if_neg hb] at h4
        exact ⟨by omega, h5⟩
theorem skip_first {n : Int} {L : List Br} : ∀ (j : Nat), n ≤ (ix L j).left → ∃ q, q ≤ j ∧ (ix L q).left = (ix L j).left ∧ skipL n L q = false := by
  intro j
  induction j using Nat.strongRecOn with
  | _ j ih =>
    intro hf
    cases hs : seenL L j with
    | false => exact ⟨j, Nat.le_refl _, rfl, by unfold skipL; rw [hs]; simp; exact hf⟩
    | true =>
      unfold seenL at hs
      obtain ⟨q, hq, h⟩ := List.any_eq_true.1 hs
      have hq := List.mem_range.1 hq
      have h : (ix L q).left = (ix L j).left := by simpa using h
      obtain ⟨p, p1, p2, p3⟩ := ih q hq (by rw [h]; exact hf)
      exact ⟨p, by omega, p2.trans h, p3⟩
def msL (lim : Int) (L : List Br) : List Int := L.map fun b => lim - b.left
def wsL (l : List Pc) (x : List Int) : List Int := x.map fun i => (ix l i.toNat).len
theorem msL_len (lim : Int) (L : List Br) : (msL lim L).length = L.length := by simp [msL]
theorem msL_ix (lim : Int) {L : List Br} {j : Nat} (h : j < L.length) : ix (msL lim L) j = lim - (ix L j).left := by
  rw [ix_eq (by rw [msL_len]; exact h), ix_eq h]; simp [msL]
theorem msL_set (lim : Int) {L : List Br} {j : Nat} (i n : Int) (_ : j < L.length) : msL lim (L.set j (cutBr i n (ix L j))) = (msL lim L).set j (lim - (ix L j).left + n) := by
  unfold msL
  rw [List.map_set]
  congr 1
  simp only [cutBr]
  omega
theorem msL_snoc (l : List Pc) (lim : Int) (L : List Br) (i : Int) : msL lim (L ++ [newB l lim i]) = msL lim L ++ [(ix l i.toNat).len] := by
  unfold msL
  rw [List.map_append, List.map_cons, List.map_nil]
  congr 2
  simp only [newB, cutBr]
  omega
theorem skip_fits {n : Int} {L : List Br} {j : Nat} (h : skipL n L j = false) : n ≤ (ix L j).left := by
  unfold skipL at h
  simp only [Bool.or_eq_false_iff, decide_eq_false_iff_not] at h
  omega
/-- How many loads it finds. -/
theorem vis_len {l : List Pc} {most : Int} : ∀ (x : List Int) (L B : List Br), (∀ i ∈ x, 0 ≤ (ix l i.toNat).len ∧ (ix l i.toNat).len ≤ most) → (∀ y ∈ L, 0 ≤ y.left) → (vis l most x L B).length = ub B.length (optF most (wsL l x) (msL most L))
  | [], L, B, _, _ => by
    have hb : B.length = 0 ↔ B = [] := List.length_eq_zero_iff
    simp only [vis, wsL, List.map_nil, optF, msL_len, ub]
    by_cases h : B = []
    · subst h; simp
    · have h2 : B.length ≠ 0 := fun e => h (hb.1 e)
      rw [if_neg h2]
      by_cases h3 : B.length ≤ L.length
      · rw [if_pos ⟨h, h3⟩]; omega
      · rw [if_neg (fun h4 => h3 h4.2)]; omega
  | i :: x, L, B, hx, hL => by
    have hb : B.length = 0 ↔ B = [] := List.length_eq_zero_iff
    have hxs : ∀ i ∈ x, 0 ≤ (ix l i.toNat).len ∧ (ix l i.toNat).len ≤ most := fun j hj => hx j (List.mem_cons_of_mem _ hj)
    have hi := hx i List.mem_cons_self
    have hge := optF_ge most (wsL l (i :: x)) (msL most L)
    rw [msL_len] at hge
    simp only [vis]
    by_cases h : B ≠ [] ∧ B.length ≤ L.length
    · rw [if_pos h]
      unfold ub
      rw [if_neg (fun e => h.1 (hb.1 e))]
      omega
    rw [if_neg h]
    have hws : wsL l (i :: x) = (ix l i.toNat).len :: wsL l x := rfl
    have hw2 : ∀ w ∈ wsL l x, 0 ≤ w ∧ w ≤ most := fun w hw => by
      obtain ⟨j, hj, rfl⟩ := List.mem_map.1 hw
      exact hxs j hj
    have hms : ∀ m ∈ msL most L, m ≤ most := fun m hm => by
      obtain ⟨y, hy, rfl⟩ := List.mem_map.1 hm
      have := hL y hy
      omega
    rw [vis_len x (L ++ [newB l most i]) _ hxs (fun y hy => by
      rcases List.mem_append.1 hy with hy | hy
      · exact hL y hy
      · simp only [List.mem_singleton] at hy
        subst hy
        simp only [newB, cutBr]; omega)]
    -- what each way comes to
    let o : Nat → Nat := fun j => if j < L.length then optF most (wsL l x) ((msL most L).set j (most - (ix L j).left + (ix l i.toNat).len)) else 1
    have ho : ∀ j, o j ≠ 0 := fun j => by
      simp only [o]
      split
      · have := optF_ge most (wsL l x) ((msL most L).set j (most - (ix L j).left + (ix l i.toNat).len))
        rw [List.length_set, msL_len] at this
        omega
      · omega
    have hof : ∀ j, j < L.length → o j = optF most (wsL l x) ((msL most L).set j (most - (ix L j).left + (ix l i.toNat).len)) := fun j hj => if_pos hj
    have hfl := fold_len (f := fun B j => if skipL (ix l i.toNat).len L j then B else vis l most x (L.set j (cutBr i (ix l i.toNat).len (ix L j))) B) (g := fun b j => if skipL (ix l i.toNat).len L j then b else ub b (o j)) (List.range L.length) B (fun j hj B => by
      have hj := List.mem_range.1 hj
      cases hs : skipL (ix l i.toNat).len L j with
      | true => rfl
      | false =>
        simp only [Bool.false_eq_true, if_false]
        have hf := skip_fits hs
        rw [vis_len x _ B hxs (fun y hy => by
          rcases List.mem_or_eq_of_mem_set hy with hy | rfl
          · exact hL y hy
          · simp only [cutBr]; omega), msL_set most i _ hj, hof j hj])
    rw [hfl]
    obtain ⟨c1, c2, c3⟩ := fchain (skipL (ix l i.toNat).len L) o ho (List.range L.length) B.length
    generalize hv : (List.range L.length).foldl (fun b j => if skipL (ix l i.toNat).len L j then b else ub b (o j)) B.length = v at *
    obtain ⟨t1, t2, t3⟩ := optF_cons most (ix l i.toNat).len (wsL l x) (msL most L)
    rw [← hws] at t1 t2 t3
    rw [msL_snoc]
    rw [msL_len] at t2 t3
    generalize ht : optF most (wsL l (i :: x)) (msL most L) = t at *
    have hn0 := optF_ge most (wsL l x) (msL most L ++ [(ix l i.toNat).len])
    simp only [List.length_append, List.length_cons, List.length_nil] at hn0
    generalize hnn : optF most (wsL l x) (msL most L ++ [(ix l i.toNat).len]) = nw at *
    -- no try is less than the least number
    have u1 : ∀ j, j < L.length → skipL (ix l i.toNat).len L j = false → t ≤ o j := fun j hj hs => by
      rw [hof j hj]
      have := t2 j hj (by rw [msL_ix most hj]; have := skip_fits hs; omega)
      rw [msL_ix most hj] at this
      exact this
    -- each one that fits has a like one that is tried
    have u2 : t = nw ∨ ∃ j, j < L.length ∧ skipL (ix l i.toNat).len L j = false ∧ t = o j := by
      rcases t3 with h | ⟨j, hj, hf, h⟩
      · exact .inl h
      · rw [msL_ix most hj] at hf h
        obtain ⟨q, hq, e1, e2⟩ := skip_first (n := (ix l i.toNat).len) (L := L) j (by omega)
        refine .inr ⟨q, by omega, e2, ?_⟩
        rw [h, hof q (by omega), e1]
        exact optF_perm (List.Perm.refl _) (set_perm (by rw [msL_len]; exact hj) (by rw [msL_len]; omega) (by rw [msL_ix most hj, msL_ix most (show q < L.length by omega), e1]) _) hw2 (fun m hm => by
          rcases List.mem_or_eq_of_mem_set hm with hm | rfl
          · exact hms m hm
          · exact hf)
    have c1' : v = B.length ∨ ∃ j, j < L.length ∧ skipL (ix l i.toNat).len L j = false ∧ v = o j := by
      rcases c1 with h | ⟨j, hj, h1, h2⟩
      · exact .inl h
      · exact .inr ⟨j, List.mem_range.1 hj, h1, h2⟩
    unfold ub
    by_cases hb0 : B.length = 0
    · rw [if_pos hb0]
      rcases u2 with h | ⟨j, hj, hs, h⟩
      · rcases c1' with h1 | ⟨q, hq, hs, h1⟩
        · rw [if_pos (by omega)]; omega
        · have := ho q
          have := u1 q hq hs
          rw [if_neg (by omega)]; omega
      · obtain ⟨e1, e2⟩ := c2 j (List.mem_range.2 hj) hs
        rw [if_neg e2]
        rcases c1' with h1 | ⟨q, hq, hs, h1⟩
        · omega
        · have := u1 q hq hs
          omega
    · obtain ⟨e1, e2⟩ := c3 hb0
      rw [if_neg hb0, if_neg e2]
      rcases u2 with h | ⟨j, hj, hs, h⟩
      · rcases c1' with h1 | ⟨q, hq, hs, h1⟩
        · omega
        · have := u1 q hq hs
          omega
      · obtain ⟨e3, e4⟩ := c2 j (List.mem_range.2 hj) hs
        rcases c1' with h1 | ⟨q, hq, hs, h1⟩
        · omega
        · have := u1 q hq hs
          omega
/-- Sums over patterns. -/
def sumW (g : Int → List Int → Int) (out : List Pt) : Int := (out.map fun p => g p.stock p.ps * p.times).sum
theorem sum_set {α : Type} [Inhabited α] (f : α → Int) {l : List α} {j : Nat} (h : j < l.length) (x : α) : ((l.set j x).map f).sum = (l.map f).sum - f (ix l j) + f x := by
  have e : l.set j x = l.take j ++ x :: l.drop (j + 1) := by rw [List.set_eq_take_append_cons_drop, if_pos h]
  have e2 : (l.map f).sum = ((l.take j).map f).sum + (f (ix l j) + ((l.drop (j + 1)).map f).sum) := by
    conv => lhs; rw [← List.take_append_drop j l, drop_ix h]
    rw [List.map_append, List.sum_append, List.map_cons, List.sum_cons]
  rw [e, List.map_append, List.sum_append, List.map_cons, List.sum_cons, e2]
  omega
theorem sumW_add (g : Int → List Int → Int) (out : List Pt) (b : Br) : sumW g (addPt out b) = sumW g out + g b.kind b.ps := by
  unfold addPt
  split
  · rename_i hc
    obtain ⟨h1, h2, h3⟩ := hc
    unfold sumW
    rw [sum_set _ (by omega)]
    simp only [upPt, h2, h3, Int.mul_add]
    omega
  · unfold sumW
    rw [List.map_append, List.sum_append]
    simp
theorem sumW_pat (g : Int → List Int → Int) (o : List Br) : sumW g (patL o) = (o.map fun b => g b.kind b.ps).sum := by
  have key : ∀ k, k ≤ o.length → sumW g (patL (o.take k)) = ((o.take k).map fun b => g b.kind b.ps).sum := by
    intro k
    induction k with
    | zero => intro _; simp [patL, sumW]
    | succ k ih =>
      intro hk
      rw [patT_succ (by omega), sumW_add, ih (by omega), take_snoc (by omega), List.map_append, List.sum_append]
      simp
  have := key o.length (Nat.le_refl _)
  rwa [List.take_length] at this
theorem sum_one {α : Type} (o : List α) : (o.map fun _ => (1 : Int)).sum = o.length := by
  induction o with
  | nil => rfl
  | cons a o ih => rw [List.map_cons, List.sum_cons, ih, List.length_cons]; omega
theorem sum_nn {α : Type} {f : α → Int} {o : List α} (h : ∀ b ∈ o, 0 ≤ f b) : 0 ≤ (o.map f).sum := by
  refine sum_nonneg fun w hw => ?_
  obtain ⟨b, hb, rfl⟩ := List.mem_map.1 hw
  exact h b hb
theorem sum_ge {α : Type} {f : α → Int} {o : List α} (h : ∀ b ∈ o, 0 ≤ f b) {b : α} (hb : b ∈ o) : f b ≤ (o.map f).sum := by
  induction o with
  | nil => cases hb
  | cons a o ih =>
    rw [List.map_cons, List.sum_cons]
    have h1 := h a List.mem_cons_self
    have h2 := sum_nn (f := f) (o := o) fun c hc => h c (List.mem_cons_of_mem _ hc)
    rcases List.mem_cons.1 hb with rfl | hb
    · omega
    · have := ih (fun c hc => h c (List.mem_cons_of_mem _ hc)) hb; omega
theorem okN_of : ∀ {l : List Pc} {ns : List Int}, (∀ i, i < l.length → i < ns.length → 0 ≤ ix ns i ∧ ix ns i ≤ (ix l i).cnt) → okN l ns = true
  | [], [], _ => rfl
  | [], _ :: _, _ => rfl
  | _ :: _, [], _ => rfl
  | p :: l, n :: ns, h => by
    have h0 := h 0 (by simp) (by simp)
    simp only [okN, Bool.and_eq_true, decide_eq_true_eq]
    exact ⟨⟨h0.1, h0.2⟩, okN_of fun i hi hi2 => h (i + 1) (by simpa using hi) (by simpa using hi2)⟩
/-- Lengths in use that yield just what is ordered. -/
structure Bars (s l : List Pc) (o : List Br) : Prop where
  len : o.length ≤ 1000
  bar : ∀ b ∈ o, 0 ≤ b.kind ∧ b.kind < s.length ∧ b.ps.length = l.length ∧ (∀ i, i < l.length → 0 ≤ ix b.ps i) ∧ dotL l b.ps ≤ (ix s b.kind.toNat).len
  sum : ∀ i, i < l.length → (o.map fun b => ix b.ps i).sum = (ix l i).cnt
  use : ∀ j : Nat, j < s.length → (ix s j).cnt < 0 ∨ (o.map fun b => if b.kind = (j : Int) then (1 : Int) else 0).sum ≤ (ix s j).cnt
theorem patL_ok {Q : List Int → Prop} {o : List Br} (h : ∀ b ∈ o, Q b.ps) : PtOk Q o.length (patL o) := by
  have := patT_ok h o.length (Nat.le_refl _)
  rwa [List.take_length] at this
/-- Each pattern is that of a length in use. -/
theorem pat_mem {o : List Br} : ∀ p ∈ patL o, ∃ b ∈ o, b.kind = p.stock ∧ b.ps = p.ps := by
  have key : ∀ k, k ≤ o.length → ∀ p ∈ patL (o.take k), ∃ b ∈ o, b.kind = p.stock ∧ b.ps = p.ps := by
    intro k
    induction k with
    | zero => intro _ p hp; simp [patL] at hp
    | succ k ih =>
      intro hk p hp
      rw [patT_succ (by omega)] at hp
      unfold addPt at hp
      split at hp
      · rename_i hc
        rcases List.mem_or_eq_of_mem_set hp with hp | rfl
        · exact ih (by omega) p hp
        · exact ⟨ix o k, ix_mem (by omega), hc.2.1.symm, hc.2.2.symm⟩
      · rcases List.mem_append.1 hp with hp | hp
        · exact ih (by omega) p hp
        · simp only [List.mem_singleton] at hp
          subst hp
          exact ⟨ix o k, ix_mem (by omega), rfl, rfl⟩
  intro p hp
  exact key o.length (Nat.le_refl _) p (by rwa [List.take_length])
theorem bars_plan {s l : List Pc} {o : List Br} (h : Bars s l o) : planB s (patL o) = true := by
  have hk := patL_ok (Q := fun _ => True) (o := o) fun _ _ => trivial
  refine plan_yes (by have := hk.len; have := h.len; omega) fun k hk2 => ?_
  have hm := ix_mem hk2
  obtain ⟨b, hb, e1, e2⟩ := pat_mem _ hm
  obtain ⟨b1, b2, _⟩ := h.bar b hb
  have ht := hk.times _ hm
  have := h.len
  simp only [nopB, Bool.or_eq_false_iff, decide_eq_false_iff_not]
  omega
theorem timesT_pat (o : List Br) : timesT (patL o) (patL o).length = o.length := by
  have := sumW_pat (fun _ _ => 1) o
  unfold sumW at this
  rw [sum_one] at this
  unfold timesT
  rw [List.take_length, ← this]
  congr 1
  refine List.map_congr_left fun p _ => ?_
  exact (Int.one_mul _).symm
theorem bars_right {s l : List Pc} {o : List Br} (h : Bars s l o) : rightB s l (patL o) = true := by
  refine right_yes.2 ⟨bars_plan h, fun k hk => ?_, fun i hi => ?_, fun j hj => ?_⟩
  · obtain ⟨b, hb, e1, e2⟩ := pat_mem _ (ix_mem hk)
    obtain ⟨b1, b2, b3, b4, b5⟩ := h.bar b hb
    unfold fitP fitsB
    rw [← e1, ← e2]
    simp only [Bool.and_eq_true, decide_eq_true_eq]
    refine ⟨b3, okN_of fun i hi _ => ⟨b4 i hi, ?_⟩, b5⟩
    rw [← h.sum i hi]
    exact sum_ge (f := fun b : Br => ix b.ps i) (fun c hc => (h.bar c hc).2.2.2.1 i hi) hb
  · have := sumW_pat (fun _ ps => ix ps i) o
    unfold sumW at this
    unfold madeT
    rw [List.take_length, this]
    exact h.sum i hi
  · have := sumW_pat (fun k _ => if k = (j : Int) then 1 else 0) o
    unfold sumW at this
    have e : usedT (patL o) (patL o).length j = (o.map fun b => if b.kind = (j : Int) then (1 : Int) else 0).sum := by
      unfold usedT
      rw [List.take_length, ← this]
      congr 1
      refine List.map_congr_left fun p _ => ?_
      simp only
      split
      · rw [Int.one_mul]
      · rw [Int.zero_mul]
    rw [e]
    exact h.use j hj
theorem dot_set : ∀ {l : List Pc} {ns : List Int} {i : Nat}, i < l.length → i < ns.length → dotL l (ns.set i (ix ns i + 1)) = dotL l ns + (ix l i).len
  | p :: l, n :: ns, 0, _, _ => by
    have e1 : ix (n :: ns) 0 = n := rfl
    have e2 : ix (p :: l) 0 = p := rfl
    rw [e1, e2]
    simp only [List.set_cons_zero, dotL, Int.add_mul, Int.one_mul]
    omega
  | p :: l, n :: ns, i + 1, h1, h2 => by
    have ih := dot_set (l := l) (ns := ns) (i := i) (by simpa using h1) (by simpa using h2)
    have e1 : ix (n :: ns) (i + 1) = ix ns i := rfl
    have e2 : ix (p :: l) (i + 1) = ix l i := rfl
    rw [e1, e2]
    simp only [List.set_cons_succ, dotL, ih]
    omega
theorem dot_zeros : ∀ (l : List Pc) (n : Nat), dotL l (zeros n) = 0
  | [], n => by simp [dotL]
  | p :: l, 0 => by simp [zeros, dotL]
  | p :: l, n + 1 => by
    have ih := dot_zeros l n
    have e : zeros (n + 1) = 0 :: zeros n := rfl
    rw [e, dotL, ih]; omega
/-- A length in use, cut as it says. -/
structure BarOk (s l : List Pc) (b : Br) : Prop where
  k0 : 0 ≤ b.kind
  k1 : b.kind < s.length
  ps : b.ps.length = l.length
  nn : ∀ i, i < l.length → 0 ≤ ix b.ps i
  left : b.left = (ix s b.kind.toNat).len - dotL l b.ps
  l0 : 0 ≤ b.left
theorem barOk_new {s l : List Pc} {k : Int} (h0 : 0 ≤ k) (h1 : k < s.length) (h2 : 0 ≤ (ix s k.toNat).len) : BarOk s l ⟨k, (ix s k.toNat).len, zeros l.length⟩ :=
  ⟨h0, h1, zeros_len _, fun i _ => by simp only [zeros_ix]; omega, by simp only [dot_zeros]; omega, h2⟩
theorem barOk_cut {s l : List Pc} {b : Br} {i : Int} (h : BarOk s l b) (hi : 0 ≤ i ∧ i < l.length) (hf : (ix l i.toNat).len ≤ b.left) : BarOk s l (cutBr i (ix l i.toNat).len b) := by
  have hps := h.ps
  refine ⟨h.k0, h.k1, by simp only [cutBr, List.length_set]; exact h.ps, fun j hj => ?_, ?_, by simp only [cutBr]; omega⟩
  · have := h.nn j hj
    simp only [cutBr]
    by_cases e : j = i.toNat
    · subst e; rw [ix_set_self (by omega)]; omega
    · rw [ix_set_ne e]; exact this
  · simp only [cutBr]
    rw [dot_set (by omega) (by omega), h.left]
    omega
theorem sum_cut {l : List Pc} {o : List Br} {f : Nat} {i n : Int} (hf : f < o.length) (hi : 0 ≤ i ∧ i < l.length) (hps : (ix o f).ps.length = l.length) (j : Nat) : ((o.set f (cutBr i n (ix o f))).map fun b => ix b.ps j).sum = (o.map fun b => ix b.ps j).sum + if (j : Int) = i then 1 else 0 := by
  rw [sum_set _ hf]
  simp only [cutBr]
  by_cases e : j = i.toNat
  · subst e; rw [ix_set_self (by omega), if_pos (by omega)]; omega
  · rw [ix_set_ne e, if_neg (by omega)]; omega
theorem sum_new {l : List Pc} {o : List Br} {k r i n : Int} (hi : 0 ≤ i ∧ i < l.length) (j : Nat) : ((o ++ [cutBr i n ⟨k, r, zeros l.length⟩]).map fun b => ix b.ps j).sum = (o.map fun b => ix b.ps j).sum + if (j : Int) = i then 1 else 0 := by
  rw [List.map_append, List.sum_append, List.map_cons, List.map_nil, List.sum_cons, List.sum_nil]
  simp only [cutBr]
  by_cases e : j = i.toNat
  · subst e; rw [ix_set_self (by rw [zeros_len]; omega), zeros_ix, if_pos (by omega)]; omega
  · rw [ix_set_ne e, zeros_ix, if_neg (by omega)]; omega
/-- What holds of the search's lengths all the way: the pieces in them and those that are left are all. -/
structure VisOk (s l : List Pc) (x : List Int) (o : List Br) : Prop where
  bar : ∀ b ∈ o, BarOk s l b ∧ b.kind = 0
  sum : ∀ i : Nat, i < l.length → (o.map fun b => ix b.ps i).sum + x.count (i : Int) = (ix l i).cnt
theorem fold_inv {α β : Type} {Q : β → Prop} {f : β → α → β} : ∀ (js : List α) (b : β), Q b → (∀ j ∈ js, ∀ b, Q b → Q (f b j)) → Q (js.foldl f b)
  | [], _, h, _ => h
  | j :: js, b, h, hs => fold_inv js (f b j) (hs j List.mem_cons_self b h) fun j hj => hs j (List.mem_cons_of_mem _ hj)
theorem cnt_cons (i : Int) (x : List Int) (j : Nat) : (((i :: x).count (j : Int) : Nat) : Int) = x.count (j : Int) + if (j : Int) = i then 1 else 0 := by
  rw [List.count_cons]
  by_cases e : (j : Int) = i
  · rw [if_pos e, if_pos (by simp [e])]; omega
  · rw [if_neg e, if_neg (by simp; omega)]; omega
theorem vis_ok {l : List Pc} {lim : Int} (h0 : 0 ≤ lim) : ∀ (x : List Int) (L B : List Br), (∀ i ∈ x, 0 ≤ i ∧ i < l.length ∧ (ix l i.toNat).len ≤ lim) → VisOk [⟨lim, -1⟩] l x L → (B = [] ∨ VisOk [⟨lim, -1⟩] l [] B) → VisOk [⟨lim, -1⟩] l [] (vis l lim x L B)
  | [], L, B, _, hL, hB => by
    simp only [vis]
    by_cases h : B ≠ [] ∧ B.length ≤ L.length
    · rw [if_pos h]
      exact hB.resolve_left h.1
    · rw [if_neg h]
      exact hL
  | i :: x, L, B, hx, hL, hB => by
    have hxs : ∀ i ∈ x, 0 ≤ i ∧ i < l.length ∧ (ix l i.toNat).len ≤ lim := fun j hj => hx j (List.mem_cons_of_mem _ hj)
    obtain ⟨i1, i2, i3⟩ := hx i List.mem_cons_self
    simp only [vis]
    by_cases h : B ≠ [] ∧ B.length ≤ L.length
    · rw [if_pos h]
      exact hB.resolve_left h.1
    · rw [if_neg h]
      refine vis_ok h0 x _ _ hxs ⟨fun b hb => ?_, fun j hj => ?_⟩ (fold_inv (Q := fun B => B = [] ∨ VisOk [⟨lim, -1⟩] l [] B) _ _ hB fun j hj B hB => ?_)
      · rcases List.mem_append.1 hb with hb | hb
        · exact hL.bar b hb
        · simp only [List.mem_singleton] at hb
          subst hb
          exact ⟨barOk_cut (barOk_new (s := [⟨lim, -1⟩]) (l := l) (k := 0) (Int.le_refl _) (by simp) h0) ⟨i1, i2⟩ i3, rfl⟩
      · have h1 := hL.sum j hj
        have h2 := cnt_cons i x j
        unfold newB
        rw [sum_new ⟨i1, i2⟩ j]
        omega
      · have hj := List.mem_range.1 hj
        cases hs : skipL (ix l i.toNat).len L j with
        | true => simpa using hB
        | false =>
          simp only [Bool.false_eq_true, if_false]
          have hbj := hL.bar _ (ix_mem hj)
          refine .inr (vis_ok h0 x _ B hxs ⟨fun b hb => ?_, fun q hq => ?_⟩ hB)
          · rcases List.mem_or_eq_of_mem_set hb with hb | rfl
            · exact hL.bar b hb
            · exact ⟨barOk_cut hbj.1 ⟨i1, i2⟩ (skip_fits hs), hbj.2⟩
          · have h1 := hL.sum q hq
            have h2 := cnt_cons i x q
            rw [sum_cut hj ⟨i1, i2⟩ hbj.1.ps q]
            omega
theorem visOk_bars {l : List Pc} {lim : Int} {o : List Br} (h : VisOk [⟨lim, -1⟩] l [] o) (hl : o.length ≤ 1000) : Bars [⟨lim, -1⟩] l o := by
  refine ⟨hl, fun b hb => ?_, fun i hi => ?_, fun j hj => ?_⟩
  · obtain ⟨hb, _⟩ := h.bar b hb
    have := hb.left
    have := hb.l0
    exact ⟨hb.k0, hb.k1, hb.ps, hb.nn, by omega⟩
  · have := h.sum i hi
    simpa using this
  · left
    obtain rfl : j = 0 := by simpa using hj
    show (-1 : Int) < 0
    decide
end Go.Proofs.YtolioflblegneaaGreat
namespace Go.Proofs.YtolioflblegneaaGreat
open Go.RowKit
/-- A family, and where the bars' numbers lie in it. -/
structure VS where
  M : Nat
  G : Nat → List Int
  cp : Nat → Nat
  pi : Nat → Nat
def oFs (s : VS) : Ob := ⟨3, false, .row 1 s.M (fun p => (s.G p).length) s.cp (fun p q => [.v (.int .i64 (ix (s.G p) q))])⟩
def oBs (F n : Nat) (L : List Br) (oc : Nat) (s : VS) : Ob := ⟨91, false, .row 3 1 (fun _ => n) (fun _ => oc) (fun _ k => [.v (.int .i64 (ix L k).kind), .v (.int .i64 (ix L k).left), .s F (s.pi k) 0 (ix L k).ps.length (s.cp (s.pi k)) 1])⟩
attribute [push_cast] oFs oBs
structure VOk (L : List Br) (s : VS) : Prop where
  lt : ∀ k, k < L.length → s.pi k < s.M
  val : ∀ k, k < L.length → s.G (s.pi k) = (ix L k).ps
  inj : ∀ a b, a < L.length → b < L.length → s.pi a = s.pi b → a = b
theorem vok_nil (s : VS) : VOk [] s := ⟨fun k hk => by simp at hk, fun k hk => by simp at hk, fun a b ha => by simp at ha⟩
/-- One more, as a further member. -/
def addV (s : VS) (n : Nat) (x : List Int) (c : Nat) : VS := ⟨s.M + 1, fun p => bif p == s.M then x else s.G p, fun p => bif p == s.M then c else s.cp p, fun q => bif decide (q < n) then s.pi q else s.M⟩
theorem add_ok {L : List Br} {s : VS} {b : Br} {c : Nat} (h : VOk L s) : VOk (L ++ [b]) (addV s L.length b.ps c) := by
  have hne : ∀ k, k < L.length → (s.pi k == s.M) = false := fun k hk => by have := h.lt k hk; simp; omega
  have hp1 : ∀ k, k < L.length → (addV s L.length b.ps c).pi k = s.pi k := fun k hk => by simp [addV, hk]
  have hp2 : (addV s L.length b.ps c).pi L.length = s.M := by simp [addV]
  have hl : ∀ k, k < (L ++ [b]).length → k < L.length ∨ k = L.length := fun k hk => by simp at hk; omega
  refine ⟨fun k hk => ?_, fun k hk => ?_, fun p q hp hq e => ?_⟩
  · rcases hl k hk with hk | rfl
    · rw [hp1 k hk]; have := h.lt k hk; simp only [addV]; omega
    · rw [hp2]; simp only [addV]; omega
  · rcases hl k hk with hk | rfl
    · rw [hp1 k hk, ix_app_ne (by omega)]
      simp only [addV, hne k hk, cond_false]
      exact h.val k hk
    · rw [hp2, ix_app_last]
      simp [addV]
  · rcases hl p hp with hp | rfl <;> rcases hl q hq with hq | rfl
    · rw [hp1 p hp, hp1 q hq] at e; exact h.inj p q hp hq e
    · rw [hp1 p hp, hp2] at e; have := h.lt p hp; omega
    · rw [hp2, hp1 q hq] at e; have := h.lt q hq; omega
    · rfl
/-- What stays of a family while ways are tried. -/
structure Keep (s t : VS) : Prop where
  le : s.M ≤ t.M
  pi : t.pi = s.pi
  cp : ∀ p, p < s.M → t.cp p = s.cp p
theorem Keep.refl (s : VS) : Keep s s := ⟨Nat.le_refl _, rfl, fun _ _ => rfl⟩
theorem Keep.trans {s t u : VS} (h : Keep s t) (h' : Keep t u) : Keep s u := ⟨Nat.le_trans h.le h'.le, h'.pi.trans h.pi, fun p hp => (h'.cp p (Nat.lt_of_lt_of_le hp h.le)).trans (h.cp p hp)⟩
/-- What has been found so far: nothing, or a list. -/
def bV (j : Nat) (B : List Br) (bc : Nat) : SV := if B = [] then .v (.slice none 0 0) else .s j 0 0 B.length bc 3
theorem bV_nil {j bc : Nat} : bV j [] bc = .v (.slice none 0 0) := rfl
theorem bV_some {j bc : Nat} {B : List Br} (h : B ≠ []) : bV j B bc = .s j 0 0 B.length bc 3 := if_neg h
@[push_cast] theorem rn1_bV {rl : List Nat} {n j bc : Nat} {B : List Br} : rn1 rl n (bV j B bc) = bV (rnI rl n j) B bc := by
  unfold bV; split <;> rfl
@[push_cast] theorem jn1_bV {F N c j bc : Nat} {B : List Br} (h : (j == c) = false) : jn1 F N c (bV j B bc) = bV j B bc := by
  unfold bV
  split
  · rfl
  · simp only [jn1, h, cond_false]
@[push_cast] theorem mt_bV {rl : List Nat} {j i bc : Nat} {B : List Br} (h : nth rl j = some i) : mt rl (bV j B bc) (bV i B bc) = True := by
  unfold bV
  split <;> simp [mt, h]
/-- The search's own object. -/
def oSr (lim : Int) (n c m xc : Nat) (b : SV) : Ob := ⟨105, false, .st [.v (.int .i64 lim), .s 0 0 0 n c 2, .s 1 0 0 m xc 1, b]⟩
attribute [push_cast] oSr
/-- A length in use, with room for n more pieces. -/
structure SmB (l : List Pc) (n : Nat) (b : Br) : Prop where
  ps : b.ps.length = l.length
  l0 : 0 ≤ b.left
  l1 : b.left ≤ 1048576
  nn : ∀ i, i < l.length → 0 ≤ ix b.ps i ∧ ix b.ps i + n ≤ 20
/-- What a search comes to: the pieces of `rest` are left. -/
def VisC (l : List Pc) (lim : Int) (c xc : Nat) (x0 rest : List Int) : Prop :=
    ∀ (k : Nat) (L B : List Br) (oc bc : Nat) (s t : VS), k + rest.length = x0.length → x0.drop k = rest → 0 < L.length + rest.length → L.length + rest.length ≤ 10 → (∀ b ∈ L, SmB l rest.length b) → VOk L s → VOk B t → B.length ≤ bc → B.length ≤ 10 →
    Sp Tryz.prog 55 [.p 2 0 0, .v (.int .i64 k), .s 5 0 0 L.length oc 3]
      [rPc l, rOwn 3 x0.length xc (fun k => ix x0 k), oSr lim l.length c x0.length xc (bV 3 B bc), oBs 4 B.length B bc t, oFs t, oBs 6 L.length L oc s, oFs s]
      (fun r H => ∃ (s' t' : VS) (bc' : Nat), VOk L s' ∧ Keep s s' ∧ VOk (vis l lim rest L B) t' ∧ (vis l lim rest L B).length ≤ bc' ∧ (vis l lim rest L B).length ≤ 10 ∧ r = .t [] ∧
        H = [rPc l, rOwn 3 x0.length xc (fun k => ix x0 k), oSr lim l.length c x0.length xc (bV 7 (vis l lim rest L B) bc'), deadOb, oFs t', oBs 6 L.length L oc s', oFs s', oBs 4 (vis l lim rest L B).length (vis l lim rest L B) bc' t'])
theorem cloneV_sp (s : VS) (i c : Nat) (x : List Int) (hi : i < s.M) (hx : s.G i = x) (h0 : 0 < x.length) (hn : x.length ≤ 100000) : Sp Tryz.prog 84 [.s 0 i 0 x.length c 1] [oFs s] (fun r H => ∃ cap, x.length ≤ cap ∧ r = .s 1 0 0 x.length cap 1 ∧ H = [oFs s, rIO x cap]) := by
  subst hx
  refine sp_know (p := (s.G i).length ≤ c) Tryz.call84 (fun β w vals _ h => okL_cap h) fun hc => ?_
  refine sp_weak ?_
  refine sp_of_ex true [] mixed Tryz.call84 Tryz.func84 rfl Tryz.ntmps84 Tryz.results84 (by decide +kernel) rfl ?_
  refine sxo ?_
  try with_reducible exact trivial
  intro b hb
  rw [hb (by omega)]
  refine sxo ?_
  try with_reducible exact trivial
  repeat (with_reducible refine And.intro (by omega) ?_)
  refine ⟨?_, appZ_of (fun h => by omega) fun _ => .inl ⟨by omega, by omega, fun cap hcap => ?_⟩⟩
  · unfold srcOk
    split <;> simp [lenP, lenIs, ones, one1]
  · refine ⟨_, _, [0, 2], ?_, by kernel_rfl, ?_, cap, hcap, rfl, rfl⟩
    · refine sxo ?_
      try with_reducible exact trivial
    · refine sxo ?_
      try with_reducible exact trivial
set_option maxHeartbeats 4000000 in
theorem vis_nil (l : List Pc) (lim : Int) (c xc : Nat) (x0 : List Int) (hvo : orderB l = true) (h0l : 0 < l.length) (hx0 : x0.length ≤ 10) : VisC l lim c xc x0 [] := by
  intro k L B oc bc s t hk hd h0 hLn hL hs ht hbc hB10
  have hL0 : L ≠ [] := List.length_pos_iff.1 (by simpa using h0)
  have hll := order_len hvo
  obtain rfl : k = x0.length := by simpa using hk
  by_cases hret : B ≠ [] ∧ B.length ≤ L.length
  · have hvis : vis l lim [] L B = B := by simp only [vis]; rw [if_pos hret]
    rw [hvis]
    have hB0 : 0 < B.length := List.length_pos_iff.2 hret.1
    rw [bV_some hret.1]
    refine sp_wk ?_
    refine sp_of_exa true true [(6, .pre [8] [0, 1, 2, 3, 5, 6, 7, 8, 9, 10] (.alt [(4, .one 11 (.one 12 (.one 13 (.one 14 (.one 15 (.one 16 (.one 17 .fin))))))), (11, .one 12 (.alt [(4, .one 13 (.one 14 (.one 15 (.one 16 (.one 17 .fin))))), (13, .one 4 (.one 14 (.one 15 (.one 16 (.one 17 .fin)))))]))])), (22, .jn (.one 0 (.one 1 (.one 2 (.one 4 (.one 6 (.one 7 (.one 8 (.alt [(3, .one 5 (.alt [(9, .one 10 (.alt [(11, .one 12 (.one 13 (.one 14 .fin))), (13, .one 11 (.one 12 (.one 14 .fin)))])), (13, .one 9 (.one 10 (.one 11 (.one 12 (.one 14 .fin)))))])), (9, .one 10 (.alt [(3, .one 5 (.alt [(11, .one 12 (.one 13 (.one 14 .fin))), (13, .one 11 (.one 12 (.one 14 .fin)))])), (11, .alt [(3, .one 5 (.one 12 (.one 13 (.one 14 .fin)))), (13, .one 3 (.one 5 (.one 12 (.one 14 .fin))))]), (13, .alt [(3, .one 5 (.one 11 (.one 12 (.one 14 .fin)))), (11, .one 3 (.one 5 (.one 12 (.one 14 .fin))))])])), (13, .alt [(3, .one 5 (.one 9 (.one 10 (.one 11 (.one 12 (.one 14 .fin)))))), (9, .one 10 (.alt [(3, .one 5 (.one 11 (.one 12 (.one 14 .fin)))), (11, .one 3 (.one 5 (.one 12 (.one 14 .fin))))]))])]))))))))), (24, .pre [9] [0, 1, 2, 3, 5] (.alt [(4, .one 6 (.one 7 (.one 8 .fin))), (6, .one 4 (.one 7 (.one 8 .fin)))]))] mixed Tryz.call55 Tryz.func55 rfl Tryz.ntmps55 Tryz.results55 (by decide +kernel) rfl ?_
    refine sxo ?_
    try with_reducible exact trivial
    intro b hb
    rw [hb (by omega)]
    refine sxo ?_
    try with_reducible exact trivial
    refine ⟨fun _ => ?_, fun h => absurd hret.2 (by omega)⟩
    refine ⟨_, _, vwk_mt [0, 1, 2, 3, 4, 5, 6, 3] (H' := [rPc l, rOwn 3 x0.length xc (fun k => ix x0 k), oSr lim l.length c x0.length xc (bV 7 B bc), deadOb, oFs t, oBs 6 L.length L oc s, oFs s, oBs 4 B.length B bc t]) (r' := .t []) ?_ (by kernel_rfl) ?_, s, t, bc, hs, .refl s, ht, hbc, hB10, rfl, rfl⟩
    · refine sxo ?_
      try with_reducible exact trivial
    · rw [bV_some hret.1]
      refine sxo ?_
      try with_reducible exact trivial
  · have hvis : vis l lim [] L B = L := by simp only [vis]; rw [if_neg hret]
    rw [hvis]
    have hc : B = [] ∨ (B ≠ [] ∧ L.length < B.length) := by
      by_cases e : B = []
      · exact .inl e
      · exact .inr ⟨e, by
          rcases Nat.lt_or_ge L.length B.length with h | h
          · exact h
          · exact absurd ⟨e, h⟩ hret⟩
    have hB0 : B ≠ [] → 0 < B.length := List.length_pos_iff.2
    rcases hc with hB | ⟨hB, hlt⟩
    case' inl =>
      rw [hB, bV_nil]
      refine sp_wk ?_
      refine sp_of_exa true true [(6, .pre [8] [0, 1, 2, 3, 5, 6, 7, 8, 9, 10] (.alt [(4, .one 11 (.one 12 (.one 13 (.one 14 (.one 15 (.one 16 (.one 17 .fin))))))), (11, .one 12 (.alt [(4, .one 13 (.one 14 (.one 15 (.one 16 (.one 17 .fin))))), (13, .one 4 (.one 14 (.one 15 (.one 16 (.one 17 .fin)))))]))])), (22, .jn (.one 0 (.one 1 (.one 2 (.one 4 (.one 6 (.one 7 (.one 8 (.alt [(3, .one 5 (.alt [(9, .one 10 (.alt [(11, .one 12 (.one 13 (.one 14 .fin))), (13, .one 11 (.one 12 (.one 14 .fin)))])), (13, .one 9 (.one 10 (.one 11 (.one 12 (.one 14 .fin)))))])), (9, .one 10 (.alt [(3, .one 5 (.alt [(11, .one 12 (.one 13 (.one 14 .fin))), (13, .one 11 (.one 12 (.one 14 .fin)))])), (11, .alt [(3, .one 5 (.one 12 (.one 13 (.one 14 .fin)))), (13, .one 3 (.one 5 (.one 12 (.one 14 .fin))))]), (13, .alt [(3, .one 5 (.one 11 (.one 12 (.one 14 .fin)))), (11, .one 3 (.one 5 (.one 12 (.one 14 .fin))))])])), (13, .alt [(3, .one 5 (.one 9 (.one 10 (.one 11 (.one 12 (.one 14 .fin)))))), (9, .one 10 (.alt [(3, .one 5 (.one 11 (.one 12 (.one 14 .fin)))), (11, .one 3 (.one 5 (.one 12 (.one 14 .fin))))]))])]))))))))), (24, .pre [9] [0, 1, 2, 3, 5] (.alt [(4, .one 6 (.one 7 (.one 8 .fin))), (6, .one 4 (.one 7 (.one 8 .fin)))]))] mixed Tryz.call55 Tryz.func55 rfl Tryz.ntmps55 Tryz.results55 (by decide +kernel) rfl ?_
      refine sxo ?_
      try with_reducible exact trivial
    case' inr =>
      have hB0 := hB0 hB
      rw [bV_some hB]
      refine sp_wk ?_
      refine sp_of_exa true true [(6, .pre [8] [0, 1, 2, 3, 5, 6, 7, 8, 9, 10] (.alt [(4, .one 11 (.one 12 (.one 13 (.one 14 (.one 15 (.one 16 (.one 17 .fin))))))), (11, .one 12 (.alt [(4, .one 13 (.one 14 (.one 15 (.one 16 (.one 17 .fin))))), (13, .one 4 (.one 14 (.one 15 (.one 16 (.one 17 .fin)))))]))])), (22, .jn (.one 0 (.one 1 (.one 2 (.one 4 (.one 6 (.one 7 (.one 8 (.alt [(3, .one 5 (.alt [(9, .one 10 (.alt [(11, .one 12 (.one 13 (.one 14 .fin))), (13, .one 11 (.one 12 (.one 14 .fin)))])), (13, .one 9 (.one 10 (.one 11 (.one 12 (.one 14 .fin)))))])), (9, .one 10 (.alt [(3, .one 5 (.alt [(11, .one 12 (.one 13 (.one 14 .fin))), (13, .one 11 (.one 12 (.one 14 .fin)))])), (11, .alt [(3, .one 5 (.one 12 (.one 13 (.one 14 .fin)))), (13, .one 3 (.one 5 (.one 12 (.one 14 .fin))))]), (13, .alt [(3, .one 5 (.one 11 (.one 12 (.one 14 .fin)))), (11, .one 3 (.one 5 (.one 12 (.one 14 .fin))))])])), (13, .alt [(3, .one 5 (.one 9 (.one 10 (.one 11 (.one 12 (.one 14 .fin)))))), (9, .one 10 (.alt [(3, .one 5 (.one 11 (.one 12 (.one 14 .fin)))), (11, .one 3 (.one 5 (.one 12 (.one 14 .fin))))]))])]))))))))), (24, .pre [9] [0, 1, 2, 3, 5] (.alt [(4, .one 6 (.one 7 (.one 8 .fin))), (6, .one 4 (.one 7 (.one 8 .fin)))]))] mixed Tryz.call55 Tryz.func55 rfl Tryz.ntmps55 Tryz.results55 (by decide +kernel) rfl ?_
      refine sxo ?_
      try with_reducible exact trivial
      intro b hb
      rw [hb (by omega)]
      refine sxo ?_
      try with_reducible exact trivial
      refine ⟨fun h => by omega, fun _ => ?_⟩
    all_goals
      refine tr_loop mixed (by kernel_rfl) (fun (x : Nat × Nat × VS) => [(40, .v (.int .i64 x.1)), (39, .v (.int .i64 L.length)), (38, .s 5 0 0 L.length oc 3), (0, .p 2 0 0)])
        (fun x => [rPc l, rOwn 3 x0.length xc (fun k => ix x0 k), oSr lim l.length c x0.length xc (.s 7 0 0 x.1 x.2.1 3), deadOb, oFs x.2.2, oBs 6 L.length L oc s, oFs s, oBs 4 x.1 L x.2.1 x.2.2])
        (fun x => x.1 ≤ L.length ∧ VOk (L.take x.1) x.2.2 ∧ x.1 ≤ x.2.1) (fun x => L.length - x.1) (0, 0, t) ⟨Nat.zero_le _, vok_nil _, Nat.le_refl _⟩ (Mt.wk (rl := [0, 1, 2, 3, 4, 5, 6, 7]) ⟨by kernel_rfl, ?_, ?_⟩) ?_
      · refine sxo ?_
        try with_reducible exact trivial
      · refine sxo ?_
        try with_reducible exact trivial
      rintro ⟨j, bc1, t1⟩ ⟨h1, h2, h3⟩
      simp only at h1 h2 h3
      refine sxo ?_
      try with_reducible exact trivial
      refine ⟨fun h4 => ?_, fun h4 => ?_⟩
      · have hj : j < L.length := by omega
        have hyj := hL _ (ix_mem hj)
        have hyl := hyj.ps
        have hpj := hs.lt j hj
        repeat (with_reducible refine And.intro (by omega) ?_)
        have hcl := cloneV_sp s (s.pi j) (s.cp (s.pi j)) (ix L j).ps hpj (hs.val j hj) (by omega) (by omega)
        repeat' (with_reducible apply And.intro)
        all_goals
          try refine Or.inl ?_
          refine sp_at hcl [6] (by kernel_rfl) ?_ ?_ ?_
          · refine sxo ?_
            try with_reducible exact trivial
          · refine sxo ?_
            try with_reducible exact trivial
          rintro _ _ ⟨c1, hc1, rfl, rfl⟩
          refine sxo ?_
          try with_reducible exact trivial
          first
            | refine Or.inl ?_
            | (refine ⟨?_, ?_⟩ <;> refine Or.inl ?_)
          all_goals
            repeat (with_reducible refine And.intro (by omega) ?_)
            refine Or.inr (Or.inl ?_)
            repeat (with_reducible refine And.intro (by omega) ?_)
            intro c2 hc2
            repeat (with_reducible refine And.intro (by omega) ?_)
            have hlt : (L.take j).length = j := by rw [List.length_take]; omega
            have hB1 := add_ok (b := ix L j) (c := c1) h2
            rw [hlt, ← take_snoc hj] at hB1
            refine lpK_wk (j + 1, c2, addV t1 j (ix L j).ps c1) ⟨by simp only; omega, hB1, by simp only; omega⟩ (by simp only; omega) ((swk_join 4 9 (by omega) (by omega) ?_).trans (Mt.wk (rl := [0, 1, 2, 3, 4, 5, 6, 11]) ⟨by kernel_rfl, ?_, ?_⟩))
            · refine sxo ?_
              try with_reducible exact trivial
            · refine sxo ?_
              try with_reducible exact trivial
            · refine sxo ?_
              try with_reducible exact trivial
              refine ⟨⟨rfl, fun a _ => ?_⟩, fun i1 _ k hk => ?_⟩
              · simp only [addV]
                cases a == t1.M with
                | true => exact ⟨Nat.le_refl _, trivial, fun k _ => by (simp only [push_cast, ↓branch_true, ↓branch_false, Nat.reduceBEq, Nat.reduceAdd, Nat.reduceMul, Nat.reduceSub, Int.reduceToNat, reduceCtorEq, branch_decide, branch_not, branch_beq, branch_bne])⟩
                | false => exact ⟨Nat.le_refl _, trivial, fun k _ => by (simp only [push_cast, ↓branch_true, ↓branch_false, Nat.reduceBEq, Nat.reduceAdd, Nat.reduceMul, Nat.reduceSub, Int.reduceToNat, reduceCtorEq, branch_decide, branch_not, branch_beq, branch_bne])⟩
              · by_cases e : k < j
                · have hp := h2.lt k (by omega)
                  have hb : (t1.pi k == t1.M) = false := by simp; omega
                  simp only [addV, e, decide_true, cond_true, hb, cond_false]
                  refine sxo ?_
                  try with_reducible exact trivial
                · obtain rfl : k = j := by omega
                  have hb : decide (k < k) = false := by simp
                  simp only [addV, hb, cond_false, beq_self_eq_true, cond_true]
                  refine sxo ?_
                  try with_reducible exact trivial
      · obtain rfl : j = L.length := by omega
        rw [List.take_length] at h2
        refine ⟨_, _, vwk_mt [0, 1, 2, 3, 4, 5, 6, 7] (H' := [rPc l, rOwn 3 x0.length xc (fun k => ix x0 k), oSr lim l.length c x0.length xc (bV 7 L bc1), deadOb, oFs t1, oBs 6 L.length L oc s, oFs s, oBs 4 L.length L bc1 t1]) (r' := .t []) ?_ (by kernel_rfl) ?_, s, t1, bc1, hs, .refl s, h2, h3, by omega, rfl, rfl⟩
        · refine sxo ?_
          try with_reducible exact trivial
        · rw [bV_some hL0]
          refine sxo ?_
          try with_reducible exact trivial
end Go.Proofs.YtolioflblegneaaGreat
namespace Go.Proofs.YtolioflblegneaaGreat
open Go.RowKit
/-- The state between the tries. -/
structure VX where
  j : Nat
  B : List Br
  bc : Nat
  s : VS
  t : VS
  S : List Int
def visF (l : List Pc) (lim i : Int) (rest : List Int) (L B : List Br) (j : Nat) : List Br := (List.range j).foldl (fun B j => if skipL (ix l i.toNat).len L j then B else vis l lim rest (L.set j (cutBr i (ix l i.toNat).len (ix L j))) B) B
theorem visF_succ {l : List Pc} {lim i : Int} {rest : List Int} {L B : List Br} {j : Nat} : visF l lim i rest L B (j + 1) = if skipL (ix l i.toNat).len L j then visF l lim i rest L B j else vis l lim rest (L.set j (cutBr i (ix l i.toNat).len (ix L j))) (visF l lim i rest L B j) := by
  unfold visF
  rw [List.range_succ, List.foldl_append]; rfl
/-- A bar's numbers are others. -/
def updV (s : VS) (p0 : Nat) (x : List Int) : VS := ⟨s.M, fun p => bif p == p0 then x else s.G p, s.cp, s.pi⟩
theorem upd_ok {L : List Br} {s : VS} {j : Nat} {b : Br} (h : VOk L s) (hj : j < L.length) : VOk (L.set j b) (updV s (s.pi j) b.ps) := by
  refine ⟨fun k hk => ?_, fun k hk => ?_, fun p q hp hq e => ?_⟩
  · exact h.lt k (by simpa using hk)
  · have hk : k < L.length := by simpa using hk
    by_cases e : k = j
    · subst e
      rw [ix_set_self hj]
      simp [updV]
    · have hb : (s.pi k == s.pi j) = false := by simp; exact fun e2 => e (h.inj k j hk hj e2)
      rw [ix_set_ne e]
      simp only [updV, hb, cond_false]
      exact h.val k hk
  · exact h.inj p q (by simpa using hp) (by simpa using hq) e
theorem upd_back {L : List Br} {s : VS} {j : Nat} {b : Br} (h : VOk (L.set j b) s) (hj : j < L.length) : VOk L (updV s (s.pi j) (ix L j).ps) := by
  have := upd_ok (b := ix L j) h (j := j) (by simpa using hj)
  rw [List.set_set] at this
  have e : L.set j (ix L j) = L := by rw [ix_eq hj]; exact List.set_getElem_self hj
  rwa [e] at this
theorem updV_keep (s : VS) (p : Nat) (x : List Int) : Keep s (updV s p x) := ⟨Nat.le_refl _, rfl, fun _ _ => rfl⟩
theorem addV_keep {s : VS} {n c : Nat} {x : List Int} {t : VS} (h : Keep (addV s n x c) t) : Keep s ⟨t.M, t.G, t.cp, s.pi⟩ := by
  have h1 := h.le
  simp only [addV] at h1
  refine ⟨by simp only; omega, rfl, fun p hp => ?_⟩
  have h2 := h.cp p (by simp only [addV]; omega)
  simp only
  rw [h2]
  have hb : (p == s.M) = false := by simp; omega
  simp only [addV, hb, cond_false]
theorem addV_back {L : List Br} {b : Br} {s t : VS} {c : Nat} {x : List Int} (h : VOk (L ++ [b]) t) (hk : Keep (addV s L.length x c) t) : VOk L ⟨t.M, t.G, t.cp, s.pi⟩ := by
  have hp : ∀ k, k < L.length → t.pi k = s.pi k := fun k hk2 => by rw [hk.pi]; simp [addV, hk2]
  refine ⟨fun k hk2 => ?_, fun k hk2 => ?_, fun p q h1 h2 e => ?_⟩
  · have := h.lt k (by simp; omega)
    rw [hp k hk2] at this
    exact this
  · have := h.val k (by simp; omega)
    rw [hp k hk2, ix_app_ne (by omega)] at this
    exact this
  · refine h.inj p q (by simp; omega) (by simp; omega) ?_
    rw [hp p h1, hp q h2]; exact e
structure VI (l : List Pc) (lim i : Int) (rest : List Int) (L B : List Br) (s0 : VS) (x : VX) : Prop where
  j : x.j ≤ L.length
  B : x.B = visF l lim i rest L B x.j
  ok : VOk L x.s
  keep : Keep s0 x.s
  best : VOk x.B x.t
  bc : x.B.length ≤ x.bc
  len : x.B.length ≤ 10
  S : ∀ v, v ∈ x.S ↔ (ix l i.toNat).len ≤ v ∧ ∃ q, q < x.j ∧ (ix L q).left = v
theorem skip_has {n : Int} {L : List Br} {j : Nat} {S : List Int} (h : ∀ v, v ∈ S ↔ n ≤ v ∧ ∃ q, q < j ∧ (ix L q).left = v) : skipL n L j = (hasI S (ix L j).left || decide ((ix L j).left < n)) := by
  unfold skipL
  by_cases hf : (ix L j).left < n
  · simp [hf]
  · rw [decide_eq_false hf, Bool.or_false, Bool.or_false, Bool.eq_iff_iff, hasI_iff, h]
    unfold seenL
    rw [List.any_eq_true]
    constructor
    · rintro ⟨q, hq, e⟩
      exact ⟨by omega, q, List.mem_range.1 hq, by simpa using e⟩
    · rintro ⟨_, q, hq, e⟩
      exact ⟨q, List.mem_range.2 hq, by simpa using e⟩
theorem vi_skip {l : List Pc} {lim i : Int} {rest : List Int} {L B : List Br} {s0 : VS} {x : VX} (h : VI l lim i rest L B s0 x) (hj : x.j < L.length) (hs : skipL (ix l i.toNat).len L x.j = true) : VI l lim i rest L B s0 ⟨x.j + 1, x.B, x.bc, x.s, x.t, x.S⟩ := by
  refine ⟨hj, ?_, h.ok, h.keep, h.best, h.bc, h.len, fun v => ?_⟩
  · show x.B = _
    rw [visF_succ, if_pos hs]
    exact h.B
  · show v ∈ x.S ↔ _
    constructor
    · intro hv
      obtain ⟨a, q, hq, e⟩ := (h.S v).1 hv
      exact ⟨a, q, Nat.lt_succ_of_lt hq, e⟩
    · rintro ⟨a, q, hq, e⟩
      rcases Nat.lt_succ_iff_lt_or_eq.1 hq with hq | hq
      · exact (h.S v).2 ⟨a, q, hq, e⟩
      · rw [skip_has h.S] at hs
        rw [hq] at e
        rw [e] at hs
        have hb : decide (v < (ix l i.toNat).len) = false := by simp; omega
        rw [hb, Bool.or_false] at hs
        exact hasI_iff.1 hs
theorem vi_try {l : List Pc} {lim i : Int} {rest : List Int} {L B : List Br} {s0 : VS} {x : VX} {B' : List Br} {bc' : Nat} {s' t' : VS} (h : VI l lim i rest L B s0 x) (hj : x.j < L.length) (hs : skipL (ix l i.toNat).len L x.j = false) (h1 : VOk L s') (h2 : Keep s0 s')
    (h3 : B' = vis l lim rest (L.set x.j (cutBr i (ix l i.toNat).len (ix L x.j))) x.B) (h4 : VOk B' t') (h5 : B'.length ≤ bc') (h6 : B'.length ≤ 10) : VI l lim i rest L B s0 ⟨x.j + 1, B', bc', s', t', x.S ++ [(ix L x.j).left]⟩ := by
  refine ⟨hj, ?_, h1, h2, h4, h5, h6, fun v => ?_⟩
  · show B' = _
    rw [visF_succ, if_neg (by rw [hs]; simp), ← h.B]
    exact h3
  · show v ∈ x.S ++ [(ix L x.j).left] ↔ _
    rw [List.mem_append, List.mem_singleton, h.S v]
    constructor
    · rintro (⟨a, q, hq, e⟩ | rfl)
      · exact ⟨a, q, Nat.lt_succ_of_lt hq, e⟩
      · exact ⟨skip_fits hs, x.j, Nat.lt_succ_self _, rfl⟩
    · rintro ⟨a, q, hq, e⟩
      rcases Nat.lt_succ_iff_lt_or_eq.1 hq with hq | hq
      · exact .inl ⟨a, q, hq, e⟩
      · rw [hq] at e
        exact .inr e.symm
theorem smB_cut {l : List Pc} {n : Nat} {b : Br} {i : Int} (h : SmB l (n + 1) b) (hi : 0 ≤ i ∧ i < l.length) (h0 : 1 ≤ (ix l i.toNat).len) (hf : (ix l i.toNat).len ≤ b.left) : SmB l n (cutBr i (ix l i.toNat).len b) := by
  have hps := h.ps
  have h1 := h.l1
  refine ⟨by simp only [cutBr, List.length_set]; exact hps, by simp only [cutBr]; omega, by simp only [cutBr]; omega, fun j hj => ?_⟩
  have h2 := h.nn j hj
  simp only [cutBr]
  by_cases e : j = i.toNat
  · subst e; rw [ix_set_self (by omega)]; omega
  · rw [ix_set_ne e]; omega
theorem smB_less {l : List Pc} {n : Nat} {b : Br} (h : SmB l (n + 1) b) : SmB l n b := ⟨h.ps, h.l0, h.l1, fun i hi => by have := h.nn i hi; omega⟩
theorem smB_new {l : List Pc} {n : Nat} {i lim : Int} (hn : n ≤ 10) (hi : 0 ≤ i ∧ i < l.length) (h0 : 1 ≤ (ix l i.toNat).len) (hf : (ix l i.toNat).len ≤ lim) (hl : lim ≤ 1048576) : SmB l n (newB l lim i) :=
  smB_cut ⟨zeros_len _, by simp only; omega, hl, fun j _ => by simp only [zeros_ix]; omega⟩ hi h0 hf
def oFg (M : Nat) (fl cp : Nat → Nat) (ff : Nat → Nat → Int) : Ob := ⟨3, false, .row 1 M fl cp (fun p q => [.v (.int .i64 (ff p q))])⟩
attribute [push_cast] oFg
theorem clipB_sp (n oc : Nat) (L : List Br) (s : VS) (M : Nat) (fl cp : Nat → Nat) (ff : Nat → Nat → Int) : Sp Tryz.prog 96 [.s 0 0 0 n oc 3] [oBs 1 n L oc s, oFg M fl cp ff] (fun r H => r = .s 0 0 0 n n 3 ∧ H = [oBs 1 n L oc s, oFg M fl cp ff]) := by
  refine sp_know (p := n ≤ oc) Tryz.call96 (fun β w vals _ ha => okL_cap ha) fun hd => ?_
  refine sp_weak ?_
  refine sp_of_ex true [] mixed Tryz.call96 Tryz.func96 rfl Tryz.ntmps96 Tryz.results96 (by decide +kernel) rfl ?_
  refine sxo ?_
  try with_reducible exact trivial
  repeat (with_reducible refine And.intro (by omega) ?_)
  simp only [Nat.sub_zero]
  refine ⟨_, _, [0, 1], ?_, by kernel_rfl, ?_, rfl, rfl⟩
  · refine sxo ?_
    try with_reducible exact trivial
  · refine sxo ?_
    try with_reducible exact trivial
set_option maxHeartbeats 4000000 in
theorem vis_cons (l : List Pc) (lim : Int) (c xc : Nat) (x0 : List Int) (hvo : orderB l = true) (h1l : 1 ≤ lim) (h2l : lim ≤ 1048576) (hx : ∀ i ∈ x0, 0 ≤ i ∧ i < l.length ∧ (ix l i.toNat).len ≤ lim) (hx0 : x0.length ≤ 10) {i : Int} {rest : List Int} (ih : VisC l lim c xc x0 rest) : VisC l lim c xc x0 (i :: rest) := by
  intro k L B oc bc s t hk hd h0 hLn hL hs ht hbc hB10
  have hll := order_len hvo
  simp only [List.length_cons] at hk hLn hL
  have hkl : k < x0.length := by omega
  obtain ⟨hik, hd1⟩ : ix x0 k = i ∧ x0.drop (k + 1) = rest := by
    rw [drop_ix hkl, List.cons.injEq] at hd
    exact hd
  have him : i ∈ x0 := hik ▸ ix_mem hkl
  obtain ⟨hi0, hil, him⟩ := hx i him
  have hmi := order_at hvo (k := i.toNat) (by omega)
  by_cases hret : B ≠ [] ∧ B.length ≤ L.length
  · have hvis : vis l lim (i :: rest) L B = B := by simp only [vis]; rw [if_pos hret]
    rw [hvis]
    have hB0 : 0 < B.length := List.length_pos_iff.2 hret.1
    rw [bV_some hret.1]
    refine sp_wk ?_
    refine sp_of_exa true true [(6, .pre [8] [0, 1, 2, 3, 5, 6, 7, 8, 9, 10] (.alt [(4, .one 11 (.one 12 (.one 13 (.one 14 (.one 15 (.one 16 (.one 17 .fin))))))), (11, .one 12 (.alt [(4, .one 13 (.one 14 (.one 15 (.one 16 (.one 17 .fin))))), (13, .one 4 (.one 14 (.one 15 (.one 16 (.one 17 .fin)))))]))])), (22, .jn (.one 0 (.one 1 (.one 2 (.one 4 (.one 6 (.one 7 (.one 8 (.alt [(3, .one 5 (.alt [(9, .one 10 (.alt [(11, .one 12 (.one 13 (.one 14 .fin))), (13, .one 11 (.one 12 (.one 14 .fin)))])), (13, .one 9 (.one 10 (.one 11 (.one 12 (.one 14 .fin)))))])), (9, .one 10 (.alt [(3, .one 5 (.alt [(11, .one 12 (.one 13 (.one 14 .fin))), (13, .one 11 (.one 12 (.one 14 .fin)))])), (11, .alt [(3, .one 5 (.one 12 (.one 13 (.one 14 .fin)))), (13, .one 3 (.one 5 (.one 12 (.one 14 .fin))))]), (13, .alt [(3, .one 5 (.one 11 (.one 12 (.one 14 .fin)))), (11, .one 3 (.one 5 (.one 12 (.one 14 .fin))))])])), (13, .alt [(3, .one 5 (.one 9 (.one 10 (.one 11 (.one 12 (.one 14 .fin)))))), (9, .one 10 (.alt [(3, .one 5 (.one 11 (.one 12 (.one 14 .fin)))), (11, .one 3 (.one 5 (.one 12 (.one 14 .fin))))]))])]))))))))), (24, .pre [9] [0, 1, 2, 3, 5] (.alt [(4, .one 6 (.one 7 (.one 8 .fin))), (6, .one 4 (.one 7 (.one 8 .fin)))]))] mixed Tryz.call55 Tryz.func55 rfl Tryz.ntmps55 Tryz.results55 (by decide +kernel) rfl ?_
    refine sxo ?_
    try with_reducible exact trivial
    intro b hb
    rw [hb (by omega)]
    refine sxo ?_
    try with_reducible exact trivial
    refine ⟨fun _ => ?_, fun h => absurd hret.2 (by omega)⟩
    refine ⟨_, _, vwk_mt [0, 1, 2, 3, 4, 5, 6, 3] (H' := [rPc l, rOwn 3 x0.length xc (fun k => ix x0 k), oSr lim l.length c x0.length xc (bV 7 B bc), deadOb, oFs t, oBs 6 L.length L oc s, oFs s, oBs 4 B.length B bc t]) (r' := .t []) ?_ (by kernel_rfl) ?_, s, t, bc, hs, .refl s, ht, hbc, hB10, rfl, rfl⟩
    · refine sxo ?_
      try with_reducible exact trivial
    · rw [bV_some hret.1]
      refine sxo ?_
      try with_reducible exact trivial
  · have hvis : vis l lim (i :: rest) L B = vis l lim rest (L ++ [newB l lim i]) (visF l lim i rest L B L.length) := by simp only [vis, visF]; rw [if_neg hret]
    rw [hvis]
    have hc : B = [] ∨ (B ≠ [] ∧ L.length < B.length) := by
      by_cases e : B = []
      · exact .inl e
      · exact .inr ⟨e, by
          rcases Nat.lt_or_ge L.length B.length with h | h
          · exact h
          · exact absurd ⟨e, h⟩ hret⟩
    have hB0 : B ≠ [] → 0 < B.length := List.length_pos_iff.2
    rcases hc with hB | ⟨hB, hlt⟩
    case' inl =>
      rw [show bV 3 B bc = .v (.slice none 0 0) by rw [hB]; rfl]
      refine sp_wk ?_
      refine sp_of_exa true true [(6, .pre [8] [0, 1, 2, 3, 5, 6, 7, 8, 9, 10] (.alt [(4, .one 11 (.one 12 (.one 13 (.one 14 (.one 15 (.one 16 (.one 17 .fin))))))), (11, .one 12 (.alt [(4, .one 13 (.one 14 (.one 15 (.one 16 (.one 17 .fin))))), (13, .one 4 (.one 14 (.one 15 (.one 16 (.one 17 .fin)))))]))])), (22, .jn (.one 0 (.one 1 (.one 2 (.one 4 (.one 6 (.one 7 (.one 8 (.alt [(3, .one 5 (.alt [(9, .one 10 (.alt [(11, .one 12 (.one 13 (.one 14 .fin))), (13, .one 11 (.one 12 (.one 14 .fin)))])), (13, .one 9 (.one 10 (.one 11 (.one 12 (.one 14 .fin)))))])), (9, .one 10 (.alt [(3, .one 5 (.alt [(11, .one 12 (.one 13 (.one 14 .fin))), (13, .one 11 (.one 12 (.one 14 .fin)))])), (11, .alt [(3, .one 5 (.one 12 (.one 13 (.one 14 .fin)))), (13, .one 3 (.one 5 (.one 12 (.one 14 .fin))))]), (13, .alt [(3, .one 5 (.one 11 (.one 12 (.one 14 .fin)))), (11, .one 3 (.one 5 (.one 12 (.one 14 .fin))))])])), (13, .alt [(3, .one 5 (.one 9 (.one 10 (.one 11 (.one 12 (.one 14 .fin)))))), (9, .one 10 (.alt [(3, .one 5 (.one 11 (.one 12 (.one 14 .fin)))), (11, .one 3 (.one 5 (.one 12 (.one 14 .fin))))]))])]))))))))), (24, .pre [9] [0, 1, 2, 3, 5] (.alt [(4, .one 6 (.one 7 (.one 8 .fin))), (6, .one 4 (.one 7 (.one 8 .fin)))]))] mixed Tryz.call55 Tryz.func55 rfl Tryz.ntmps55 Tryz.results55 (by decide +kernel) rfl ?_
      refine sxo ?_
      try with_reducible exact trivial
      refine ⟨fun h => absurd h (by omega), fun _ => ?_⟩
    case' inr =>
      have hB0 := hB0 hB
      rw [bV_some hB]
      refine sp_wk ?_
      refine sp_of_exa true true [(6, .pre [8] [0, 1, 2, 3, 5, 6, 7, 8, 9, 10] (.alt [(4, .one 11 (.one 12 (.one 13 (.one 14 (.one 15 (.one 16 (.one 17 .fin))))))), (11, .one 12 (.alt [(4, .one 13 (.one 14 (.one 15 (.one 16 (.one 17 .fin))))), (13, .one 4 (.one 14 (.one 15 (.one 16 (.one 17 .fin)))))]))])), (22, .jn (.one 0 (.one 1 (.one 2 (.one 4 (.one 6 (.one 7 (.one 8 (.alt [(3, .one 5 (.alt [(9, .one 10 (.alt [(11, .one 12 (.one 13 (.one 14 .fin))), (13, .one 11 (.one 12 (.one 14 .fin)))])), (13, .one 9 (.one 10 (.one 11 (.one 12 (.one 14 .fin)))))])), (9, .one 10 (.alt [(3, .one 5 (.alt [(11, .one 12 (.one 13 (.one 14 .fin))), (13, .one 11 (.one 12 (.one 14 .fin)))])), (11, .alt [(3, .one 5 (.one 12 (.one 13 (.one 14 .fin)))), (13, .one 3 (.one 5 (.one 12 (.one 14 .fin))))]), (13, .alt [(3, .one 5 (.one 11 (.one 12 (.one 14 .fin)))), (11, .one 3 (.one 5 (.one 12 (.one 14 .fin))))])])), (13, .alt [(3, .one 5 (.one 9 (.one 10 (.one 11 (.one 12 (.one 14 .fin)))))), (9, .one 10 (.alt [(3, .one 5 (.one 11 (.one 12 (.one 14 .fin)))), (11, .one 3 (.one 5 (.one 12 (.one 14 .fin))))]))])]))))))))), (24, .pre [9] [0, 1, 2, 3, 5] (.alt [(4, .one 6 (.one 7 (.one 8 .fin))), (6, .one 4 (.one 7 (.one 8 .fin)))]))] mixed Tryz.call55 Tryz.func55 rfl Tryz.ntmps55 Tryz.results55 (by decide +kernel) rfl ?_
      refine sxo ?_
      try with_reducible exact trivial
      intro b hb
      rw [hb (by omega)]
      refine sxo ?_
      try with_reducible exact trivial
      refine ⟨fun h => by omega, fun _ => ?_⟩
      refine ⟨fun h => absurd h (by omega), fun _ => ?_⟩
    all_goals
      repeat (with_reducible refine And.intro (by omega) ?_)
      refine tr_loop mixed (by kernel_rfl) (fun (x : VX) => [(80, .v (.int .i64 x.j)), (79, .v (.int .i64 L.length)), (10, .m 7), (9, .v (.int .i64 (ix l i.toNat).len)), (8, .v (.int .i64 i)), (0, .p 2 0 0), (2, .s 5 0 0 L.length oc 3), (1, .v (.int .i64 k))])
        (fun x => [rPc l, rOwn 3 x0.length xc (fun k => ix x0 k), oSr lim l.length c x0.length xc (bV 8 x.B x.bc), deadOb, oFs x.t, oBs 6 L.length L oc x.s, oFs x.s, ⟨151, false, .mp (.int .i64) x.S.length (gI (hasI x.S))⟩, oBs 4 x.B.length x.B x.bc x.t])
        (VI l lim i rest L B s) (fun x => L.length - x.j) ⟨0, B, bc, s, t, []⟩ ⟨Nat.zero_le _, rfl, hs, .refl s, ht, hbc, hB10, fun v => by simp⟩ (Mt.wk (rl := [0, 1, 2, 3, 4, 5, 6, 7, 3]) ⟨by kernel_rfl, ?_, ?_⟩) ?_
      · simp only [push_cast, ↓branch_true, ↓branch_false, Nat.reduceBEq, Nat.reduceAdd, Nat.reduceMul, Nat.reduceSub, Int.reduceToNat, reduceCtorEq, branch_decide, branch_not, branch_beq, branch_bne, hik]
      · simp only [push_cast, ↓branch_true, ↓branch_false, Nat.reduceBEq, Nat.reduceAdd, Nat.reduceMul, Nat.reduceSub, Int.reduceToNat, reduceCtorEq, branch_decide, branch_not, branch_beq, branch_bne, hik]
        refine ⟨?_, gI_no (fun x => by simp [hasI]) _⟩
        unfold bV
        first
          | rw [if_pos hB]
            refine sxo ?_
            try with_reducible exact trivial
          | rw [if_neg hB]
            refine sxo ?_
            try with_reducible exact trivial
      rintro ⟨j, B1, bc1, s1, t1, S⟩ hI
      have hsk := skip_has hI.S
      obtain ⟨h1, h2, h3, h4, h5, h6, h7, h8⟩ := id hI
      simp only at h1 h2 h3 h4 h5 h6 h7 h8 hsk
      refine sxo ?_
      try with_reducible exact trivial
      refine ⟨fun hjl => ?_, fun hjl => ?_⟩
      · have hj : j < L.length := by omega
        have hyj := hL _ (ix_mem hj)
        have hpj := h3.lt j hj
        have hvj := h3.val j hj
        have hyn := hyj.nn i.toNat (by omega)
        have hy0 := hyj.l0
        have hy1 := hyj.l1
        have hyp := hyj.ps
        repeat (with_reducible refine And.intro (by omega) ?_)
        refine ⟨fun hlt => ?_, fun hlt => ?_⟩
        · rw [decide_eq_true hlt, Bool.or_true] at hsk
          repeat (with_reducible refine And.intro (by omega) ?_)
          refine lpK_normal ⟨j + 1, B1, bc1, s1, t1, S⟩ [0, 1, 2, 3, 4, 5, 6, 7, 8] (vi_skip hI hj hsk) (by simp only; omega) (by kernel_rfl) ?_ ?_
          · refine sxo ?_
            try with_reducible exact trivial
          · refine sxo ?_
            try with_reducible exact trivial
        cases hh : hasI S (ix L j).left with
        | true =>
          rw [hh, Bool.true_or] at hsk
          refine sxo ?_
          try with_reducible exact trivial
          repeat (with_reducible refine And.intro (by omega) ?_)
          refine lpK_normal ⟨j + 1, B1, bc1, s1, t1, S⟩ [0, 1, 2, 3, 4, 5, 6, 7, 8] (vi_skip hI hj hsk) (by simp only; omega) (by kernel_rfl) ?_ ?_
          · refine sxo ?_
            try with_reducible exact trivial
          · refine sxo ?_
            try with_reducible exact trivial
        | false =>
          rw [hh, decide_eq_false hlt, Bool.false_or] at hsk
          have hL2 : ∀ b ∈ L.set j (cutBr i (ix l i.toNat).len (ix L j)), SmB l rest.length b := fun b hb => by
            rcases List.mem_or_eq_of_mem_set hb with hb | rfl
            · exact smB_less (hL b hb)
            · exact smB_cut hyj ⟨hi0, hil⟩ hmi.1 (by omega)
          have hk2 := upd_ok (b := cutBr i (ix l i.toNat).len (ix L j)) h3 hj
          have hyj2 : (cutBr i (ix l i.toNat).len (ix L j)).ps = (ix L j).ps.set i.toNat (ix (ix L j).ps i.toNat + 1) := rfl
          simp only [push_cast, ↓branch_true, ↓branch_false, Nat.reduceBEq, Nat.reduceAdd, Nat.reduceMul, Nat.reduceSub, Int.reduceToNat, reduceCtorEq, branch_decide, branch_not, branch_beq, branch_bne, hvj]
          repeat (with_reducible refine And.intro (by omega) ?_)
          have hih := ih (k + 1) (L.set j (cutBr i (ix l i.toNat).len (ix L j))) B1 oc bc1 (updV s1 (s1.pi j) (cutBr i (ix l i.toNat).len (ix L j)).ps) t1 (by omega) hd1 (by rw [List.length_set]; omega) (by rw [List.length_set]; omega) hL2 hk2 h5 h6 h7
          have hcl : (cutBr i (ix l i.toNat).len (ix L j)).ps.length = (ix L j).ps.length := by simp only [cutBr, List.length_set]
          try refine Or.inl ?_
          refine sp_at hih [0, 1, 2, 8, 4, 5, 6] (by kernel_rfl) ?_ ?_ ?_
          · simp only [push_cast, ↓branch_true, ↓branch_false, Nat.reduceBEq, Nat.reduceAdd, Nat.reduceMul, Nat.reduceSub, Int.reduceToNat, reduceCtorEq, branch_decide, branch_not, branch_beq, branch_bne, List.length_set]
          · simp only [push_cast, ↓branch_true, ↓branch_false, Nat.reduceBEq, Nat.reduceAdd, Nat.reduceMul, Nat.reduceSub, Int.reduceToNat, reduceCtorEq, branch_decide, branch_not, branch_beq, branch_bne, List.length_set, updV]
            refine ⟨fun x hx q hq => ?_, fun p hp => ?_⟩
            · obtain rfl : x = 0 := by omega
              by_cases e : q = j
              · subst e
                simp only [push_cast, ↓branch_true, ↓branch_false, Nat.reduceBEq, Nat.reduceAdd, Nat.reduceMul, Nat.reduceSub, Int.reduceToNat, reduceCtorEq, branch_decide, branch_not, branch_beq, branch_bne, ix_set_self hj, hcl]
                exact ⟨rfl, rfl⟩
              · have hb : (q == j) = false := by simpa using e
                simp only [push_cast, ↓branch_true, ↓branch_false, Nat.reduceBEq, Nat.reduceAdd, Nat.reduceMul, Nat.reduceSub, Int.reduceToNat, reduceCtorEq, branch_decide, branch_not, branch_beq, branch_bne, ix_set_ne e, hb]
            · by_cases e : p = s1.pi j
              · subst e
                simp only [push_cast, ↓branch_true, ↓branch_false, Nat.reduceBEq, Nat.reduceAdd, Nat.reduceMul, Nat.reduceSub, Int.reduceToNat, reduceCtorEq, branch_decide, branch_not, branch_beq, branch_bne, hcl, hvj]
                intro q hq
                by_cases e2 : q = i.toNat
                · subst e2
                  simp only [push_cast, ↓branch_true, ↓branch_false, Nat.reduceBEq, Nat.reduceAdd, Nat.reduceMul, Nat.reduceSub, Int.reduceToNat, reduceCtorEq, branch_decide, branch_not, branch_beq, branch_bne, hyj2, ix_set_self (show i.toNat < (ix L j).ps.length by omega)]
                · have hb : (q == i.toNat) = false := by simpa using e2
                  simp only [push_cast, ↓branch_true, ↓branch_false, Nat.reduceBEq, Nat.reduceAdd, Nat.reduceMul, Nat.reduceSub, Int.reduceToNat, reduceCtorEq, branch_decide, branch_not, branch_beq, branch_bne, hyj2, ix_set_ne e2, hb]
              · have hb : (p == s1.pi j) = false := by simpa using e
                simp only [push_cast, ↓branch_true, ↓branch_false, Nat.reduceBEq, Nat.reduceAdd, Nat.reduceMul, Nat.reduceSub, Int.reduceToNat, reduceCtorEq, branch_decide, branch_not, branch_beq, branch_bne, hb]
          rintro _ _ ⟨s3, t3, bc3, g1, g2, g3, g4, g5, rfl, rfl⟩
          have hpi : s3.pi = s1.pi := g2.pi
          have hv3 := g1.val j (by rw [List.length_set]; exact hj)
          have hp3 := g1.lt j (by rw [List.length_set]; exact hj)
          rw [hpi] at hp3
          rw [ix_set_self hj, hpi] at hv3
          have hLj : ix (L.set j (cutBr i (ix l i.toNat).len (ix L j))) j = cutBr i (ix l i.toNat).len (ix L j) := ix_set_self hj _
          have hvi := vi_try hI hj hsk (upd_back g1 hj) (((h4.trans (updV_keep s1 _ _)).trans g2).trans (updV_keep s3 _ _)) rfl g3 g4 g5
          rw [hpi] at hvi
          have hcle : (cutBr i (ix l i.toNat).len (ix L j)).left = (ix L j).left - (ix l i.toNat).len := rfl
          simp only [push_cast, ↓branch_true, ↓branch_false, Nat.reduceBEq, Nat.reduceAdd, Nat.reduceMul, Nat.reduceSub, Int.reduceToNat, reduceCtorEq, branch_decide, branch_not, branch_beq, branch_bne, List.length_set, hLj, hpi, hv3, hcle, hcl]
          rw [hyj2, ix_set_self (show i.toNat < (ix L j).ps.length by omega)]
          repeat (with_reducible refine And.intro (by omega) ?_)
          refine lpK_normal ⟨j + 1, _, bc3, updV s3 (s1.pi j) (ix L j).ps, t3, S ++ [(ix L j).left]⟩ [0, 1, 2, 3, 4, 5, 6, 7, 9] hvi (by simp only; omega) (by kernel_rfl) ?_ ?_
          · refine sxo ?_
            try with_reducible exact trivial
          · simp only [push_cast, ↓branch_true, ↓branch_false, Nat.reduceBEq, Nat.reduceAdd, Nat.reduceMul, Nat.reduceSub, Int.reduceToNat, reduceCtorEq, branch_decide, branch_not, branch_beq, branch_bne, updV]
            refine ⟨fun x hx q hq => ?_, fun p hp => ?_, by simp, gI_up fun x => hasI_snoc _ _ x⟩
            · obtain rfl : x = 0 := by omega
              by_cases e : q = j
              · subst e
                simp only [push_cast, ↓branch_true, ↓branch_false, Nat.reduceBEq, Nat.reduceAdd, Nat.reduceMul, Nat.reduceSub, Int.reduceToNat, reduceCtorEq, branch_decide, branch_not, branch_beq, branch_bne, hpi, cutBr, Int.sub_add_cancel]
              · have hb : (q == j) = false := by simpa using e
                simp only [push_cast, ↓branch_true, ↓branch_false, Nat.reduceBEq, Nat.reduceAdd, Nat.reduceMul, Nat.reduceSub, Int.reduceToNat, reduceCtorEq, branch_decide, branch_not, branch_beq, branch_bne, ix_set_ne e, hb, hpi]
            · by_cases e : p = s1.pi j
              · subst e
                simp only [push_cast, ↓branch_true, ↓branch_false, Nat.reduceBEq, Nat.reduceAdd, Nat.reduceMul, Nat.reduceSub, Int.reduceToNat, reduceCtorEq, branch_decide, branch_not, branch_beq, branch_bne, hv3, hcl]
                intro q hq
                by_cases e2 : q = i.toNat
                · subst e2
                  simp only [push_cast, ↓branch_true, ↓branch_false, Nat.reduceBEq, Nat.reduceAdd, Nat.reduceMul, Nat.reduceSub, Int.reduceToNat, reduceCtorEq, branch_decide, branch_not, branch_beq, branch_bne, Int.add_sub_cancel]
                · have hb : (q == i.toNat) = false := by simpa using e2
                  simp only [push_cast, ↓branch_true, ↓branch_false, Nat.reduceBEq, Nat.reduceAdd, Nat.reduceMul, Nat.reduceSub, Int.reduceToNat, reduceCtorEq, branch_decide, branch_not, branch_beq, branch_bne, hyj2, ix_set_ne e2, hb]
              · have hb : (p == s1.pi j) = false := by simpa using e
                simp only [push_cast, ↓branch_true, ↓branch_false, Nat.reduceBEq, Nat.reduceAdd, Nat.reduceMul, Nat.reduceSub, Int.reduceToNat, reduceCtorEq, branch_decide, branch_not, branch_beq, branch_bne, hb]
      · obtain rfl : j = L.length := by omega
        refine ⟨[(12, .p 9 0 0), (9, .v (.int .i64 (ix l i.toNat).len)), (8, .v (.int .i64 i)), (0, .p 2 0 0), (1, .v (.int .i64 k)), (2, .s 5 0 0 L.length oc 3)], [rPc l, rOwn 3 x0.length xc (fun k => ix x0 k), oSr lim l.length c x0.length xc (bV 8 B1 bc1), deadOb, oFs t1, oBs 6 L.length L oc s1, oFs (addV s1 L.length (zeros l.length) l.length), deadOb, oBs 4 B1.length B1 bc1 t1, ⟨91, false, .st [.v (.int .i64 0), .v (.int .i64 (lim - (ix l i.toNat).len)), .s 6 s1.M 0 l.length l.length 1]⟩], ?_, ?_⟩
        · have hzl := zeros_len l.length
          repeat' first
            | with_reducible apply And.intro
            | (refine Or.inr ?_)
          all_goals first
            | omega
            | (refine ⟨6, ?_⟩
               refine sxo ?_
               try with_reducible exact trivial
               repeat' (with_reducible apply And.intro)
               all_goals first
                 | omega
                 | (refine Mt.wk (rl := [0, 1, 2, 3, 4, 5, 6, 1000, 8, 9]) ⟨by kernel_rfl, ?_, ?_⟩
                    · refine sxo ?_
                      try with_reducible exact trivial
                    · simp only [push_cast, ↓branch_true, ↓branch_false, Nat.reduceBEq, Nat.reduceAdd, Nat.reduceMul, Nat.reduceSub, Int.reduceToNat, reduceCtorEq, branch_decide, branch_not, branch_beq, branch_bne, addV]
                      intro p hp
                      cases p == s1.M with
                      | true => exact ⟨by simp only [cond_true]; omega, fun q _ => by simp only [cond_true, zeros_ix]; (simp only [push_cast, ↓branch_true, ↓branch_false, Nat.reduceBEq, Nat.reduceAdd, Nat.reduceMul, Nat.reduceSub, Int.reduceToNat, reduceCtorEq, branch_decide, branch_not, branch_beq, branch_bne])⟩
                      | false => exact ⟨Nat.le_refl _, fun q _ => by (simp only [push_cast, ↓branch_true, ↓branch_false, Nat.reduceBEq, Nat.reduceAdd, Nat.reduceMul, Nat.reduceSub, Int.reduceToNat, reduceCtorEq, branch_decide, branch_not, branch_beq, branch_bne])⟩
                    )
               )
        simp only [push_cast, ↓branch_true, ↓branch_false, Nat.reduceBEq, Nat.reduceAdd, Nat.reduceMul, Nat.reduceSub, Int.reduceToNat, reduceCtorEq, branch_decide, branch_not, branch_beq, branch_bne, jnK]
        have a1 : s1.M < (addV s1 L.length (zeros l.length) l.length).M := by simp only [addV]; omega
        have a2 : ((addV s1 L.length (zeros l.length) l.length).G s1.M).length = l.length := by simp [addV, zeros_len]
        have hl1 : (L ++ [newB l lim i]).length = L.length + 1 := by simp
        have hNp : (newB l lim i).ps = (zeros l.length).set i.toNat (ix (zeros l.length) i.toNat + 1) := rfl
        have hNl : (newB l lim i).ps.length = l.length := by rw [hNp, List.length_set, zeros_len]
        have hL3 : ∀ b ∈ L ++ [newB l lim i], SmB l rest.length b := fun b hb => by
          rcases List.mem_append.1 hb with hb | hb
          · exact smB_less (hL b hb)
          · simp only [List.mem_singleton] at hb
            subst hb
            exact smB_new (by omega) ⟨hi0, hil⟩ hmi.1 him h2l
        repeat (with_reducible refine And.intro (by omega) ?_)
        have hih := fun c2 => ih (k + 1) (L ++ [newB l lim i]) B1 c2 bc1 (addV s1 L.length (newB l lim i).ps l.length) t1 (by omega) hd1 (by omega) (by omega) hL3 (add_ok h3) h5 h6 h7
        rw [← h2]
        repeat' (with_reducible apply And.intro)
        all_goals
          try (refine Or.inl ?_)
          try (refine ⟨by omega, ?_⟩)
          try refine Or.inl ?_
          refine sp_at (clipB_sp L.length oc L s1 (addV s1 L.length (zeros l.length) l.length).M (fun p => ((addV s1 L.length (zeros l.length) l.length).G p).length) (addV s1 L.length (zeros l.length) l.length).cp (fun p q => bif (p == s1.M && q == i.toNat) then 1 else ix ((addV s1 L.length (zeros l.length) l.length).G p) q)) [5, 6] (by kernel_rfl) ?_ ?_ ?_
          · refine sxo ?_
            try with_reducible exact trivial
          · refine sxo ?_
            try with_reducible exact trivial
            intro p hp q hq
            cases (p == s1.M && q == i.toNat) <;> (simp only [push_cast, ↓branch_true, ↓branch_false, Nat.reduceBEq, Nat.reduceAdd, Nat.reduceMul, Nat.reduceSub, Int.reduceToNat, reduceCtorEq, branch_decide, branch_not, branch_beq, branch_bne])
          rintro _ _ ⟨rfl, rfl⟩
          refine sxo ?_
          try with_reducible exact trivial
          try (refine Or.inl ?_)
          repeat (with_reducible refine And.intro (by omega) ?_)
          refine Or.inr (Or.inr (Or.inl ⟨fun h => by omega, fun _ => ?_⟩))
          repeat (with_reducible refine And.intro (by omega) ?_)
          intro c2 hc2
          try refine Or.inl ?_
          refine sp_at (hih c2) [0, 1, 2, 8, 4, 11, 6] (by kernel_rfl) ?_ ?_ ?_
          · simp only [push_cast, ↓branch_true, ↓branch_false, Nat.reduceBEq, Nat.reduceAdd, Nat.reduceMul, Nat.reduceSub, Int.reduceToNat, reduceCtorEq, branch_decide, branch_not, branch_beq, branch_bne, hl1]
          · simp only [push_cast, ↓branch_true, ↓branch_false, Nat.reduceBEq, Nat.reduceAdd, Nat.reduceMul, Nat.reduceSub, Int.reduceToNat, reduceCtorEq, branch_decide, branch_not, branch_beq, branch_bne, hl1]
            refine ⟨fun x hx q hq => ?_, rfl, fun p hp => ⟨?_, ?_, fun q hq => ?_⟩⟩
            · by_cases e : q < L.length
              · have hb2 : decide (q < L.length) = true := by simpa using e
                have hp := h3.lt q e
                have hb : (s1.pi q == s1.M) = false := by simp; omega
                rw [ix_app_ne (by omega)]
                simp only [addV, hb2, cond_true, hb, cond_false]
                refine sxo ?_
                try with_reducible exact trivial
              · obtain rfl : q = L.length := by omega
                have hb2 : decide (L.length < L.length) = false := by simp
                rw [ix_app_last]
                simp only [addV, hb2, cond_false, beq_self_eq_true, cond_true, hNl]
                refine sxo ?_
                try with_reducible exact trivial
                exact ⟨rfl, rfl⟩
            · simp only [addV]
              cases p == s1.M with
              | true => simp only [cond_true]; rw [hNl, zeros_len]; exact Nat.le_refl _
              | false => exact Nat.le_refl _
            · rfl
            · simp only [addV] at hq ⊢
              by_cases e : p = s1.M
              · subst e
                simp only [beq_self_eq_true, cond_true, Bool.true_and] at hq ⊢
                rw [hNl] at hq
                rw [hNp, zeros_ix, zeros_ix]
                by_cases e2 : q = i.toNat
                · subst e2
                  rw [ix_set_self (show i.toNat < (zeros l.length).length by rw [zeros_len]; omega)]
                  simp
                · have hb : (q == i.toNat) = false := by simpa using e2
                  rw [ix_set_ne e2, hb, zeros_ix]; rfl
              · have hb : (p == s1.M) = false := by simpa using e
                simp only [hb, cond_false, Bool.false_and]
          rintro _ _ ⟨s3, t3, bc3, g1, g2, g3, g4, g5, rfl, rfl⟩
          refine sxo ?_
          try with_reducible exact trivial
          have hpi : s3.pi = (addV s1 L.length (newB l lim i).ps l.length).pi := g2.pi
          refine ⟨_, _, vwk_mt [0, 1, 2, 3, 4, 5, 6, 12] (H' := [rPc l, rOwn 3 x0.length xc (fun k => ix x0 k), oSr lim l.length c x0.length xc (bV 7 (vis l lim rest (L ++ [newB l lim i]) B1) bc3), deadOb, oFs t3, oBs 6 L.length L oc ⟨s3.M, s3.G, s3.cp, s1.pi⟩, oFs ⟨s3.M, s3.G, s3.cp, s1.pi⟩, oBs 4 (vis l lim rest (L ++ [newB l lim i]) B1).length (vis l lim rest (L ++ [newB l lim i]) B1) bc3 t3]) (r' := .t []) ?_ (by kernel_rfl) ?_, ⟨s3.M, s3.G, s3.cp, s1.pi⟩, t3, bc3, addV_back g1 g2, h4.trans (addV_keep g2), g3, g4, g5, rfl, rfl⟩
          · refine sxo ?_
            try with_reducible exact trivial
          · refine sxo ?_
            try with_reducible exact trivial
            intro x hx q hq
            exact (addV_keep g2).cp _ (h3.lt q hq)
theorem visit_sp (l : List Pc) (lim : Int) (c xc : Nat) (x0 : List Int) (hvo : orderB l = true) (h0l : 0 < l.length) (h1l : 1 ≤ lim) (h2l : lim ≤ 1048576) (hx : ∀ i ∈ x0, 0 ≤ i ∧ i < l.length ∧ (ix l i.toNat).len ≤ lim) (hx0 : x0.length ≤ 10) : ∀ rest, VisC l lim c xc x0 rest
  | [] => vis_nil l lim c xc x0 hvo h0l hx0
  | _ :: rest => vis_cons l lim c xc x0 hvo h1l h2l hx hx0 (visit_sp l lim c xc x0 hvo h0l h1l h2l hx hx0 rest)
end Go.Proofs.YtolioflblegneaaGreat
namespace Go.Proofs.YtolioflblegneaaGreat
open Go.RowKit
/-- What is wrong with a length and an order: 0 for nothing. -/
def givE (lim : Int) (l : List Pc) : Int := if orderB l = false then 1 else if lim < 1 ∨ 1048576 < lim then 2 else if l.any (fun p => decide (lim < p.len)) = true then 22 else 0
theorem givE_0 {lim : Int} {l : List Pc} (h : givE lim l = 0) : orderB l = true ∧ 1 ≤ lim ∧ lim ≤ 1048576 ∧ ∀ k, k < l.length → (ix l k).len ≤ lim := by
  unfold givE at h
  split at h
  · omega
  · split at h
    · omega
    · split at h
      · omega
      · rename_i h1 h2 h3
        refine ⟨by simpa using h1, by omega, by omega, fun k hk => ?_⟩
        rw [List.any_eq_true] at h3
        refine Int.not_lt.1 fun h4 => h3 ⟨_, ix_mem hk, decide_eq_true h4⟩
def lstE (lim : Int) (l : List Pc) : Int := if givE lim l ≠ 0 then givE lim l else if 10 < cntL l then 6 else 0
/-- The lengths of Least. -/
def lstB (lim : Int) (l : List Pc) : List Br := if lstE lim l = 0 ∧ 0 < cntL l then vis l lim (longL l) [] [] else []
def lstR (lim : Int) (l : List Pc) : List Pt := patL (lstB lim l)
theorem lst_good {lim : Int} {l : List Pc} (he : lstE lim l = 0) (h0 : 0 < cntL l) : VisOk [⟨lim, -1⟩] l [] (lstB lim l) ∧ lstB lim l ≠ [] ∧ (lstB lim l).length = optF lim (wsL l (longL l)) [] := by
  have hg : givE lim l = 0 := by
    unfold lstE at he
    split at he
    · contradiction
    · omega
  obtain ⟨ho, h1, h2, h3⟩ := givE_0 hg
  have hr : lstB lim l = vis l lim (longL l) [] [] := if_pos ⟨he, h0⟩
  have hll := long_len ho
  have hx : ∀ i ∈ longL l, 0 ≤ i ∧ i < l.length ∧ (ix l i.toNat).len ≤ lim := fun i hi => by
    obtain ⟨a, b⟩ := longL_mem hi
    exact ⟨a, b, h3 _ (by omega)⟩
  have hv : VisOk [⟨lim, -1⟩] l (longL l) [] := ⟨(fun b hb => by cases hb), fun i hi => by
    rw [long_count hi]
    have := order_at ho hi
    simp
    omega⟩
  have hlen : (lstB lim l).length = optF lim (wsL l (longL l)) [] := by
    rw [hr, vis_len (longL l) [] [] (fun i hi => by
      obtain ⟨a, b⟩ := longL_mem hi
      have := order_at ho (k := i.toNat) (by omega)
      exact ⟨by omega, h3 _ (by omega)⟩) (fun y hy => by cases hy)]
    rfl
  refine ⟨by rw [hr]; exact vis_ok (by omega) (longL l) [] [] hx hv (.inl rfl), fun e => ?_, hlen⟩
  rw [e] at hlen
  obtain ⟨i, x, hix⟩ : ∃ i x, longL l = i :: x := by
    cases hc : longL l with
    | nil => rw [hc] at hll; simp at hll; omega
    | cons i x => exact ⟨i, x, rfl⟩
  rw [hix] at hlen
  have := optF_pos lim (ix l i.toNat).len (wsL l x) []
  have e2 : wsL l (i :: x) = (ix l i.toNat).len :: wsL l x := rfl
  rw [e2] at hlen
  simp at hlen
  omega
theorem over_pu (l : List Pc) (lim : Int) (k : Nat) : Pu Tryz.prog 54 [.a (cPc (ix l k)), .p 1 0 0] [rPc l, oI lim] (.v (.bool (decide (lim < (ix l k).len)))) := by
  refine pu_of_ex true [] mixed Tryz.call54 Tryz.func54 rfl Tryz.ntmps54 Tryz.results54 (by decide +kernel) rfl rfl rfl ?_
  refine sxo ?_
  try with_reducible exact trivial
set_option maxHeartbeats 2000000 in
theorem least_sp (l : List Pc) (lim : Int) (c : Nat) (hl : l.length ≤ 9223372036854775807) : Sp Tryz.prog 18 [.v (.int .i64 lim), .s 0 0 0 l.length c 2] [rPc l]
    (fun r H => ∃ oc cp, (lstR lim l).length ≤ oc ∧ (lstB lim l).length ≤ 10 ∧ r = .t [.v (.int .i64 (lstB lim l).length), .s 1 0 0 (lstR lim l).length oc 3, .v (.int .i64 (lstE lim l))] ∧ H = [rPc l, oPt 2 (lstR lim l) cp oc, oFm cp (fmP (lstR lim l))]) := by
  have key : ∀ e σH, σH.length ≤ 900 → lstE lim l = e → (e ≠ 0 ∨ ¬ 0 < cntL l) → ∃ r H2 rl, mt rl r (.t [.v (.int .i64 0), .v (.slice none 0 0), .v (.int .i64 e)]) ∧ (keepB 0 rl 1 && nodupB (liveL rl H2) && Nat.beq rl.length H2.length) = true ∧ obsM rl ([rPc l] ++ σH) rl H2 ∧ ∃ oc cp, (lstR lim l).length ≤ oc ∧ (lstB lim l).length ≤ 10 ∧ r = .t [.v (.int .i64 (lstB lim l).length), .s 1 0 0 (lstR lim l).length oc 3, .v (.int .i64 (lstE lim l))] ∧ H2 = [rPc l, oPt 2 (lstR lim l) cp oc, oFm cp (fmP (lstR lim l))] := by
    intro e σH hσ he h0
    have e1 : lstB lim l = [] := by
      unfold lstB
      rw [if_neg]
      rintro ⟨a, b⟩
      rcases h0 with h0 | h0
      · exact h0 (he ▸ a)
      · exact h0 b
    have e2 : lstR lim l = [] := by rw [lstR, e1]; rfl
    rw [e2, e1, he]
    refine ⟨_, _, [0, 1000, 1001], ?_, by kernel_rfl, ?_, 0, fun _ => 0, Nat.le_refl _, by simp, rfl, rfl⟩
    · refine sxo ?_
      try with_reducible exact trivial
    · refine sxo ?_
      try with_reducible exact trivial
      rw [obAt_out (show σH.length ≤ 999 by omega), obAt_out (show σH.length ≤ 1000 by omega)]
      refine sxo ?_
      try with_reducible exact trivial
      repeat' (first | with_reducible apply And.intro | omega | exact Or.inr fun _ => rfl)
  refine sp_weak ?_
  refine sp_of_ex true [(17, .one 1 (.one 2 (.alt [(0, .one 3 (.one 4 (.one 5 (.one 6 .fin)))), (3, .one 0 (.one 4 (.one 5 (.one 6 .fin))))]))), (19, .one 0 (.one 1 (.one 2 (.one 5 (.one 6 (.one 7 (.alt [(3, .one 4 (.one 8 (.one 9 (.one 10 (.one 11 (.one 12 .fin)))))), (8, .alt [(3, .one 4 (.one 9 (.one 10 (.one 11 (.one 12 .fin))))), (9, .one 3 (.one 4 (.one 10 (.one 11 (.one 12 .fin)))))])])))))))] mixed Tryz.call18 Tryz.func18 rfl Tryz.ntmps18 Tryz.results18 (by decide +kernel) rfl ?_
  refine sxo ?_
  try with_reducible exact trivial
  refine sp_call (order_pu l c hl) rfl [0] rfl (by simp only [push_cast, ↓branch_true, ↓branch_false, Nat.reduceBEq, Nat.reduceAdd, Nat.reduceMul, Nat.reduceSub, Int.reduceToNat, reduceCtorEq, branch_decide, branch_not, branch_beq, branch_bne]) (by simp only [push_cast, ↓branch_true, ↓branch_false, Nat.reduceBEq, Nat.reduceAdd, Nat.reduceMul, Nat.reduceSub, Int.reduceToNat, reduceCtorEq, branch_decide, branch_not, branch_beq, branch_bne]) ?_
  refine sxo ?_
  try with_reducible exact trivial
  cases hvo : orderB l with
  | false =>
    refine sxo ?_
    try with_reducible exact trivial
    exact key 1 [_] (by simp) (by rw [lstE, if_pos (by rw [givE, if_pos hvo]; decide), givE, if_pos hvo]) (.inl (by decide))
  | true =>
  have hll := order_len hvo
  have hcl := long_len hvo
  refine sxo ?_
  try with_reducible exact trivial
  have hg2 : ¬ (1 ≤ lim ∧ lim ≤ 1048576) → givE lim l = 2 := fun h => by rw [givE, if_neg (by simp [hvo]), if_pos (by omega)]
  refine ⟨fun h1 => ?_, fun h1 => ⟨fun h2 => ?_, fun h2 => ?_⟩⟩
  · have := hg2 (by omega)
    exact key 2 [_] (by simp) (by rw [lstE, if_pos (by rw [this]; decide), this]) (.inl (by decide))
  · have := hg2 (by omega)
    exact key 2 [_] (by simp) (by rw [lstE, if_pos (by rw [this]; decide), this]) (.inl (by decide))
  refine sp_call (containsPc_pu l c 54 [] [.p 1 0 0] [oI lim] (fun p => decide (lim < p.len)) rfl hl fun x hx => ?_) rfl [0, 1] rfl ?_ ?_ ?_
  · obtain ⟨k, hk, rfl⟩ := List.getElem_of_mem hx
    have := over_pu l lim k
    rwa [ix_eq hk] at this
  · refine sxo ?_
    try with_reducible exact trivial
  · refine sxo ?_
    try with_reducible exact trivial
  cases hany : l.any (fun p => decide (lim < p.len)) with
  | true =>
    have hg : givE lim l = 22 := by rw [givE, if_neg (by simp [hvo]), if_neg (by omega), if_pos hany]
    refine sxo ?_
    try with_reducible exact trivial
    exact key 22 [_] (by simp) (by rw [lstE, if_pos (by rw [hg]; decide), hg]) (.inl (by decide))
  | false =>
  have hg : givE lim l = 0 := by rw [givE, if_neg (by simp [hvo]), if_neg (by omega), if_neg (by simp [hany])]
  have hlE : lstE lim l = if 10 < cntL l then 6 else 0 := if_neg (by rw [hg]; simp)
  obtain ⟨_, _, _, hle⟩ := givE_0 hg
  refine sxo ?_
  try with_reducible exact trivial
  refine tr_loop mixed (by kernel_rfl) (fun (k : Nat) => [(28, .v (.int .i64 k)), (27, .v (.int .i64 l.length)), (26, .s 0 0 0 l.length c 2), (7, .v (.int .i64 (cntT l k))), (2, .p 1 0 0), (1, .s 0 0 0 l.length c 2)])
    (fun _ => [rPc l, oI lim]) (fun k => k ≤ l.length) (fun k => l.length - k) 0 (Nat.zero_le _) (Mt.wk (rl := [0, 1]) ⟨by kernel_rfl, ?_, ?_⟩) ?_
  · refine sxo ?_
    try with_reducible exact trivial
    rfl
  · refine sxo ?_
    try with_reducible exact trivial
  intro k hk
  have hr := cntT_range hvo k hk
  refine sxo ?_
  try with_reducible exact trivial
  refine ⟨fun h => ?_, fun h => ?_⟩
  · have h3 := order_at hvo (k := k) (by omega)
    have e1 := cntT_succ (l := l) (k := k) (by omega)
    repeat (with_reducible refine And.intro (by omega) ?_)
    refine lpK_normal (k + 1) [0, 1] (by omega) (by omega) (by kernel_rfl) ?_ ?_
    · simp only [push_cast, ↓branch_true, ↓branch_false, Nat.reduceBEq, Nat.reduceAdd, Nat.reduceMul, Nat.reduceSub, Int.reduceToNat, reduceCtorEq, branch_decide, branch_not, branch_beq, branch_bne, e1]
    · refine sxo ?_
      try with_reducible exact trivial
  obtain rfl : k = l.length := by omega
  refine ⟨fun h10 => ?_, fun h10 => ?_⟩
  · exact key 6 [_] (by simp) (by rw [hlE, if_pos (show 10 < cntL l from h10)]) (.inl (by decide))
  have hE : lstE lim l = 0 := by rw [hlE, if_neg (show ¬ 10 < cntL l from h10)]
  refine ⟨fun h0 => ?_, fun h0 => ?_⟩
  · exact key 0 [_] (by simp) hE (.inr (show ¬ 0 < cntT l l.length by omega))
  have hcp : 0 < cntL l := by show 0 < cntT l l.length; omega
  have hc10 : cntL l ≤ 10 := by show cntT l l.length ≤ 10; omega
  obtain ⟨hgood, hne, hlen⟩ := lst_good hE hcp
  have hr : lstB lim l = vis l lim (longL l) [] [] := if_pos ⟨hE, hcp⟩
  have h0l : 0 < l.length := by
    have := longL_mem (ix_mem (l := longL l) (k := 0) (by omega))
    omega
  have hx : ∀ i ∈ longL l, 0 ≤ i ∧ i < l.length ∧ (ix l i.toNat).len ≤ lim := fun i hi => by
    obtain ⟨a, b⟩ := longL_mem hi
    exact ⟨a, b, hle _ (by omega)⟩
  have hb10 : (lstB lim l).length ≤ 10 := by
    have h1 : optF lim (wsL l (longL l)) [] ≤ (wsL l (longL l)).length := pack_le (fun w hw => by
      obtain ⟨i, hi, rfl⟩ := List.mem_map.1 hw
      obtain ⟨a, b, _⟩ := hx i hi
      have := order_at hvo (k := i.toNat) (by omega)
      omega) ⟨[], (wsL l (longL l)).map fun w => [w], rfl, (by simp), (fun b hb => by
        obtain ⟨w, hw, rfl⟩ := List.mem_map.1 hb
        obtain ⟨i, hi, rfl⟩ := List.mem_map.1 hw
        have := (hx i hi).2.2
        simpa using this), (by simp [← List.flatMap_def]), (by simp)⟩
    have h2 : (wsL l (longL l)).length = (longL l).length := by simp [wsL]
    omega
  have hps : ∀ b ∈ lstB lim l, 0 < b.ps.length ∧ b.ps.length ≤ 100000 := fun b hb => by
    have := (hgood.bar b hb).1.ps
    omega
  repeat' (with_reducible apply And.intro)
  all_goals
    refine sp_at (longest_sp l c hvo (by omega)) [0] rfl ?_ ?_ ?_
    · refine sxo ?_
      try with_reducible exact trivial
    · refine sxo ?_
      try with_reducible exact trivial
    rintro _ _ ⟨xc, hxc, rfl, rfl⟩
    refine sxo ?_
    try with_reducible exact trivial
    have hvi := visit_sp l lim c xc (longL l) hvo h0l (by omega) (by omega) hx (by omega) (longL l) 0 [] [] 0 0 ⟨0, fun _ => [], fun _ => 0, fun _ => 0⟩ ⟨0, fun _ => [], fun _ => 0, fun _ => 0⟩ (by omega) rfl (by simp; omega) (by simp; omega) (fun y hy => by cases hy) (vok_nil _) (vok_nil _) (Nat.le_refl _) (by simp)
    rw [← hr, bV_nil] at hvi
    refine sp_pre_mt (args' := [.p 3 0 0, .v (.int .i64 0), .s 6 0 0 0 0 3]) (H' := [rPc l, oI lim, rOwn 3 (longL l).length xc (fun k => ix (longL l) k), ⟨105, false, .st [.v (.int .i64 lim), .s 0 0 0 l.length c 2, .s 2 0 0 (longL l).length xc 1, .v (.slice none 0 0)]⟩, oBs 5 0 [] 0 ⟨0, fun _ => [], fun _ => 0, fun _ => 0⟩, oFs ⟨0, fun _ => [], fun _ => 0, fun _ => 0⟩, oBs 7 0 [] 0 ⟨0, fun _ => [], fun _ => 0, fun _ => 0⟩, oFs ⟨0, fun _ => [], fun _ => 0, fun _ => 0⟩]) [0, 1, 2, 3, 4, 5, 6, 7] ?_ (by kernel_rfl) ?_ (sp_at hvi [0, 2, 3, 4, 5, 6, 7] rfl ?_ ?_ ?_)
    · refine sxo ?_
      try with_reducible exact trivial
    · refine sxo ?_
      try with_reducible exact trivial
      omega
    · refine sxo ?_
      try with_reducible exact trivial
    · refine sxo ?_
      try with_reducible exact trivial
    rintro _ _ ⟨s', t', bc', g1, g2, g3, g4, g5, rfl, rfl⟩
    rw [bV_some hne]
    refine sxo ?_
    try with_reducible exact trivial
    repeat' (with_reducible apply And.intro)
    all_goals
      refine sp_at (patterns_sp (lstB lim l) t'.pi t'.cp bc' t'.M t'.G g3.lt g3.val (by omega) hps) [8, 5] rfl ?_ ?_ ?_
      · refine sxo ?_
        try with_reducible exact trivial
      · refine sxo ?_
        try with_reducible exact trivial
      rintro _ _ ⟨oc2, cp2, hoc2, rfl, rfl⟩
      refine sxo ?_
      try with_reducible exact trivial
      rw [hE]
      refine ⟨_, _, [0, 9, 10], ?_, by kernel_rfl, ?_, oc2, cp2, hoc2, hb10, rfl, rfl⟩
      · simp only [push_cast, ↓branch_true, ↓branch_false, Nat.reduceBEq, Nat.reduceAdd, Nat.reduceMul, Nat.reduceSub, Int.reduceToNat, reduceCtorEq, branch_decide, branch_not, branch_beq, branch_bne, lstR]
      · simp only [push_cast, ↓branch_true, ↓branch_false, Nat.reduceBEq, Nat.reduceAdd, Nat.reduceMul, Nat.reduceSub, Int.reduceToNat, reduceCtorEq, branch_decide, branch_not, branch_beq, branch_bne, lstR]
end Go.Proofs.YtolioflblegneaaGreat
