/- Plain facts: the search of the least number of lengths, and right plans. -/
import Derived.Test.YthlpfjcjfhdmaaaVA
import Derived.Test.YthlpfjcjfhdmaaaO
set_option maxRecDepth 100000
set_option linter.unusedSimpArgs false
set_option linter.unusedVariables false
namespace Go.Proofs.Ythlpfjcjfhdmaaa
open Go.RowKit
def seenL (L : List Br) (j : Nat) : Bool := (List.range j).any fun q => decide ((ix L q).left = (ix L j).left)
/-- A length in use that is not tried. -/
def skipL (n : Int) (L : List Br) (j : Nat) : Bool := seenL L j || decide ((ix L j).left < n)
def newB (l : List Pc) (lim i : Int) : Br := cutB i (ix l i.toNat).len ⟨0, lim, zeros l.length⟩
/-- The search: the pieces that are left, the lengths in use, the best ones so far. -/
def vis (l : List Pc) (lim : Int) : List Int → List Br → List Br → List Br
  | [], L, B => if B ≠ [] ∧ B.length ≤ L.length then B else L
  | i :: rest, L, B => if B ≠ [] ∧ B.length ≤ L.length then B else
      vis l lim rest (L ++ [newB l lim i]) ((List.range L.length).foldl (fun B j => if skipL (ix l i.toNat).len L j then B else vis l lim rest (L.set j (cutB i (ix l i.toNat).len (ix L j))) B) B)
def ub (b n : Nat) : Nat := if b = 0 then n else min b n
theorem fold_len {α : Type} {f : List α → Nat → List α} {g : Nat → Nat → Nat} : ∀ (js : List Nat) (B : List α), (∀ j ∈ js, ∀ B : List α, (f B j).length = g B.length j) → (js.foldl f B).length = js.foldl g B.length
  | [], _, _ => rfl
  | j :: js, B, h => by
    simp only [List.foldl_cons]
    rw [fold_len js _ (fun j hj => h j (List.mem_cons_of_mem _ hj)), h j List.mem_cons_self]
theorem fchain (q : Nat → Bool) (o : Nat → Nat) (ho : ∀ j, o j ≠ 0) : ∀ (js : List Nat) (b : Nat), (js.foldl (fun b j => if q j then b else ub b (o j)) b = b ∨ ∃ j ∈ js, q j = false ∧ js.foldl (fun b j => if q j then b else ub b (o j)) b = o j) ∧
    (∀ j ∈ js, q j = false → js.foldl (fun b j => if q j then b else ub b (o j)) b ≤ o j ∧ js.foldl (fun b j => if q j then b else ub b (o j)) b ≠ 0) ∧ (b ≠ 0 → js.foldl (fun b j => if q j then b else ub b (o j)) b ≤ b ∧ js.foldl (fun b j => if q j then b else ub b (o j)) b ≠ 0)
  | [], b => by simp
  | j :: js, b => by
    simp only [List.foldl_cons]
    obtain ⟨h1, h2, h3⟩ := fchain q o ho js (if q j then b else ub b (o j))
    generalize hv : js.foldl (fun b j => if q j then b else ub b (o j)) (if q j then b else ub b (o j)) = v at *
    have hoj := ho j
    cases hq : q j with
    | true =>
      rw [hq] at h1 h3
      simp only [if_true] at h1 h3
      refine ⟨?_, fun p hp hpq => ?_, h3⟩
      · rcases h1 with h | ⟨p, hp, h⟩
        · exact .inl h
        · exact .inr ⟨p, List.mem_cons_of_mem _ hp, h⟩
      · rcases List.mem_cons.1 hp with rfl | hp
        · rw [hq] at hpq; cases hpq
        · exact h2 p hp hpq
    | false =>
      rw [hq] at h1 h3
      simp only [Bool.false_eq_true, if_false] at h1 h3
      unfold ub at h1 h3
      have hnz : (if b = 0 then o j else min b (o j)) ≠ 0 := by
        split
        · exact hoj
        · rename_i hb; rw [Nat.min_def]; split <;> omega
      obtain ⟨h4, h5⟩ := h3 hnz
      refine ⟨?_, fun p hp hpq => ?_, fun hb => ?_⟩
      · rcases h1 with h | ⟨p, hp, h⟩
        · by_cases hb : b = 0
          · rw [if_pos hb] at h
            exact .inr ⟨j, List.mem_cons_self, hq, h⟩
          · rw [if_neg hb] at h
            rcases Nat.le_total b (o j) with h6 | h6
            · left; omega
            · right; exact ⟨j, List.mem_cons_self, hq, by omega⟩
        · exact .inr ⟨p, List.mem_cons_of_mem _ hp, h⟩
      · rcases List.mem_cons.1 hp with rfl | hp
        · refine ⟨?_, h5⟩
          split at h4 <;> omega
        · exact h2 p hp hpq
      · rw [if_neg hb] at h4
        exact ⟨by omega, h5⟩
theorem skip_first {n : Int} {L : List Br} : ∀ (j : Nat), n ≤ (ix L j).left → ∃ q, q ≤ j ∧ (ix L q).left = (ix L j).left ∧ skipL n L q = false := by
  intro j
  induction j using Nat.strongRecOn with
  | _ j ih =>
    intro hf
    cases hs : seenL L j with
    | false => exact ⟨j, Nat.le_refl _, rfl, by unfold skipL; rw [hs]; simp; exact hf⟩
    | true =>
      unfold seenL at hs
      obtain ⟨q, hq, h⟩ := List.any_eq_true.1 hs
      have hq := List.mem_range.1 hq
      have h : (ix L q).left = (ix L j).left := by simpa using h
      obtain ⟨p, p1, p2, p3⟩ := ih q hq (by rw [h]; exact hf)
      exact ⟨p, by omega, p2.trans h, p3⟩
def msL (lim : Int) (L : List Br) : List Int := L.map fun b => lim - b.left
def wsL (l : List Pc) (x : List Int) : List Int := x.map fun i => (ix l i.toNat).len
theorem msL_len (lim : Int) (L : List Br) : (msL lim L).length = L.length := by simp [msL]
theorem msL_ix (lim : Int) {L : List Br} {j : Nat} (h : j < L.length) : ix (msL lim L) j = lim - (ix L j).left := by
  rw [ix_eq (by rw [msL_len]; exact h), ix_eq h]; simp [msL]
theorem msL_set (lim : Int) {L : List Br} {j : Nat} (i n : Int) (_ : j < L.length) : msL lim (L.set j (cutB i n (ix L j))) = (msL lim L).set j (lim - (ix L j).left + n) := by
  unfold msL
  rw [List.map_set]
  congr 1
  simp only [cutB]
  omega
theorem msL_snoc (l : List Pc) (lim : Int) (L : List Br) (i : Int) : msL lim (L ++ [newB l lim i]) = msL lim L ++ [(ix l i.toNat).len] := by
  unfold msL
  rw [List.map_append, List.map_cons, List.map_nil]
  congr 2
  simp only [newB, cutB]
  omega
theorem skip_fits {n : Int} {L : List Br} {j : Nat} (h : skipL n L j = false) : n ≤ (ix L j).left := by
  unfold skipL at h
  simp only [Bool.or_eq_false_iff, decide_eq_false_iff_not] at h
  omega
/-- How many loads it finds. -/
theorem vis_len {l : List Pc} {most : Int} : ∀ (x : List Int) (L B : List Br), (∀ i ∈ x, 0 ≤ (ix l i.toNat).len ∧ (ix l i.toNat).len ≤ most) → (∀ y ∈ L, 0 ≤ y.left) → (vis l most x L B).length = ub B.length (optF most (wsL l x) (msL most L))
  | [], L, B, _, _ => by
    have hb : B.length = 0 ↔ B = [] := List.length_eq_zero_iff
    simp only [vis, wsL, List.map_nil, optF, msL_len, ub]
    by_cases h : B = []
    · subst h; simp
    · have h2 : B.length ≠ 0 := fun e => h (hb.1 e)
      rw [if_neg h2]
      by_cases h3 : B.length ≤ L.length
      · rw [if_pos ⟨h, h3⟩]; omega
      · rw [if_neg (fun h4 => h3 h4.2)]; omega
  | i :: x, L, B, hx, hL => by
    have hb : B.length = 0 ↔ B = [] := List.length_eq_zero_iff
    have hxs : ∀ i ∈ x, 0 ≤ (ix l i.toNat).len ∧ (ix l i.toNat).len ≤ most := fun j hj => hx j (List.mem_cons_of_mem _ hj)
    have hi := hx i List.mem_cons_self
    have hge := optF_ge most (wsL l (i :: x)) (msL most L)
    rw [msL_len] at hge
    simp only [vis]
    by_cases h : B ≠ [] ∧ B.length ≤ L.length
    · rw [if_pos h]
      unfold ub
      rw [if_neg (fun e => h.1 (hb.1 e))]
      omega
    rw [if_neg h]
    have hws : wsL l (i :: x) = (ix l i.toNat).len :: wsL l x := rfl
    have hw2 : ∀ w ∈ wsL l x, 0 ≤ w ∧ w ≤ most := fun w hw => by
      obtain ⟨j, hj, rfl⟩ := List.mem_map.1 hw
      exact hxs j hj
    have hms : ∀ m ∈ msL most L, m ≤ most := fun m hm => by
      obtain ⟨y, hy, rfl⟩ := List.mem_map.1 hm
      have := hL y hy
      omega
    rw [vis_len x (L ++ [newB l most i]) _ hxs (fun y hy => by
      rcases List.mem_append.1 hy with hy | hy
      · exact hL y hy
      · simp only [List.mem_singleton] at hy
        subst hy
        simp only [newB, cutB]; omega)]
    -- what each way comes to
    let o : Nat → Nat := fun j => if j < L.length then optF most (wsL l x) ((msL most L).set j (most - (ix L j).left + (ix l i.toNat).len)) else 1
    have ho : ∀ j, o j ≠ 0 := fun j => by
      simp only [o]
      split
      · have := optF_ge most (wsL l x) ((msL most L).set j (most - (ix L j).left + (ix l i.toNat).len))
        rw [List.length_set, msL_len] at this
        omega
      · omega
    have hof : ∀ j, j < L.length → o j = optF most (wsL l x) ((msL most L).set j (most - (ix L j).left + (ix l i.toNat).len)) := fun j hj => if_pos hj
    have hfl := fold_len (f := fun B j => if skipL (ix l i.toNat).len L j then B else vis l most x (L.set j (cutB i (ix l i.toNat).len (ix L j))) B) (g := fun b j => if skipL (ix l i.toNat).len L j then b else ub b (o j)) (List.range L.length) B (fun j hj B => by
      have hj := List.mem_range.1 hj
      cases hs : skipL (ix l i.toNat).len L j with
      | true => rfl
      | false =>
        simp only [Bool.false_eq_true, if_false]
        have hf := skip_fits hs
        rw [vis_len x _ B hxs (fun y hy => by
          rcases List.mem_or_eq_of_mem_set hy with hy | rfl
          · exact hL y hy
          · simp only [cutB]; omega), msL_set most i _ hj, hof j hj])
    rw [hfl]
    obtain ⟨c1, c2, c3⟩ := fchain (skipL (ix l i.toNat).len L) o ho (List.range L.length) B.length
    generalize hv : (List.range L.length).foldl (fun b j => if skipL (ix l i.toNat).len L j then b else ub b (o j)) B.length = v at *
    obtain ⟨t1, t2, t3⟩ := optF_cons most (ix l i.toNat).len (wsL l x) (msL most L)
    rw [← hws] at t1 t2 t3
    rw [msL_snoc]
    rw [msL_len] at t2 t3
    generalize ht : optF most (wsL l (i :: x)) (msL most L) = t at *
    have hn0 := optF_ge most (wsL l x) (msL most L ++ [(ix l i.toNat).len])
    simp only [List.length_append, List.length_cons, List.length_nil] at hn0
    generalize hnn : optF most (wsL l x) (msL most L ++ [(ix l i.toNat).len]) = nw at *
    -- no try is less than the least number
    have u1 : ∀ j, j < L.length → skipL (ix l i.toNat).len L j = false → t ≤ o j := fun j hj hs => by
      rw [hof j hj]
      have := t2 j hj (by rw [msL_ix most hj]; have := skip_fits hs; omega)
      rw [msL_ix most hj] at this
      exact this
    -- each one that fits has a like one that is tried
    have u2 : t = nw ∨ ∃ j, j < L.length ∧ skipL (ix l i.toNat).len L j = false ∧ t = o j := by
      rcases t3 with h | ⟨j, hj, hf, h⟩
      · exact .inl h
      · rw [msL_ix most hj] at hf h
        obtain ⟨q, hq, e1, e2⟩ := skip_first (n := (ix l i.toNat).len) (L := L) j (by omega)
        refine .inr ⟨q, by omega, e2, ?_⟩
        rw [h, hof q (by omega), e1]
        exact optF_perm (List.Perm.refl _) (set_perm (by rw [msL_len]; exact hj) (by rw [msL_len]; omega) (by rw [msL_ix most hj, msL_ix most (show q < L.length by omega), e1]) _) hw2 (fun m hm => by
          rcases List.mem_or_eq_of_mem_set hm with hm | rfl
          · exact hms m hm
          · exact hf)
    have c1' : v = B.length ∨ ∃ j, j < L.length ∧ skipL (ix l i.toNat).len L j = false ∧ v = o j := by
      rcases c1 with h | ⟨j, hj, h1, h2⟩
      · exact .inl h
      · exact .inr ⟨j, List.mem_range.1 hj, h1, h2⟩
    unfold ub
    by_cases hb0 : B.length = 0
    · rw [if_pos hb0]
      rcases u2 with h | ⟨j, hj, hs, h⟩
      · rcases c1' with h1 | ⟨q, hq, hs, h1⟩
        · rw [if_pos (by omega)]; omega
        · have := ho q
          have := u1 q hq hs
          rw [if_neg (by omega)]; omega
      · obtain ⟨e1, e2⟩ := c2 j (List.mem_range.2 hj) hs
        rw [if_neg e2]
        rcases c1' with h1 | ⟨q, hq, hs, h1⟩
        · omega
        · have := u1 q hq hs
          omega
    · obtain ⟨e1, e2⟩ := c3 hb0
      rw [if_neg hb0, if_neg e2]
      rcases u2 with h | ⟨j, hj, hs, h⟩
      · rcases c1' with h1 | ⟨q, hq, hs, h1⟩
        · omega
        · have := u1 q hq hs
          omega
      · obtain ⟨e3, e4⟩ := c2 j (List.mem_range.2 hj) hs
        rcases c1' with h1 | ⟨q, hq, hs, h1⟩
        · omega
        · have := u1 q hq hs
          omega
/-- Sums over patterns. -/
def sumW (g : Int → List Int → Int) (out : List Pt) : Int := (out.map fun p => g p.stock p.ps * p.times).sum
theorem sum_set {α : Type} [Inhabited α] (f : α → Int) {l : List α} {j : Nat} (h : j < l.length) (x : α) : ((l.set j x).map f).sum = (l.map f).sum - f (ix l j) + f x := by
  have e : l.set j x = l.take j ++ x :: l.drop (j + 1) := by rw [List.set_eq_take_append_cons_drop, if_pos h]
  have e2 : (l.map f).sum = ((l.take j).map f).sum + (f (ix l j) + ((l.drop (j + 1)).map f).sum) := by
    conv => lhs; rw [← List.take_append_drop j l, drop_ix h]
    rw [List.map_append, List.sum_append, List.map_cons, List.sum_cons]
  rw [e, List.map_append, List.sum_append, List.map_cons, List.sum_cons, e2]
  omega
theorem sumW_add (g : Int → List Int → Int) (out : List Pt) (b : Br) : sumW g (addPt out b) = sumW g out + g b.kind b.ps := by
  unfold addPt
  split
  · rename_i hc
    obtain ⟨h1, h2, h3⟩ := hc
    unfold sumW
    rw [sum_set _ (by omega)]
    simp only [upPt, h2, h3, Int.mul_add]
    omega
  · unfold sumW
    rw [List.map_append, List.sum_append]
    simp
theorem sumW_pat (g : Int → List Int → Int) (o : List Br) : sumW g (patL o) = (o.map fun b => g b.kind b.ps).sum := by
  have key : ∀ k, k ≤ o.length → sumW g (patL (o.take k)) = ((o.take k).map fun b => g b.kind b.ps).sum := by
    intro k
    induction k with
    | zero => intro _; simp [patL, sumW]
    | succ k ih =>
      intro hk
      rw [patT_succ (by omega), sumW_add, ih (by omega), take_snoc (by omega), List.map_append, List.sum_append]
      simp
  have := key o.length (Nat.le_refl _)
  rwa [List.take_length] at this
theorem sum_one {α : Type} (o : List α) : (o.map fun _ => (1 : Int)).sum = o.length := by
  induction o with
  | nil => rfl
  | cons a o ih => rw [List.map_cons, List.sum_cons, ih, List.length_cons]; omega
theorem sum_nn {α : Type} {f : α → Int} {o : List α} (h : ∀ b ∈ o, 0 ≤ f b) : 0 ≤ (o.map f).sum := by
  refine sum_nonneg fun w hw => ?_
  obtain ⟨b, hb, rfl⟩ := List.mem_map.1 hw
  exact h b hb
theorem sum_ge {α : Type} {f : α → Int} {o : List α} (h : ∀ b ∈ o, 0 ≤ f b) {b : α} (hb : b ∈ o) : f b ≤ (o.map f).sum := by
  induction o with
  | nil => cases hb
  | cons a o ih =>
    rw [List.map_cons, List.sum_cons]
    have h1 := h a List.mem_cons_self
    have h2 := sum_nn (f := f) (o := o) fun c hc => h c (List.mem_cons_of_mem _ hc)
    rcases List.mem_cons.1 hb with rfl | hb
    · omega
    · have := ih (fun c hc => h c (List.mem_cons_of_mem _ hc)) hb; omega
theorem okN_of : ∀ {l : List Pc} {ns : List Int}, (∀ i, i < l.length → i < ns.length → 0 ≤ ix ns i ∧ ix ns i ≤ (ix l i).cnt) → okN l ns = true
  | [], [], _ => rfl
  | [], _ :: _, _ => rfl
  | _ :: _, [], _ => rfl
  | p :: l, n :: ns, h => by
    have h0 := h 0 (by simp) (by simp)
    simp only [okN, Bool.and_eq_true, decide_eq_true_eq]
    exact ⟨⟨h0.1, h0.2⟩, okN_of fun i hi hi2 => h (i + 1) (by simpa using hi) (by simpa using hi2)⟩
/-- Lengths in use that yield just what is ordered. -/
structure Bars (s l : List Pc) (o : List Br) : Prop where
  len : o.length ≤ 1000
  bar : ∀ b ∈ o, 0 ≤ b.kind ∧ b.kind < s.length ∧ b.ps.length = l.length ∧ (∀ i, i < l.length → 0 ≤ ix b.ps i) ∧ dotL l b.ps ≤ (ix s b.kind.toNat).len
  sum : ∀ i, i < l.length → (o.map fun b => ix b.ps i).sum = (ix l i).cnt
  use : ∀ j : Nat, j < s.length → (ix s j).cnt < 0 ∨ (o.map fun b => if b.kind = (j : Int) then (1 : Int) else 0).sum ≤ (ix s j).cnt
theorem patL_ok {Q : List Int → Prop} {o : List Br} (h : ∀ b ∈ o, Q b.ps) : PtOk Q o.length (patL o) := by
  have := patT_ok h o.length (Nat.le_refl _)
  rwa [List.take_length] at this
/-- Each pattern is that of a length in use. -/
theorem pat_mem {o : List Br} : ∀ p ∈ patL o, ∃ b ∈ o, b.kind = p.stock ∧ b.ps = p.ps := by
  have key : ∀ k, k ≤ o.length → ∀ p ∈ patL (o.take k), ∃ b ∈ o, b.kind = p.stock ∧ b.ps = p.ps := by
    intro k
    induction k with
    | zero => intro _ p hp; simp [patL] at hp
    | succ k ih =>
      intro hk p hp
      rw [patT_succ (by omega)] at hp
      unfold addPt at hp
      split at hp
      · rename_i hc
        rcases List.mem_or_eq_of_mem_set hp with hp | rfl
        · exact ih (by omega) p hp
        · exact ⟨ix o k, ix_mem (by omega), hc.2.1.symm, hc.2.2.symm⟩
      · rcases List.mem_append.1 hp with hp | hp
        · exact ih (by omega) p hp
        · simp only [List.mem_singleton] at hp
          subst hp
          exact ⟨ix o k, ix_mem (by omega), rfl, rfl⟩
  intro p hp
  exact key o.length (Nat.le_refl _) p (by rwa [List.take_length])
theorem bars_plan {s l : List Pc} {o : List Br} (h : Bars s l o) : planB s (patL o) = true := by
  have hk := patL_ok (Q := fun _ => True) (o := o) fun _ _ => trivial
  refine plan_yes (by have := hk.len; have := h.len; omega) fun k hk2 => ?_
  have hm := ix_mem hk2
  obtain ⟨b, hb, e1, e2⟩ := pat_mem _ hm
  obtain ⟨b1, b2, _⟩ := h.bar b hb
  have ht := hk.times _ hm
  have := h.len
  simp only [nopB, Bool.or_eq_false_iff, decide_eq_false_iff_not]
  omega
theorem timesT_pat (o : List Br) : timesT (patL o) (patL o).length = o.length := by
  have := sumW_pat (fun _ _ => 1) o
  unfold sumW at this
  rw [sum_one] at this
  unfold timesT
  rw [List.take_length, ← this]
  congr 1
  refine List.map_congr_left fun p _ => ?_
  exact (Int.one_mul _).symm
theorem lensT_pat (s : List Pc) (o : List Br) : lensT s (patL o) (patL o).length = (o.map fun b => (ix s b.kind.toNat).len).sum := by
  have := sumW_pat (fun k _ => (ix s k.toNat).len) o
  unfold sumW at this
  unfold lensT
  rw [List.take_length, ← this]
  congr 1
  refine List.map_congr_left fun p _ => ?_
  rw [Int.mul_comm]
theorem bars_right {s l : List Pc} {o : List Br} (h : Bars s l o) : rightB s l (patL o) = true := by
  refine right_yes.2 ⟨bars_plan h, fun k hk => ?_, fun i hi => ?_, fun j hj => ?_⟩
  · obtain ⟨b, hb, e1, e2⟩ := pat_mem _ (ix_mem hk)
    obtain ⟨b1, b2, b3, b4, b5⟩ := h.bar b hb
    unfold fitP fitsB
    rw [← e1, ← e2]
    simp only [Bool.and_eq_true, decide_eq_true_eq]
    refine ⟨b3, okN_of fun i hi _ => ⟨b4 i hi, ?_⟩, b5⟩
    rw [← h.sum i hi]
    exact sum_ge (f := fun b : Br => ix b.ps i) (fun c hc => (h.bar c hc).2.2.2.1 i hi) hb
  · have := sumW_pat (fun _ ps => ix ps i) o
    unfold sumW at this
    unfold madeT
    rw [List.take_length, this]
    exact h.sum i hi
  · have := sumW_pat (fun k _ => if k = (j : Int) then 1 else 0) o
    unfold sumW at this
    have e : usedT (patL o) (patL o).length j = (o.map fun b => if b.kind = (j : Int) then (1 : Int) else 0).sum := by
      unfold usedT
      rw [List.take_length, ← this]
      congr 1
      refine List.map_congr_left fun p _ => ?_
      simp only
      split
      · rw [Int.one_mul]
      · rw [Int.zero_mul]
    rw [e]
    exact h.use j hj
theorem dot_set : ∀ {l : List Pc} {ns : List Int} {i : Nat}, i < l.length → i < ns.length → dotL l (ns.set i (ix ns i + 1)) = dotL l ns + (ix l i).len
  | p :: l, n :: ns, 0, _, _ => by
    have e1 : ix (n :: ns) 0 = n := rfl
    have e2 : ix (p :: l) 0 = p := rfl
    rw [e1, e2]
    simp only [List.set_cons_zero, dotL, Int.add_mul, Int.one_mul]
    omega
  | p :: l, n :: ns, i + 1, h1, h2 => by
    have ih := dot_set (l := l) (ns := ns) (i := i) (by simpa using h1) (by simpa using h2)
    have e1 : ix (n :: ns) (i + 1) = ix ns i := rfl
    have e2 : ix (p :: l) (i + 1) = ix l i := rfl
    rw [e1, e2]
    simp only [List.set_cons_succ, dotL, ih]
    omega
theorem dot_zeros : ∀ (l : List Pc) (n : Nat), dotL l (zeros n) = 0
  | [], n => by simp [dotL]
  | p :: l, 0 => by simp [zeros, dotL]
  | p :: l, n + 1 => by
    have ih := dot_zeros l n
    have e : zeros (n + 1) = 0 :: zeros n := rfl
    rw [e, dotL, ih]; omega
/-- A length in use, cut as it says. -/
structure BarOk (s l : List Pc) (b : Br) : Prop where
  k0 : 0 ≤ b.kind
  k1 : b.kind < s.length
  ps : b.ps.length = l.length
  nn : ∀ i, i < l.length → 0 ≤ ix b.ps i
  left : b.left = (ix s b.kind.toNat).len - dotL l b.ps
  l0 : 0 ≤ b.left
theorem barOk_new {s l : List Pc} {k : Int} (h0 : 0 ≤ k) (h1 : k < s.length) (h2 : 0 ≤ (ix s k.toNat).len) : BarOk s l ⟨k, (ix s k.toNat).len, zeros l.length⟩ :=
  ⟨h0, h1, zeros_len _, fun i _ => by simp only [zeros_ix]; omega, by simp only [dot_zeros]; omega, h2⟩
theorem barOk_cut {s l : List Pc} {b : Br} {i : Int} (h : BarOk s l b) (hi : 0 ≤ i ∧ i < l.length) (hf : (ix l i.toNat).len ≤ b.left) : BarOk s l (cutB i (ix l i.toNat).len b) := by
  have hps := h.ps
  refine ⟨h.k0, h.k1, by simp only [cutB, List.length_set]; exact h.ps, fun j hj => ?_, ?_, by simp only [cutB]; omega⟩
  · have := h.nn j hj
    simp only [cutB]
    by_cases e : j = i.toNat
    · subst e; rw [ix_set_self (by omega)]; omega
    · rw [ix_set_ne e]; exact this
  · simp only [cutB]
    rw [dot_set (by omega) (by omega), h.left]
    omega
theorem sum_cut {l : List Pc} {o : List Br} {f : Nat} {i n : Int} (hf : f < o.length) (hi : 0 ≤ i ∧ i < l.length) (hps : (ix o f).ps.length = l.length) (j : Nat) : ((o.set f (cutB i n (ix o f))).map fun b => ix b.ps j).sum = (o.map fun b => ix b.ps j).sum + if (j : Int) = i then 1 else 0 := by
  rw [sum_set _ hf]
  simp only [cutB]
  by_cases e : j = i.toNat
  · subst e; rw [ix_set_self (by omega), if_pos (by omega)]; omega
  · rw [ix_set_ne e, if_neg (by omega)]; omega
theorem sum_new {l : List Pc} {o : List Br} {k r i n : Int} (hi : 0 ≤ i ∧ i < l.length) (j : Nat) : ((o ++ [cutB i n ⟨k, r, zeros l.length⟩]).map fun b => ix b.ps j).sum = (o.map fun b => ix b.ps j).sum + if (j : Int) = i then 1 else 0 := by
  rw [List.map_append, List.sum_append, List.map_cons, List.map_nil, List.sum_cons, List.sum_nil]
  simp only [cutB]
  by_cases e : j = i.toNat
  · subst e; rw [ix_set_self (by rw [zeros_len]; omega), zeros_ix, if_pos (by omega)]; omega
  · rw [ix_set_ne e, zeros_ix, if_neg (by omega)]; omega
/-- What holds of the search's lengths all the way: the pieces in them and those that are left are all. -/
structure VisOk (s l : List Pc) (x : List Int) (o : List Br) : Prop where
  bar : ∀ b ∈ o, BarOk s l b ∧ b.kind = 0
  sum : ∀ i : Nat, i < l.length → (o.map fun b => ix b.ps i).sum + x.count (i : Int) = (ix l i).cnt
theorem fold_inv {α β : Type} {Q : β → Prop} {f : β → α → β} : ∀ (js : List α) (b : β), Q b → (∀ j ∈ js, ∀ b, Q b → Q (f b j)) → Q (js.foldl f b)
  | [], _, h, _ => h
  | j :: js, b, h, hs => fold_inv js (f b j) (hs j List.mem_cons_self b h) fun j hj => hs j (List.mem_cons_of_mem _ hj)
theorem cnt_cons (i : Int) (x : List Int) (j : Nat) : (((i :: x).count (j : Int) : Nat) : Int) = x.count (j : Int) + if (j : Int) = i then 1 else 0 := by
  rw [List.count_cons]
  by_cases e : (j : Int) = i
  · rw [if_pos e, if_pos (by simp [e])]; omega
  · rw [if_neg e, if_neg (by simp; omega)]; omega
theorem vis_ok {l : List Pc} {lim : Int} (h0 : 0 ≤ lim) : ∀ (x : List Int) (L B : List Br), (∀ i ∈ x, 0 ≤ i ∧ i < l.length ∧ (ix l i.toNat).len ≤ lim) → VisOk [⟨lim, -1⟩] l x L → (B = [] ∨ VisOk [⟨lim, -1⟩] l [] B) → VisOk [⟨lim, -1⟩] l [] (vis l lim x L B)
  | [], L, B, _, hL, hB => by
    simp only [vis]
    by_cases h : B ≠ [] ∧ B.length ≤ L.length
    · rw [if_pos h]
      exact hB.resolve_left h.1
    · rw [if_neg h]
      exact hL
  | i :: x, L, B, hx, hL, hB => by
    have hxs : ∀ i ∈ x, 0 ≤ i ∧ i < l.length ∧ (ix l i.toNat).len ≤ lim := fun j hj => hx j (List.mem_cons_of_mem _ hj)
    obtain ⟨i1, i2, i3⟩ := hx i List.mem_cons_self
    simp only [vis]
    by_cases h : B ≠ [] ∧ B.length ≤ L.length
    · rw [if_pos h]
      exact hB.resolve_left h.1
    · rw [if_neg h]
      refine vis_ok h0 x _ _ hxs ⟨fun b hb => ?_, fun j hj => ?_⟩ (fold_inv (Q := fun B => B = [] ∨ VisOk [⟨lim, -1⟩] l [] B) _ _ hB fun j hj B hB => ?_)
      · rcases List.mem_append.1 hb with hb | hb
        · exact hL.bar b hb
        · simp only [List.mem_singleton] at hb
          subst hb
          exact ⟨barOk_cut (barOk_new (s := [⟨lim, -1⟩]) (l := l) (k := 0) (Int.le_refl _) (by simp) h0) ⟨i1, i2⟩ i3, rfl⟩
      · have h1 := hL.sum j hj
        have h2 := cnt_cons i x j
        unfold newB
        rw [sum_new ⟨i1, i2⟩ j]
        omega
      · have hj := List.mem_range.1 hj
        cases hs : skipL (ix l i.toNat).len L j with
        | true => simpa using hB
        | false =>
          simp only [Bool.false_eq_true, if_false]
          have hbj := hL.bar _ (ix_mem hj)
          refine .inr (vis_ok h0 x _ B hxs ⟨fun b hb => ?_, fun q hq => ?_⟩ hB)
          · rcases List.mem_or_eq_of_mem_set hb with hb | rfl
            · exact hL.bar b hb
            · exact ⟨barOk_cut hbj.1 ⟨i1, i2⟩ (skip_fits hs), hbj.2⟩
          · have h1 := hL.sum q hq
            have h2 := cnt_cons i x q
            rw [sum_cut hj ⟨i1, i2⟩ hbj.1.ps q]
            omega
theorem visOk_bars {l : List Pc} {lim : Int} {o : List Br} (h : VisOk [⟨lim, -1⟩] l [] o) (hl : o.length ≤ 1000) : Bars [⟨lim, -1⟩] l o := by
  refine ⟨hl, fun b hb => ?_, fun i hi => ?_, fun j hj => ?_⟩
  · obtain ⟨hb, _⟩ := h.bar b hb
    have := hb.left
    have := hb.l0
    exact ⟨hb.k0, hb.k1, hb.ps, hb.nn, by omega⟩
  · have := h.sum i hi
    simpa using this
  · left
    obtain rfl : j = 0 := by simpa using hj
    show (-1 : Int) < 0
    decide
end Go.Proofs.Ythlpfjcjfhdmaaa
