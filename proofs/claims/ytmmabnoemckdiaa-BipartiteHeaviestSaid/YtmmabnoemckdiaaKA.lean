/- Plain law: matchings and covers of bipartite graphs. -/
set_option maxRecDepth 100000
set_option linter.unusedSimpArgs false
set_option linter.unusedVariables false
namespace Go.Proofs.Ytmmabnoemckdiaa.Bip
/-- How many numbers below n have a property. -/
def cnt : Nat → (Nat → Bool) → Nat
  | 0, _ => 0
  | n + 1, p => cnt n p + (bif p n then 1 else 0)
theorem cnt_le (p : Nat → Bool) : ∀ n, cnt n p ≤ n
  | 0 => Nat.le_refl _
  | n + 1 => by have := cnt_le p n; simp only [cnt]; cases p n <;> simp <;> omega
theorem cnt_congr {p q : Nat → Bool} : ∀ {n : Nat}, (∀ i, i < n → p i = q i) → cnt n p = cnt n q
  | 0, _ => rfl
  | n + 1, h => by simp only [cnt]; rw [cnt_congr fun i hi => h i (by omega), h n (by omega)]
theorem cnt_mono {p q : Nat → Bool} : ∀ {n : Nat}, (∀ i, i < n → p i = true → q i = true) → cnt n p ≤ cnt n q
  | 0, _ => Nat.le_refl _
  | n + 1, h => by
    have ih := cnt_mono (p := p) (q := q) (n := n) fun i hi => h i (by omega)
    have := h n (by omega)
    simp only [cnt]
    cases hp : p n <;> cases hq : q n <;> simp_all <;> omega
theorem cnt_split (p q : Nat → Bool) : ∀ n, cnt n p = cnt n (fun i => p i && q i) + cnt n (fun i => p i && !q i)
  | 0 => rfl
  | n + 1 => by
    have ih := cnt_split p q n
    simp only [cnt]
    cases p n <;> cases q n <;> simp <;> omega
theorem cnt_none {p : Nat → Bool} : ∀ {n : Nat}, (∀ i, i < n → p i = false) → cnt n p = 0
  | 0, _ => rfl
  | n + 1, h => by have ih := cnt_none (p := p) (n := n) fun i hi => h i (by omega); simp [cnt, ih, h n (by omega)]
theorem cnt_all {p : Nat → Bool} : ∀ {n : Nat}, (∀ i, i < n → p i = true) → cnt n p = n
  | 0, _ => rfl
  | n + 1, h => by have ih := cnt_all (p := p) (n := n) fun i hi => h i (by omega); simp [cnt, ih, h n (by omega)]
theorem cnt_zero {p : Nat → Bool} : ∀ {n : Nat}, cnt n p = 0 → ∀ i, i < n → p i = false
  | n + 1, h, i, hi => by
    simp only [cnt] at h
    cases hp : p n with
    | true => rw [hp] at h; simp at h
    | false =>
      rcases Nat.lt_succ_iff_lt_or_eq.1 hi with h2 | rfl
      · exact cnt_zero (by omega) i h2
      · exact hp
theorem cnt_pos {p : Nat → Bool} : ∀ {n : Nat}, 0 < cnt n p → ∃ i, i < n ∧ p i = true
  | n + 1, h => by
    simp only [cnt] at h
    cases hp : p n with
    | true => exact ⟨n, by omega, hp⟩
    | false =>
      rw [hp] at h
      obtain ⟨i, h1, h2⟩ := cnt_pos (n := n) (by simpa using h)
      exact ⟨i, by omega, h2⟩
/-- One place changed. -/
def upd {α : Type} (f : Nat → α) (j : Nat) (x : α) (k : Nat) : α := bif k == j then x else f k
theorem upd_same {α : Type} (f : Nat → α) (j : Nat) (x : α) : upd f j x j = x := by simp [upd]
theorem upd_ne {α : Type} (f : Nat → α) {j k : Nat} (x : α) (h : k ≠ j) : upd f j x k = f k := by
  have : (k == j) = false := by simpa using h
  simp [upd, this]
theorem cnt_upd {p : Nat → Bool} (b : Bool) : ∀ {n j : Nat}, j < n → cnt n (upd p j b) + (bif p j then 1 else 0) = cnt n p + (bif b then 1 else 0)
  | n + 1, j, h => by
    simp only [cnt]
    rcases Nat.lt_succ_iff_lt_or_eq.1 h with h2 | rfl
    · have ih := cnt_upd (p := p) b h2
      rw [upd_ne p b (by omega : n ≠ j)]
      omega
    · have e : cnt j (upd p j b) = cnt j p := cnt_congr fun i hi => upd_ne p b (by omega)
      rw [upd_same, e]
      omega
/-- A relation that takes each number of one side to one of the other, no two to the same. -/
theorem cnt_inj {a : Nat → Bool} (R : Nat → Nat → Prop) {n : Nat} : ∀ {m : Nat} {q : Nat → Bool}, (∀ i, i < n → a i = true → ∃ j, j < m ∧ q j = true ∧ R i j) → (∀ i i' j, i < n → i' < n → j < m → a i = true → a i' = true → R i j → R i' j → i = i') → cnt n a ≤ cnt m q
  | 0, q, h, _ => by
    rw [cnt_none fun i hi => by
      cases ha : a i with
      | false => rfl
      | true => obtain ⟨j, hj, _⟩ := h i hi ha; omega]
    exact Nat.zero_le _
  | m + 1, q, h, hR => by
    by_cases hq : ∃ i, i < n ∧ a i = true ∧ R i m ∧ q m = true
    · obtain ⟨i0, h0, ha0, hr0, hqm⟩ := hq
      have e := cnt_upd (p := a) false h0
      rw [ha0] at e
      have ih := cnt_inj (a := upd a i0 false) R (n := n) (m := m) (q := q) (fun i hi ha => by
        by_cases hi0 : i = i0
        · subst hi0; rw [upd_same] at ha; cases ha
        · rw [upd_ne a false hi0] at ha
          obtain ⟨j, h1, h2, h3⟩ := h i hi ha
          by_cases hj : j = m
          · subst hj; exact absurd (hR i i0 j hi h0 (by omega) ha ha0 h3 hr0) hi0
          · exact ⟨j, by omega, h2, h3⟩) (fun i i' j hi hi' hj ha ha' r r' => by
        by_cases hi0 : i = i0
        · subst hi0; rw [upd_same] at ha; cases ha
        · by_cases hi1 : i' = i0
          · subst hi1; rw [upd_same] at ha'; cases ha'
          · rw [upd_ne a false hi0] at ha
            rw [upd_ne a false hi1] at ha'
            exact hR i i' j hi hi' (by omega) ha ha' r r')
      simp only [cnt, hqm]
      simp at e ⊢
      omega
    · have ih := cnt_inj (a := a) R (n := n) (m := m) (q := q) (fun i hi ha => by
        obtain ⟨j, h1, h2, h3⟩ := h i hi ha
        by_cases hj : j = m
        · subst hj; exact absurd ⟨i, hi, ha, h3, h2⟩ hq
        · exact ⟨j, by omega, h2, h3⟩) (fun i i' j hi hi' hj => hR i i' j hi hi' (by omega))
      simp only [cnt]
      omega
/- ===== matchings and covers ===== -/
/-- 'pt' has the left node of each right one, or a number below 0. -/
structure Mat (E : Nat → Nat → Bool) (n m : Nat) (pt : Nat → Int) : Prop where
  edge : ∀ j, j < m → 0 ≤ pt j → (pt j).toNat < n ∧ E (pt j).toNat j = true
  inj : ∀ j j', j < m → j' < m → 0 ≤ pt j → pt j = pt j' → j = j'
def msize (m : Nat) (pt : Nat → Int) : Nat := cnt m fun j => decide (0 ≤ pt j)
structure Cov (E : Nat → Nat → Bool) (n m : Nat) (a b : Nat → Bool) : Prop where
  all : ∀ i j, i < n → j < m → E i j = true → a i = true ∨ b j = true
/-- **No matching has more edges than a cover has nodes.** -/
theorem weak {E : Nat → Nat → Bool} {n m : Nat} {pt : Nat → Int} {a b : Nat → Bool} (hm : Mat E n m pt) (hc : Cov E n m a b) : msize m pt ≤ cnt n a + cnt m b := by
  unfold msize
  rw [cnt_split _ b m]
  have h1 : cnt m (fun j => decide (0 ≤ pt j) && b j) ≤ cnt m b := cnt_mono fun j _ h => by simp at h; exact h.2
  have h2 : cnt m (fun j => decide (0 ≤ pt j) && !b j) ≤ cnt n a := by
    refine cnt_inj (fun j i => pt j = i) (fun j hj h => ?_) fun j j' i hj hj' _ h _ e e' => ?_
    · simp at h
      obtain ⟨q1, q2⟩ := hm.edge j hj h.1
      refine ⟨(pt j).toNat, q1, ?_, by omega⟩
      rcases hc.all _ _ q1 hj q2 with q | q
      · exact q
      · rw [h.2] at q; cases q
    · simp at h
      exact hm.inj j j' hj hj' h.1 (by omega)
  omega
/-- The number of edges of a greatest matching. -/
structure Nu (E : Nat → Nat → Bool) (n m k : Nat) : Prop where
  mat : ∃ pt, Mat E n m pt ∧ msize m pt = k
  cov : ∃ a b, Cov E n m a b ∧ cnt n a + cnt m b = k
theorem Nu.uniq {E : Nat → Nat → Bool} {n m k k' : Nat} (h : Nu E n m k) (h' : Nu E n m k') : k = k' := by
  obtain ⟨⟨p, h1, h2⟩, a, b, h3, h4⟩ := h
  obtain ⟨⟨p', h1', h2'⟩, a', b', h3', h4'⟩ := h'
  have := weak h1 h3'
  have := weak h1' h3
  omega
theorem Nu.sub {E E' : Nat → Nat → Bool} {n m k k' : Nat} (h : Nu E n m k) (h' : Nu E' n m k') (hs : ∀ i j, i < n → j < m → E i j = true → E' i j = true) : k ≤ k' := by
  obtain ⟨⟨p, h1, h2⟩, _⟩ := h
  obtain ⟨_, a', b', h3', h4'⟩ := h'
  have := weak (E := E') (pt := p) ⟨fun j hj h0 => ⟨(h1.edge j hj h0).1, hs _ _ (h1.edge j hj h0).1 hj (h1.edge j hj h0).2⟩, h1.inj⟩ h3'
  omega
theorem Nu.congr {E E' : Nat → Nat → Bool} {n m k : Nat} (h : Nu E n m k) (hs : ∀ i j, i < n → j < m → E i j = E' i j) : Nu E' n m k := by
  obtain ⟨⟨p, h1, h2⟩, a, b, h3, h4⟩ := h
  exact ⟨⟨p, ⟨fun j hj h0 => ⟨(h1.edge j hj h0).1, by rw [← hs _ _ (h1.edge j hj h0).1 hj]; exact (h1.edge j hj h0).2⟩, h1.inj⟩, h2⟩, a, b, ⟨fun i j hi hj h => h3.all i j hi hj (by rw [hs i j hi hj]; exact h)⟩, h4⟩
/- ===== the search ===== -/
structure Sg where
  pt : Nat → Int
  sn : Nat → Bool
def tryL (rec : Nat → Sg → Bool × Sg) (i : Nat) : List Int → Sg → Bool × Sg
  | [], st => (false, st)
  | x :: js, st =>
    bif st.sn x.toNat then tryL rec i js st else
    bif decide (st.pt x.toNat < 0) then (true, ⟨upd st.pt x.toNat i, upd st.sn x.toNat true⟩) else
    match rec (st.pt x.toNat).toNat ⟨st.pt, upd st.sn x.toNat true⟩ with
    | (true, st2) => (true, ⟨upd st2.pt x.toNat i, st2.sn⟩)
    | (false, st2) => tryL rec i js st2
def growF (near : Nat → List Int) : Nat → Nat → Sg → Bool × Sg
  | 0, _, st => (false, st)
  | f + 1, i, st => tryL (growF near f) i (near i) st
/-- What a search leaves as it was. -/
structure Keeps (st : Sg) (r : Bool × Sg) : Prop where
  seen : ∀ j, st.sn j = true → r.2.sn j = true ∧ r.2.pt j = st.pt j
  fail : r.1 = false → r.2.pt = st.pt
theorem Keeps.refl (st : Sg) : Keeps st (false, st) := ⟨fun _ h => ⟨h, rfl⟩, fun _ => rfl⟩
theorem try_keeps {rec : Nat → Sg → Bool × Sg} (hr : ∀ k s, Keeps s (rec k s)) (i : Nat) : ∀ (l : List Int) (st : Sg), Keeps st (tryL rec i l st)
  | [], st => Keeps.refl st
  | x :: js, st => by
    rw [tryL]
    cases hs : st.sn x.toNat with
    | true => exact try_keeps hr i js st
    | false =>
      simp only [cond_false]
      cases hp : decide (st.pt x.toNat < 0) with
      | true =>
        refine ⟨fun j hj => ?_, fun h => by cases h⟩
        have : j ≠ x.toNat := fun e => by subst e; rw [hs] at hj; cases hj
        exact ⟨by show upd st.sn x.toNat true j = true; rw [upd_ne _ _ this]; exact hj, upd_ne _ _ this⟩
      | false =>
        simp only [cond_false]
        have h1 := hr (st.pt x.toNat).toNat ⟨st.pt, upd st.sn x.toNat true⟩
        split
        · rename_i st2 e
          rw [e] at h1
          refine ⟨fun j hj => ?_, fun h => by cases h⟩
          have : j ≠ x.toNat := fun e => by subst e; rw [hs] at hj; cases hj
          obtain ⟨q1, q2⟩ := h1.seen j (by show upd st.sn x.toNat true j = true; rw [upd_ne _ _ this]; exact hj)
          exact ⟨q1, by show upd st2.pt x.toNat i j = _; rw [upd_ne _ _ this]; exact q2⟩
        · rename_i st2 e
          rw [e] at h1
          have h2 := try_keeps hr i js st2
          have e2 : st2.pt = st.pt := h1.fail rfl
          refine ⟨fun j hj => ?_, fun h => by rw [h2.fail h, e2]⟩
          have : j ≠ x.toNat := fun e => by subst e; rw [hs] at hj; cases hj
          obtain ⟨q1, q2⟩ := h1.seen j (by show upd st.sn x.toNat true j = true; rw [upd_ne _ _ this]; exact hj)
          obtain ⟨q3, q4⟩ := h2.seen j q1
          exact ⟨q3, by rw [q4, e2]⟩
theorem grow_keeps (near : Nat → List Int) : ∀ (f i : Nat) (st : Sg), Keeps st (growF near f i st)
  | 0, _, st => Keeps.refl st
  | f + 1, i, st => try_keeps (fun k s => grow_keeps near f k s) i (near i) st
/-- A search that fails has seen all that it could. -/
def unseen (m : Nat) (st : Sg) : Nat := cnt m fun j => !st.sn j
structure Closed (near : Nat → List Int) (l : List Int) (st st' : Sg) : Prop where
  all : ∀ x ∈ l, st'.sn x.toNat = true
  tree : ∀ j, st'.sn j = true → st.sn j = false → 0 ≤ st.pt j ∧ ∀ x ∈ near (st.pt j).toNat, st'.sn x.toNat = true
theorem unseen_mark {m : Nat} {st : Sg} {j : Nat} (hj : j < m) (h : st.sn j = false) : unseen m ⟨st.pt, upd st.sn j true⟩ + 1 = unseen m st := by
  have := cnt_upd (p := fun j => !st.sn j) false hj
  unfold unseen
  simp only [h, Bool.not_false, cond_true, cond_false, Nat.add_zero] at this
  rw [← this]
  congr 1
  refine cnt_congr fun i _ => ?_
  by_cases e : i = j
  · subst e; rw [upd_same]; simp [upd_same]
  · rw [upd_ne _ _ e]; simp [upd_ne _ _ e]
theorem unseen_le {m : Nat} {st st' : Sg} (h : ∀ j, st.sn j = true → st'.sn j = true) : unseen m st' ≤ unseen m st :=
  cnt_mono fun j _ hj => by
    cases hs : st.sn j with
    | false => rfl
    | true => rw [h j hs] at hj; exact hj
theorem try_closed {near : Nat → List Int} {m f : Nat} {rec : Nat → Sg → Bool × Sg} (hk : ∀ k s, Keeps s (rec k s)) (hr : ∀ k s s', unseen m s < f → rec k s = (false, s') → Closed near (near k) s s') (i : Nat) :
    ∀ (l : List Int) (st st' : Sg), (∀ x ∈ l, x.toNat < m) → unseen m st < f + 1 → tryL rec i l st = (false, st') → Closed near l st st'
  | [], st, st', _, _, h => by
    cases h
    exact ⟨fun x hx => by simp at hx, fun j h1 h2 => by rw [h1] at h2; cases h2⟩
  | x :: js, st, st', hl, hu, h => by
    rw [tryL] at h
    cases hs : st.sn x.toNat with
    | true =>
      rw [hs] at h
      have ih := try_closed hk hr i js st st' (fun y hy => hl y (List.mem_cons_of_mem _ hy)) hu h
      have hk2 := try_keeps hk i js st
      have h : tryL rec i js st = (false, st') := h
      rw [h] at hk2
      refine ⟨fun y hy => ?_, ih.tree⟩
      rcases List.mem_cons.1 hy with rfl | hy
      · exact (hk2.seen _ hs).1
      · exact ih.all y hy
    | false =>
      rw [hs] at h
      simp only [cond_false] at h
      cases hp : decide (st.pt x.toNat < 0) with
      | true => rw [hp] at h; cases h
      | false =>
        rw [hp] at h
        simp only [cond_false] at h
        have hx := hl x List.mem_cons_self
        have hm := unseen_mark hx hs
        split at h
        · cases h
        · rename_i st2 e
          have hk1 := hk (st.pt x.toNat).toNat ⟨st.pt, upd st.sn x.toNat true⟩
          rw [e] at hk1
          have hc := hr _ _ _ (by omega) e
          have hp2 : st2.pt = st.pt := hk1.fail rfl
          have hsub : ∀ j, st.sn j = true → st2.sn j = true := fun j hj => (hk1.seen j (by
            show upd st.sn x.toNat true j = true
            by_cases e : j = x.toNat
            · subst e; exact upd_same _ _ _
            · rw [upd_ne _ _ e]; exact hj)).1
          have hx2 : st2.sn x.toNat = true := (hk1.seen x.toNat (upd_same _ _ _)).1
          have ih := try_closed hk hr i js st2 st' (fun y hy => hl y (List.mem_cons_of_mem _ hy)) (by have := unseen_le (m := m) hsub; omega) h
          have hk2 := try_keeps hk i js st2
          rw [h] at hk2
          refine ⟨fun y hy => ?_, fun j h1 h2 => ?_⟩
          · rcases List.mem_cons.1 hy with rfl | hy
            · exact (hk2.seen _ hx2).1
            · exact ih.all y hy
          · cases hj2 : st2.sn j with
            | false =>
              have := ih.tree j h1 hj2
              rw [hp2] at this
              exact this
            | true =>
              by_cases ej : j = x.toNat
              · subst ej
                simp at hp
                exact ⟨hp, fun y hy => (hk2.seen _ (hc.all y hy)).1⟩
              · have := hc.tree j hj2 (by show upd st.sn x.toNat true j = false; rw [upd_ne _ _ ej]; exact h2)
                exact ⟨this.1, fun y hy => (hk2.seen _ (this.2 y hy)).1⟩
theorem grow_closed {near : Nat → List Int} {m : Nat} (hn : ∀ i, ∀ x ∈ near i, x.toNat < m) : ∀ (f i : Nat) (st st' : Sg), unseen m st < f → growF near f i st = (false, st') → Closed near (near i) st st'
  | 0, _, _, _, hu, _ => by omega
  | f + 1, i, st, st', hu, h => try_closed (fun k s => grow_keeps near f k s) (fun k s s' h1 h2 => grow_closed hn f k s s' h1 h2) i (near i) st st' (hn i) hu h
/-- A search that succeeds has given one more left node a partner. -/
def times (m : Nat) (pt : Nat → Int) (k : Nat) : Nat := cnt m fun j => decide (pt j = k)
structure Good (near : Nat → List Int) (n m : Nat) (pt : Nat → Int) : Prop where
  edge : ∀ j, j < m → 0 ≤ pt j → (pt j).toNat < n ∧ ∃ x ∈ near (pt j).toNat, x.toNat = j
structure Grown (near : Nat → List Int) (n m i : Nat) (st st' : Sg) : Prop where
  good : Good near n m st'.pt
  times : ∀ k, times m st'.pt k = times m st.pt k + (bif k == i then 1 else 0)
  more : msize m st'.pt = msize m st.pt + 1
theorem times_upd {m : Nat} {pt : Nat → Int} {j : Nat} (hj : j < m) (i k : Nat) : times m (upd pt j i) k + (bif decide (pt j = k) then 1 else 0) = times m pt k + (bif k == i then 1 else 0) := by
  have := cnt_upd (p := fun j => decide (pt j = k)) (k == i) hj
  unfold times
  rw [← this]
  congr 1
  refine cnt_congr fun q _ => ?_
  by_cases e : q = j
  · subst e
    rw [upd_same, upd_same, Bool.eq_iff_iff]
    simp
    omega
  · rw [upd_ne _ _ e, upd_ne _ _ e]
theorem msize_upd {m : Nat} {pt : Nat → Int} {j : Nat} (hj : j < m) (x : Int) : msize m (upd pt j x) + (bif decide (0 ≤ pt j) then 1 else 0) = msize m pt + (bif decide (0 ≤ x) then 1 else 0) := by
  have := cnt_upd (p := fun j => decide (0 ≤ pt j)) (decide (0 ≤ x)) hj
  unfold msize
  rw [← this]
  congr 1
  refine cnt_congr fun q _ => ?_
  by_cases e : q = j
  · subst e; rw [upd_same, upd_same]
  · rw [upd_ne _ _ e, upd_ne _ _ e]
theorem good_upd {near : Nat → List Int} {n m : Nat} {pt : Nat → Int} (h : Good near n m pt) {i : Nat} (hi : i < n) {x : Int} (hx : x ∈ near i) : Good near n m (upd pt x.toNat i) := ⟨fun j hj h0 => by
  by_cases e : j = x.toNat
  · subst e
    rw [upd_same]
    exact ⟨by simpa using hi, x, by simpa using hx, rfl⟩
  · rw [upd_ne _ _ e] at h0 ⊢
    exact h.edge j hj h0⟩
theorem try_grown {near : Nat → List Int} {n m : Nat} {rec : Nat → Sg → Bool × Sg} (hk : ∀ k s, Keeps s (rec k s)) (hr : ∀ k s s', k < n → Good near n m s.pt → rec k s = (true, s') → Grown near n m k s s') (i : Nat) (hi : i < n) :
    ∀ (l : List Int) (st st' : Sg), (∀ x ∈ l, x ∈ near i ∧ x.toNat < m) → Good near n m st.pt → tryL rec i l st = (true, st') → Grown near n m i st st'
  | [], st, st', _, _, h => by cases h
  | x :: js, st, st', hl, hg, h => by
    rw [tryL] at h
    have hl2 : ∀ y ∈ js, y ∈ near i ∧ y.toNat < m := fun y hy => hl y (List.mem_cons_of_mem _ hy)
    obtain ⟨hx, hxm⟩ := hl x List.mem_cons_self
    cases hs : st.sn x.toNat with
    | true =>
      rw [hs] at h
      exact try_grown hk hr i hi js st st' hl2 hg h
    | false =>
      rw [hs] at h
      simp only [cond_false] at h
      cases hp : decide (st.pt x.toNat < 0) with
      | true =>
        rw [hp] at h
        simp only [cond_true, Prod.mk.injEq, true_and] at h
        subst h
        simp at hp
        refine ⟨good_upd hg hi hx, fun k => ?_, ?_⟩
        · have := times_upd (pt := st.pt) hxm i k
          have e : decide (st.pt x.toNat = (k : Int)) = false := by simp; omega
          rw [e] at this
          simpa using this
        · have := msize_upd (pt := st.pt) hxm i
          have e : decide (0 ≤ st.pt x.toNat) = false := by simp; omega
          rw [e] at this
          simpa using this
      | false =>
        rw [hp] at h
        simp only [cond_false] at h
        simp at hp
        have hk1 := hk (st.pt x.toNat).toNat ⟨st.pt, upd st.sn x.toNat true⟩
        split at h
        · rename_i st2 e
          rw [e] at hk1
          simp only [Prod.mk.injEq, true_and] at h
          subst h
          have g := hr (st.pt x.toNat).toNat ⟨st.pt, upd st.sn x.toNat true⟩ st2 (hg.edge _ hxm hp).1 hg e
          have e2 : st2.pt x.toNat = st.pt x.toNat := (hk1.seen _ (upd_same _ _ _)).2
          refine ⟨good_upd g.good hi hx, fun k => ?_, ?_⟩
          · have h1 := times_upd (pt := st2.pt) hxm i k
            have h2 := g.times k
            simp only at h2
            rw [e2] at h1
            simp only
            have e3 : decide (st.pt x.toNat = (k : Int)) = (k == (st.pt x.toNat).toNat) := by rw [Bool.eq_iff_iff]; simp; omega
            rw [e3] at h1
            omega
          · have h1 := msize_upd (pt := st2.pt) hxm i
            have h2 := g.more
            simp only at h2
            rw [e2] at h1
            have e3 : decide (0 ≤ st.pt x.toNat) = true := by simpa using hp
            rw [e3] at h1
            simp at h1 ⊢
            omega
        · rename_i st2 e
          rw [e] at hk1
          have e2 : st2.pt = st.pt := hk1.fail rfl
          have g := try_grown hk hr i hi js st2 st' hl2 (by rw [e2]; exact hg) h
          exact ⟨g.good, fun k => by rw [g.times k, e2], by rw [g.more, e2]⟩
theorem grow_grown {near : Nat → List Int} {n m : Nat} (hn : ∀ i, ∀ x ∈ near i, x.toNat < m) : ∀ (f i : Nat) (st st' : Sg), i < n → Good near n m st.pt → growF near f i st = (true, st') → Grown near n m i st st'
  | 0, _, _, _, _, _, h => by cases h
  | f + 1, i, st, st', hi, hg, h => try_grown (fun k s => grow_keeps near f k s) (fun k s s' h1 h2 h3 => grow_grown hn f k s s' h1 h2 h3) i hi (near i) st st' (fun x hx => ⟨hx, hn i x hx⟩) hg h
/-- A closed set of right nodes stays as it is. -/
structure Shut (near : Nat → List Int) (tk U : Nat → Bool) (pt : Nat → Int) : Prop where
  base : ∀ j, tk j = true → U j = true
  out : ∀ j, U j = true → tk j = true ∨ (0 ≤ pt j ∧ ∀ x ∈ near (pt j).toNat, U x.toNat = true)
structure Stays (U : Nat → Bool) (pt : Nat → Int) (l : List Int) (r : Bool × Sg) : Prop where
  fail : (∀ x ∈ l, U x.toNat = true) → r.1 = false
  same : ∀ j, U j = true → r.2.pt j = pt j
theorem try_stays {near : Nat → List Int} {tk U : Nat → Bool} {pt : Nat → Int} (hU : Shut near tk U pt) {rec : Nat → Sg → Bool × Sg} (hk : ∀ k s, Keeps s (rec k s)) (hr : ∀ k s, s.pt = pt → (∀ j, tk j = true → s.sn j = true) → Stays U pt (near k) (rec k s)) (i : Nat) :
    ∀ (l : List Int) (st : Sg), st.pt = pt → (∀ j, tk j = true → st.sn j = true) → Stays U pt l (tryL rec i l st)
  | [], st, hp, _ => ⟨fun _ => rfl, fun j _ => by rw [← hp]; rfl⟩
  | x :: js, st, hp, ht => by
    rw [tryL]
    cases hs : st.sn x.toNat with
    | true =>
      have ih := try_stays hU hk hr i js st hp ht
      exact ⟨fun h => ih.fail fun y hy => h y (List.mem_cons_of_mem _ hy), ih.same⟩
    | false =>
      simp only [cond_false]
      have hnt : tk x.toNat ≠ true := fun e => by rw [ht _ e] at hs; cases hs
      cases hq : decide (st.pt x.toNat < 0) with
      | true =>
        simp at hq
        have hnu : U x.toNat ≠ true := fun e => by
          rcases hU.out _ e with h | h
          · exact hnt h
          · rw [← hp] at h; omega
        refine ⟨fun h => absurd (h x List.mem_cons_self) hnu, fun j hj => ?_⟩
        have : j ≠ x.toNat := fun e => by subst e; exact hnu hj
        show upd st.pt x.toNat (i : Int) j = _
        rw [upd_ne _ _ this, hp]
      | false =>
        simp only [cond_false]
        simp at hq
        have ht2 : ∀ j, tk j = true → upd st.sn x.toNat true j = true := fun j hj => by
          by_cases e : j = x.toNat
          · subst e; exact upd_same _ _ _
          · rw [upd_ne _ _ e]; exact ht j hj
        have h1 := hr (st.pt x.toNat).toNat ⟨st.pt, upd st.sn x.toNat true⟩ hp ht2
        have hk1 := hk (st.pt x.toNat).toNat ⟨st.pt, upd st.sn x.toNat true⟩
        split
        · rename_i st2 e
          rw [e] at h1
          have hnu : U x.toNat ≠ true := fun eu => by
            rcases hU.out _ eu with h | h
            · exact hnt h
            · rw [← hp] at h
              have := h1.fail h.2
              cases this
          refine ⟨fun h => absurd (h x List.mem_cons_self) hnu, fun j hj => ?_⟩
          have : j ≠ x.toNat := fun e => by subst e; exact hnu hj
          show upd st2.pt x.toNat (i : Int) j = _
          rw [upd_ne _ _ this]
          exact h1.same j hj
        · rename_i st2 e
          rw [e] at h1 hk1
          have e2 : st2.pt = pt := by rw [show st2.pt = st.pt from hk1.fail rfl, hp]
          have ih := try_stays hU hk hr i js st2 e2 fun j hj => (hk1.seen j (ht2 j hj)).1
          exact ⟨fun h => ih.fail fun y hy => h y (List.mem_cons_of_mem _ hy), ih.same⟩
theorem grow_stays {near : Nat → List Int} {tk U : Nat → Bool} {pt : Nat → Int} (hU : Shut near tk U pt) : ∀ (f i : Nat) (st : Sg), st.pt = pt → (∀ j, tk j = true → st.sn j = true) → Stays U pt (near i) (growF near f i st)
  | 0, _, st, hp, _ => ⟨fun _ => rfl, fun j _ => by rw [← hp]; rfl⟩
  | f + 1, i, st, hp, ht => try_stays hU (fun k s => grow_keeps near f k s) (fun k s h1 h2 => grow_stays hU f k s h1 h2) i (near i) st hp ht
/- ===== the size of a greatest matching ===== -/
def sizeL (near : Nat → List Int) (m : Nat) (tk : Nat → Bool) : List Nat → (Nat → Int) × Nat → (Nat → Int) × Nat
  | [], s => s
  | i :: l, s =>
    match growF near (m + 1) i ⟨s.1, tk⟩ with
    | (true, st) => sizeL near m tk l (st.pt, s.2 + 1)
    | (false, st) => sizeL near m tk l (st.pt, s.2)
structure InvK (near : Nat → List Int) (n m : Nat) (tk : Nat → Bool) (done : List Nat) (s : (Nat → Int) × Nat) (suc : Nat → Bool) (U : Nat → Bool) : Prop where
  good : Good near n m s.1
  free : ∀ j, tk j = true → s.1 j < 0
  times : ∀ k, times m s.1 k = bif suc k then 1 else 0
  size : msize m s.1 = s.2
  mem : ∀ k, suc k = true → k ∈ done
  shut : Shut near tk U s.1
  rest : ∀ k ∈ done, suc k = false → ∀ x ∈ near k, U x.toNat = true
theorem size_inv {near : Nat → List Int} {n m : Nat} {tk : Nat → Bool} (hn : ∀ i, ∀ x ∈ near i, x.toNat < m) : ∀ (l done : List Nat) (s : (Nat → Int) × Nat) (suc U : Nat → Bool), (done ++ l).Nodup → (∀ i ∈ l, i < n) → InvK near n m tk done s suc U →
    ∃ suc' U', InvK near n m tk (done ++ l) (sizeL near m tk l s) suc' U'
  | [], done, s, suc, U, _, _, h => ⟨suc, U, by simpa [sizeL] using h⟩
  | i :: l, done, s, suc, U, hd, hl, h => by
    have hi := hl i List.mem_cons_self
    have hl2 : ∀ k ∈ l, k < n := fun k hk => hl k (List.mem_cons_of_mem _ hk)
    have hnd : i ∉ done := fun hm => by
      rw [List.nodup_append] at hd
      exact hd.2.2 i hm i List.mem_cons_self rfl
    have hd2 : ((done ++ [i]) ++ l).Nodup := by simpa using hd
    have hk := grow_keeps near (m + 1) i ⟨s.1, tk⟩
    have hst := grow_stays h.shut (m + 1) i ⟨s.1, tk⟩ rfl fun j hj => hj
    rw [sizeL]
    rw [show done ++ i :: l = (done ++ [i]) ++ l by simp]
    cases hg : growF near (m + 1) i ⟨s.1, tk⟩ with
    | mk b st =>
    rw [hg] at hk hst
    cases b with
    | true =>
      have g := grow_grown hn (m + 1) i ⟨s.1, tk⟩ st hi h.good hg
      refine size_inv hn l (done ++ [i]) (st.pt, s.2 + 1) (upd suc i true) U hd2 hl2 ⟨g.good, fun j hj => by show st.pt j < 0; rw [(hk.seen j hj).2]; exact h.free j hj, fun k => ?_, by show msize m st.pt = _; rw [g.more]; show msize m s.1 + 1 = _; rw [h.size], fun k hk2 => ?_, ⟨h.shut.base, fun j hj => ?_⟩, fun k hkd hk2 => ?_⟩
      · rw [g.times k, h.times k]
        by_cases e : k = i
        · subst e
          rw [upd_same]
          have : suc k = false := by
            cases hs : suc k with
            | false => rfl
            | true => exact absurd (h.mem k hs) hnd
          simp [this]
        · rw [upd_ne _ _ e]
          have : (k == i) = false := by simpa using e
          simp [this]
      · by_cases e : k = i
        · subst e; simp
        · rw [upd_ne _ _ e] at hk2
          exact List.mem_append_left _ (h.mem k hk2)
      · have e := hst.same j hj
        simp only at e ⊢
        rw [e]
        exact h.shut.out j hj
      · rcases List.mem_append.1 hkd with hm | hm
        · by_cases e : k = i
          · subst e; exact absurd hm hnd
          · rw [upd_ne _ _ e] at hk2
            exact h.rest k hm hk2
        · simp at hm
          subst hm
          rw [upd_same] at hk2
          cases hk2
    | false =>
      have e2 : st.pt = s.1 := hk.fail rfl
      have c := grow_closed hn (m + 1) i ⟨s.1, tk⟩ st (by have := cnt_le (fun j => !tk j) m; show cnt m (fun j => !tk j) < m + 1; omega) hg
      refine size_inv hn l (done ++ [i]) (st.pt, s.2) suc (fun j => U j || st.sn j) hd2 hl2 ⟨by rw [e2]; exact h.good, by rw [e2]; exact h.free, by rw [e2]; exact h.times, by rw [e2]; exact h.size, fun k hk2 => List.mem_append_left _ (h.mem k hk2), ⟨fun j hj => by simp [h.shut.base j hj], fun j hj => ?_⟩, fun k hkd hk2 x hx => ?_⟩
      · simp only
        rw [e2]
        cases ht : tk j with
        | true => exact .inl rfl
        | false =>
          refine .inr ?_
          simp only [Bool.or_eq_true] at hj
          rcases hj with hj | hj
          · rcases h.shut.out j hj with h1 | h1
            · rw [ht] at h1; cases h1
            · exact ⟨h1.1, fun x hx => by simp [h1.2 x hx]⟩
          · have := c.tree j hj ht
            exact ⟨this.1, fun x hx => by simp [this.2 x hx]⟩
      · rcases List.mem_append.1 hkd with hm | hm
        · simp [h.rest k hm hk2 x hx]
        · simp at hm
          subst hm
          simp [c.all x hx]
def szOf (near : Nat → List Int) (m : Nat) (tk : Nat → Bool) (left : List Nat) : Nat := (sizeL near m tk left (fun _ => -1, 0)).2
/-- The graph of some left nodes, with right nodes that are not taken. -/
def eOf (near : Nat → List Int) (tk : Nat → Bool) (left : List Nat) (i j : Nat) : Bool := left.contains i && ((near i).any fun x => x.toNat == j) && !tk j
/-- **The search finds a greatest matching.** -/
theorem size_nu {near : Nat → List Int} {n m : Nat} {tk : Nat → Bool} {left : List Nat} (hn : ∀ i, ∀ x ∈ near i, x.toNat < m) (hl : ∀ i ∈ left, i < n) (hd : left.Nodup) : Nu (eOf near tk left) n m (szOf near m tk left) := by
  have t0 : ∀ k, times m (fun _ => (-1 : Int)) k = bif false then 1 else 0 := fun k => cnt_none fun j _ => by
    have e : ¬ ((-1 : Int) = (k : Int)) := by omega
    exact decide_eq_false e
  have s0 : msize m (fun _ => (-1 : Int)) = 0 := cnt_none fun j _ => by simp
  obtain ⟨suc, U, h⟩ := size_inv (tk := tk) hn left [] (fun _ => -1, 0) (fun _ => false) tk (by simpa using hd) hl
    ⟨⟨fun j _ h0 => absurd h0 (by simp)⟩, fun j _ => (by simp), t0, s0, fun k hk => (by cases hk), ⟨fun j hj => hj, fun j hj => .inl hj⟩, fun k hk => absurd hk List.not_mem_nil⟩
  simp only [List.nil_append] at h
  unfold szOf
  generalize sizeL near m tk left (fun _ => -1, 0) = s at h
  have inj : ∀ j j', j < m → j' < m → 0 ≤ s.1 j → s.1 j = s.1 j' → j = j' := fun j j' hj hj' h0 e => by
    by_cases ej : j = j'
    · exact ej
    · obtain ⟨i0, hi0⟩ : ∃ i0 : Nat, s.1 j = i0 := ⟨(s.1 j).toNat, by omega⟩
      have ht := h.times i0
      have h1 := cnt_upd (p := fun q => decide (s.1 q = (i0 : Int))) false hj
      have e1 : decide (s.1 j = (i0 : Int)) = true := by simpa using hi0
      rw [e1] at h1
      have h2 : 0 < cnt m (upd (fun q => decide (s.1 q = (i0 : Int))) j false) := by
        rcases Nat.eq_zero_or_pos (cnt m (upd (fun q => decide (s.1 q = (i0 : Int))) j false)) with h2 | h2
        · have := cnt_zero h2 j' hj'
          rw [upd_ne _ _ (Ne.symm ej)] at this
          simp at this
          omega
        · exact h2
      unfold Bip.times at ht
      have : (bif suc i0 then 1 else 0) ≤ 1 := by cases suc i0 <;> simp
      simp only [cond_true, cond_false] at h1
      omega
  have hs : ∀ j, j < m → 0 ≤ s.1 j → suc (s.1 j).toNat = true := fun j hj h0 => by
    cases hc : suc (s.1 j).toNat with
    | true => rfl
    | false =>
      have ht := h.times (s.1 j).toNat
      rw [hc] at ht
      have := cnt_zero ht j hj
      simp at this
      omega
  have hmat : Mat (eOf near tk left) n m s.1 := ⟨fun j hj h0 => by
    obtain ⟨h1, x, h2, h3⟩ := h.good.edge j hj h0
    refine ⟨h1, ?_⟩
    unfold eOf
    simp only [Bool.and_eq_true, List.contains_iff_mem, List.any_eq_true, Bool.not_eq_true']
    refine ⟨⟨h.mem _ (hs j hj h0), x, h2, by simpa using h3⟩, ?_⟩
    cases ht : tk j with
    | false => rfl
    | true => have := h.free j ht; omega, inj⟩
  refine ⟨⟨s.1, hmat, h.size⟩, fun i => suc i && !(((List.range m).any fun j => U j && !tk j && decide (s.1 j = i))), fun j => U j && !tk j, ⟨fun i j hi hj he => ?_⟩, ?_⟩
  · unfold eOf at he
    simp only [Bool.and_eq_true, List.contains_iff_mem, List.any_eq_true, Bool.not_eq_true'] at he
    obtain ⟨⟨h1, x, h2, h3⟩, h4⟩ := he
    have h3 : x.toNat = j := by simpa using h3
    subst h3
    cases hc : suc i with
    | false => right; simp [h.rest i h1 hc x h2, h4]
    | true =>
      cases hu : (List.range m).any fun q => U q && !tk q && decide (s.1 q = i) with
      | false => left; rfl
      | true =>
        right
        simp only [List.any_eq_true, List.mem_range, Bool.and_eq_true, Bool.not_eq_true', decide_eq_true_eq] at hu
        obtain ⟨q, q1, ⟨q2, q3⟩, q4⟩ := hu
        rcases h.shut.out q q2 with h5 | h5
        · rw [q3] at h5; cases h5
        · have := h5.2 x (by rw [q4]; simpa using h2)
          simp [this, h4]
  · have hle : cnt n (fun i => suc i && !(((List.range m).any fun j => U j && !tk j && decide (s.1 j = i)))) + cnt m (fun j => U j && !tk j) ≤ s.2 := by
      rw [← h.size]
      unfold msize
      rw [cnt_split (fun j => decide (0 ≤ s.1 j)) (fun j => U j && !tk j) m]
      have h1 : cnt m (fun j => U j && !tk j) ≤ cnt m (fun j => decide (0 ≤ s.1 j) && (U j && !tk j)) := cnt_mono fun j _ hj => by
        simp only [Bool.and_eq_true, Bool.not_eq_true', decide_eq_true_eq] at hj ⊢
        rcases h.shut.out j hj.1 with h2 | h2
        · rw [hj.2] at h2; cases h2
        · exact ⟨h2.1, hj⟩
      have h2 : cnt n (fun i => suc i && !(((List.range m).any fun j => U j && !tk j && decide (s.1 j = i)))) ≤ cnt m (fun j => decide (0 ≤ s.1 j) && !(U j && !tk j)) := by
        refine cnt_inj (fun i j => s.1 j = i) (fun i hi ha => ?_) fun i i' j _ _ _ _ _ e e' => by omega
        simp only [Bool.and_eq_true, Bool.not_eq_true'] at ha
        have ht := h.times i
        rw [ha.1] at ht
        obtain ⟨j, hj, hj2⟩ := cnt_pos (by unfold times at ht; rw [ht]; simp : 0 < cnt m fun j => decide (s.1 j = (i : Int)))
        simp at hj2
        refine ⟨j, hj, ?_, hj2⟩
        simp only [Bool.and_eq_true, decide_eq_true_eq]
        refine ⟨by omega, ?_⟩
        cases hb : (U j && !tk j) with
        | false => rfl
        | true =>
          have := List.any_eq_false.1 ha.2 j (List.mem_range.2 hj)
          simp [hb, hj2] at this
      omega
    have hw := weak hmat (a := fun i => suc i && !(((List.range m).any fun j => U j && !tk j && decide (s.1 j = i)))) (b := fun j => U j && !tk j) ⟨fun i j hi hj he => ?_⟩
    · rw [h.size] at hw
      omega
    · unfold eOf at he
      simp only [Bool.and_eq_true, List.contains_iff_mem, List.any_eq_true, Bool.not_eq_true'] at he
      obtain ⟨⟨h1, x, h2, h3⟩, h4⟩ := he
      have h3 : x.toNat = j := by simpa using h3
      subst h3
      cases hc : suc i with
      | false => right; simp [h.rest i h1 hc x h2, h4]
      | true =>
        cases hu : (List.range m).any fun q => U q && !tk q && decide (s.1 q = i) with
        | false => left; rfl
        | true =>
          right
          simp only [List.any_eq_true, List.mem_range, Bool.and_eq_true, Bool.not_eq_true', decide_eq_true_eq] at hu
          obtain ⟨q, q1, ⟨q2, q3⟩, q4⟩ := hu
          rcases h.shut.out q q2 with h5 | h5
          · rw [q3] at h5; cases h5
          · have := h5.2 x (by rw [q4]; simpa using h2)
            simp [this, h4]
end Go.Proofs.Ytmmabnoemckdiaa.Bip
