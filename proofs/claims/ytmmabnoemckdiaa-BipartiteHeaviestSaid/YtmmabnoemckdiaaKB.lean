/- Plain law: open nodes, the cover, forced edges, the least greatest matching. -/
import Derived.Test.YtmmabnoemckdiaaKA
set_option maxRecDepth 100000
set_option linter.unusedSimpArgs false
set_option linter.unusedVariables false
namespace Go.Proofs.Ytmmabnoemckdiaa.Bip
def nearT (E : Nat → Nat → Bool) (m i : Nat) : List Int := ((List.range m).filter (E i)).map Int.ofNat
theorem nearT_mem {E : Nat → Nat → Bool} {m i : Nat} {x : Int} : x ∈ nearT E m i ↔ ∃ j : Nat, x = j ∧ j < m ∧ E i j = true := by
  unfold nearT
  simp only [List.mem_map, List.mem_filter, List.mem_range]
  constructor
  · rintro ⟨j, ⟨h1, h2⟩, rfl⟩; exact ⟨j, rfl, h1, h2⟩
  · rintro ⟨j, rfl, h1, h2⟩; exact ⟨j, ⟨h1, h2⟩, rfl⟩
/-- The number of edges of a greatest matching. -/
def nuT (n m : Nat) (E : Nat → Nat → Bool) : Nat := szOf (nearT E m) m (fun _ => false) (List.range n)
theorem nearT_lt {E : Nat → Nat → Bool} {m : Nat} : ∀ i, ∀ x ∈ nearT E m i, x.toNat < m := fun i x hx => by
  obtain ⟨j, rfl, h1, _⟩ := nearT_mem.1 hx
  simpa using h1
theorem nearT_any {E : Nat → Nat → Bool} {m i j : Nat} (hj : j < m) : ((nearT E m i).any fun x => x.toNat == j) = E i j := by
  rw [Bool.eq_iff_iff, List.any_eq_true]
  constructor
  · rintro ⟨x, hx, h⟩
    obtain ⟨q, rfl, _, h2⟩ := nearT_mem.1 hx
    have : q = j := by simpa using h
    rwa [← this]
  · intro h
    exact ⟨j, nearT_mem.2 ⟨j, rfl, hj, h⟩, by simp⟩
/-- What 'size' yields. -/
theorem size_nuT {E : Nat → Nat → Bool} {n m : Nat} {tk : Nat → Bool} {left : List Nat} (hl : ∀ i ∈ left, i < n) (hd : left.Nodup) : Nu (fun i j => left.contains i && E i j && !tk j) n m (szOf (nearT E m) m tk left) :=
  (size_nu (near := nearT E m) (tk := tk) nearT_lt hl hd).congr fun i j _ hj => by unfold eOf; rw [nearT_any hj]
theorem nuT_nu (n m : Nat) (E : Nat → Nat → Bool) : Nu E n m (nuT n m E) :=
  (size_nuT (E := E) (n := n) (m := m) (tk := fun _ => false) (left := List.range n) (fun i hi => List.mem_range.1 hi) List.nodup_range).congr fun i j hi _ => by simp [hi]
theorem size_eq {E : Nat → Nat → Bool} {n m : Nat} {tk : Nat → Bool} {left : List Nat} (hl : ∀ i ∈ left, i < n) (hd : left.Nodup) : szOf (nearT E m) m tk left = nuT n m fun i j => left.contains i && E i j && !tk j :=
  (size_nuT hl hd).uniq (nuT_nu n m _)
theorem nuT_congr {n m : Nat} {E E' : Nat → Nat → Bool} (h : ∀ i j, i < n → j < m → E i j = E' i j) : nuT n m E = nuT n m E' :=
  ((nuT_nu n m E).congr h).uniq (nuT_nu n m E')
theorem nuT_sub {n m : Nat} {E E' : Nat → Nat → Bool} (h : ∀ i j, i < n → j < m → E i j = true → E' i j = true) : nuT n m E ≤ nuT n m E' := (nuT_nu n m E).sub (nuT_nu n m E') h
/-- No cover is smaller. -/
theorem nuT_le {n m : Nat} {E : Nat → Nat → Bool} {a b : Nat → Bool} (h : Cov E n m a b) : nuT n m E ≤ cnt n a + cnt m b := by
  obtain ⟨⟨p, h1, h2⟩, _⟩ := nuT_nu n m E
  have := weak h1 h
  omega
theorem le_nuT {n m : Nat} {E : Nat → Nat → Bool} {pt : Nat → Int} (h : Mat E n m pt) : msize m pt ≤ nuT n m E := by
  obtain ⟨_, a, b, h1, h2⟩ := nuT_nu n m E
  have := weak h h1
  omega
/-- .. and no matching, given by its left nodes, is greater. -/
theorem le_nuT' {n m : Nat} {E : Nat → Nat → Bool} {l : Nat → Int} (h : Mat (fun j i => E i j) m n l) : msize n l ≤ nuT n m E := by
  obtain ⟨_, a, b, h1, h2⟩ := nuT_nu n m E
  have := weak h (a := b) (b := a) ⟨fun j i hj hi he => (h1.all i j hi hj he).symm⟩
  omega
def delL (E : Nat → Nat → Bool) (q i j : Nat) : Bool := E i j && !(i == q)
theorem nuT_delL {n m : Nat} {E : Nat → Nat → Bool} {q : Nat} : nuT n m (delL E q) ≤ nuT n m E := nuT_sub fun i j _ _ h => by
  unfold delL at h
  simp only [Bool.and_eq_true] at h
  exact h.1
/-- Left nodes that some greatest matching leaves without a partner. -/
def opn (n m : Nat) (E : Nat → Nat → Bool) (i : Nat) : Bool := !decide (nuT n m (delL E i) < nuT n m E)
theorem cover_more {n m : Nat} {E : Nat → Nat → Bool} {i : Nat} (hi : i < n) (ho : opn n m E i = false) : ∃ a b, Cov E n m a b ∧ cnt n a + cnt m b = nuT n m E ∧ a i = true := by
  obtain ⟨_, a, b, h1, h2⟩ := nuT_nu n m (delL E i)
  unfold opn at ho
  simp only [Bool.not_eq_false', decide_eq_true_eq] at ho
  have hc : Cov E n m (upd a i true) b := ⟨fun p j hp hj he => by
    by_cases e : p = i
    · subst e; exact .inl (upd_same _ _ _)
    · rw [upd_ne _ _ e]
      refine h1.all p j hp hj ?_
      unfold delL
      have : (p == i) = false := by simpa using e
      rw [he, this]; rfl⟩
  have := nuT_le hc
  have e := cnt_upd (p := a) true hi
  have : (bif a i then 1 else 0) ≤ 1 := by cases a i <;> simp
  simp at e
  exact ⟨_, b, hc, by omega, upd_same _ _ _⟩
theorem cover_both {n m : Nat} {E : Nat → Nat → Bool} {a b a' b' : Nat → Bool} (h : Cov E n m a b) (h' : Cov E n m a' b') (hs : cnt n a + cnt m b = nuT n m E) (hs' : cnt n a' + cnt m b' = nuT n m E) :
    Cov E n m (fun i => a i || a' i) (fun j => b j && b' j) ∧ cnt n (fun i => a i || a' i) + cnt m (fun j => b j && b' j) = nuT n m E := by
  have hc : Cov E n m (fun i => a i || a' i) (fun j => b j && b' j) := ⟨fun i j hi hj he => by
    simp only [Bool.or_eq_true, Bool.and_eq_true]
    rcases h.all i j hi hj he with q | q
    · exact .inl (.inl q)
    · rcases h'.all i j hi hj he with q' | q'
      · exact .inl (.inr q')
      · exact .inr ⟨q, q'⟩⟩
  have hc' : Cov E n m (fun i => a i && a' i) (fun j => b j || b' j) := ⟨fun i j hi hj he => by
    simp only [Bool.or_eq_true, Bool.and_eq_true]
    rcases h.all i j hi hj he with q | q
    · rcases h'.all i j hi hj he with q' | q'
      · exact .inl ⟨q, q'⟩
      · exact .inr (.inr q')
    · exact .inr (.inl q)⟩
  have sum : ∀ (n : Nat) (p q : Nat → Bool), cnt n (fun i => p i || q i) + cnt n (fun i => p i && q i) = cnt n p + cnt n q := fun n p q => by
    induction n with
    | zero => rfl
    | succ n ih => simp only [cnt]; cases p n <;> cases q n <;> simp <;> omega
  have s1 := sum n a a'
  have s2 := sum m b b'
  have := nuT_le hc
  have := nuT_le hc'
  exact ⟨hc, by omega⟩
theorem cover_upto {n m : Nat} {E : Nat → Nat → Bool} : ∀ q, q ≤ n → ∃ a b, Cov E n m a b ∧ cnt n a + cnt m b = nuT n m E ∧ ∀ i, i < q → opn n m E i = false → a i = true
  | 0, _ => by
    obtain ⟨_, a, b, h1, h2⟩ := nuT_nu n m E
    exact ⟨a, b, h1, h2, fun i hi => by omega⟩
  | q + 1, hq => by
    obtain ⟨a, b, h1, h2, h3⟩ := cover_upto (n := n) (E := E) (m := m) q (by omega)
    cases ho : opn n m E q with
    | true =>
      refine ⟨a, b, h1, h2, fun i hi hoi => ?_⟩
      rcases Nat.lt_succ_iff_lt_or_eq.1 hi with h | rfl
      · exact h3 i h hoi
      · rw [ho] at hoi; cases hoi
    | false =>
      obtain ⟨a', b', h1', h2', h3'⟩ := cover_more (n := n) (m := m) (E := E) (i := q) (by omega) ho
      obtain ⟨q1, q2⟩ := cover_both h1 h1' h2 h2'
      refine ⟨_, _, q1, q2, fun i hi hoi => ?_⟩
      rcases Nat.lt_succ_iff_lt_or_eq.1 hi with h | rfl
      · simp [h3 i h hoi]
      · simp [h3']
theorem cover_not {n m : Nat} {E : Nat → Nat → Bool} {a b : Nat → Bool} (h : Cov E n m a b) (hs : cnt n a + cnt m b = nuT n m E) {i : Nat} (hi : i < n) (ho : opn n m E i = true) : a i = false := by
  cases ha : a i with
  | false => rfl
  | true =>
    have hc : Cov (delL E i) n m (upd a i false) b := ⟨fun p j hp hj he => by
      unfold delL at he
      simp only [Bool.and_eq_true, Bool.not_eq_true', beq_eq_false_iff_ne] at he
      rw [upd_ne _ _ he.2]
      exact h.all p j hp hj he.1⟩
    have := nuT_le hc
    have e := cnt_upd (p := a) false hi
    rw [ha] at e
    simp at e
    unfold opn at ho
    simp at ho
    omega
/-- The right nodes next to open ones. -/
def rgt (n m : Nat) (E : Nat → Nat → Bool) (j : Nat) : Bool := (List.range n).any fun i => opn n m E i && E i j
theorem rgt_yes {n m : Nat} {E : Nat → Nat → Bool} {i j : Nat} (hi : i < n) (ho : opn n m E i = true) (he : E i j = true) : rgt n m E j = true := by
  unfold rgt
  rw [List.any_eq_true]
  exact ⟨i, List.mem_range.2 hi, by rw [ho, he]; rfl⟩
theorem rgt_of {n m : Nat} {E : Nat → Nat → Bool} {j : Nat} (h : rgt n m E j = true) : ∃ i, i < n ∧ opn n m E i = true ∧ E i j = true := by
  unfold rgt at h
  rw [List.any_eq_true] at h
  obtain ⟨i, h1, h2⟩ := h
  simp only [Bool.and_eq_true] at h2
  exact ⟨i, List.mem_range.1 h1, h2⟩
theorem open_cov (n m : Nat) (E : Nat → Nat → Bool) : Cov E n m (fun i => !opn n m E i) (rgt n m E) := ⟨fun i j hi _ he => by
  cases ho : opn n m E i with
  | true => exact .inr (rgt_yes hi ho he)
  | false => exact .inl rfl⟩
/-- **The nodes that are not open, and those next to open ones, are a least cover.** -/
theorem open_dual (n m : Nat) (E : Nat → Nat → Bool) : cnt n (fun i => !opn n m E i) + cnt m (rgt n m E) = nuT n m E := by
  obtain ⟨a, b, h1, h2, h3⟩ := cover_upto (E := E) (m := m) n (Nat.le_refl n)
  have ha : cnt n (fun i => !opn n m E i) = cnt n a := cnt_congr fun i hi => by
    cases ho : opn n m E i with
    | true => rw [cover_not h1 h2 hi ho]; rfl
    | false => rw [h3 i hi ho]; rfl
  have hb : cnt m (rgt n m E) ≤ cnt m b := cnt_mono fun j hj hr => by
    obtain ⟨i, hi, ho, he⟩ := rgt_of hr
    rcases h1.all i j hi hj he with q | q
    · rw [cover_not h1 h2 hi ho] at q; cases q
    · exact q
  have := nuT_le (open_cov n m E)
  omega
/-- The left nodes of the cover. -/
def lft (n m : Nat) (E : Nat → Nat → Bool) (i : Nat) : Bool := (List.range m).any fun j => E i j && !rgt n m E j
theorem lft_open {n m : Nat} {E : Nat → Nat → Bool} {i : Nat} (hi : i < n) : lft n m E i = !opn n m E i := by
  cases ho : opn n m E i with
  | true =>
    unfold lft
    rw [Bool.not_true, List.any_eq_false]
    intro j hj
    cases he : E i j with
    | false => simp
    | true => simp [rgt_yes hi ho he]
  | false =>
    cases hl : lft n m E i with
    | true => rfl
    | false =>
      have hc : Cov E n m (upd (fun i => !opn n m E i) i false) (rgt n m E) := ⟨fun p j hp hj he => by
        by_cases e : p = i
        · subst e
          unfold lft at hl
          rw [List.any_eq_false] at hl
          have := hl j (List.mem_range.2 hj)
          rw [he] at this
          simp at this
          exact .inr this
        · rw [upd_ne _ _ e]
          exact (open_cov n m E).all p j hp hj he⟩
      have h1 := nuT_le hc
      have h2 := open_dual n m E
      have e := cnt_upd (p := fun i => !opn n m E i) false hi
      simp only [ho, Bool.not_false, cond_true, cond_false] at e
      omega
theorem cover_dual (n m : Nat) (E : Nat → Nat → Bool) : cnt n (lft n m E) + cnt m (rgt n m E) = nuT n m E := by
  rw [← open_dual n m E, cnt_congr fun i hi => lft_open hi]
theorem nuT_le_left (n m : Nat) (E : Nat → Nat → Bool) : nuT n m E ≤ n := by
  have := nuT_le (n := n) (m := m) (E := E) (a := fun _ => true) (b := fun _ => false) ⟨fun _ _ _ _ _ => .inl rfl⟩
  rw [cnt_all fun _ _ => rfl, cnt_none fun _ _ => rfl] at this
  omega
/-- Without open nodes, every left node has a partner; with some, not. -/
theorem open_none {n m : Nat} {E : Nat → Nat → Bool} (h : ∀ i, i < n → opn n m E i = false) : nuT n m E = n := by
  have h1 := open_dual n m E
  rw [cnt_all fun i hi => by rw [h i hi]; rfl] at h1
  have := nuT_le_left n m E
  omega
theorem open_some {n m : Nat} {E : Nat → Nat → Bool} {i : Nat} (hi : i < n) (ho : opn n m E i = true) : nuT n m E < n := by
  have h1 := nuT_le (n := n) (m := m) (E := delL E i) (a := upd (fun _ => true) i false) (b := fun _ => false) ⟨fun p j _ _ he => by
    unfold delL at he
    simp only [Bool.and_eq_true, Bool.not_eq_true', beq_eq_false_iff_ne] at he
    exact .inl (upd_ne _ _ he.2)⟩
  have e := cnt_upd (p := fun _ => true) false hi
  rw [cnt_all (p := fun _ => true) fun _ _ => rfl] at e
  rw [cnt_none (p := fun _ => false) fun _ _ => rfl] at h1
  simp at e
  unfold opn at ho
  simp at ho
  omega
theorem open_count (n m : Nat) (E : Nat → Nat → Bool) : cnt n (opn n m E) + nuT n m E = n + cnt m (rgt n m E) := by
  have h := open_dual n m E
  have h2 := cnt_split (fun _ => true) (opn n m E) n
  rw [cnt_all (p := fun _ => true) fun _ _ => rfl] at h2
  simp only [Bool.true_and] at h2
  have h3 : cnt n (fun i => opn n m E i) = cnt n (opn n m E) := rfl
  omega
/-- An edge less. -/
def delE (E : Nat → Nat → Bool) (p q i j : Nat) : Bool := E i j && !(i == p && j == q)
theorem nuT_delE {n m : Nat} {E : Nat → Nat → Bool} {p q : Nat} : nuT n m (delE E p q) ≤ nuT n m E := nuT_sub fun i j _ _ h => by
  unfold delE at h
  simp only [Bool.and_eq_true] at h
  exact h.1
theorem nuT_delE_ge {n m : Nat} {E : Nat → Nat → Bool} {p q : Nat} : nuT n m E ≤ nuT n m (delE E p q) + 1 := by
  obtain ⟨⟨pt, h1, h2⟩, _⟩ := nuT_nu n m E
  by_cases hq : q < m
  · have hm : Mat (delE E p q) n m (upd pt q (-1)) := ⟨fun j hj h0 => by
      by_cases e : j = q
      · subst e; rw [upd_same] at h0; omega
      · rw [upd_ne _ _ e] at h0 ⊢
        obtain ⟨r1, r2⟩ := h1.edge j hj h0
        refine ⟨r1, ?_⟩
        unfold delE
        have : (j == q) = false := by simpa using e
        simp [r2, this], fun j j' hj hj' h0 e => by
      by_cases ej : j = q
      · subst ej; rw [upd_same] at h0; omega
      · by_cases ej' : j' = q
        · subst ej'; rw [upd_same] at e; rw [upd_ne _ _ ej] at e h0; omega
        · rw [upd_ne _ _ ej] at e h0
          rw [upd_ne _ _ ej'] at e
          exact h1.inj j j' hj hj' h0 e⟩
    have := le_nuT hm
    have e := msize_upd (pt := pt) hq (-1)
    have : (bif decide (0 ≤ pt q) then 1 else 0) ≤ 1 := by cases decide (0 ≤ pt q) <;> simp
    have e0 : decide ((0 : Int) ≤ -1) = false := by decide
    rw [e0] at e
    simp only [cond_false] at e
    omega
  · have : nuT n m E ≤ nuT n m (delE E p q) := nuT_sub fun i j _ hj h => by
      unfold delE
      have : (j == q) = false := by simp; omega
      simp [h, this]
    omega
/- ===== the least greatest matching ===== -/
/-- What is left of a graph: left nodes from 'c' on, right nodes that are not taken. -/
def restE (E : Nat → Nat → Bool) (c : Nat) (tk : Nat → Bool) (i j : Nat) : Bool := decide (c ≤ i) && E i j && !tk j
def pickS (E : Nat → Nat → Bool) (n m i : Nat) (tk : Nat → Bool) (left : Nat) : Option Nat :=
  (List.range m).find? fun k => E i k && !tk k && decide (nuT n m (restE E (i + 1) (upd tk k true)) + 1 = left)
theorem rest_none {E : Nat → Nat → Bool} {n m i left : Nat} {tk : Nat → Bool} (hl : nuT n m (restE E i tk) = left) (h : pickS E n m i tk left = none) : nuT n m (restE E (i + 1) tk) = left := by
  have hle : nuT n m (restE E (i + 1) tk) ≤ left := by
    rw [← hl]
    refine nuT_sub fun a b _ _ hab => ?_
    unfold restE at hab ⊢
    simp only [Bool.and_eq_true, decide_eq_true_eq] at hab ⊢
    exact ⟨⟨by omega, hab.1.2⟩, hab.2⟩
  obtain ⟨⟨pt, h1, h2⟩, _⟩ := nuT_nu n m (restE E i tk)
  by_cases hu : ∃ j, j < m ∧ pt j = i
  · obtain ⟨j, hj, hji⟩ := hu
    have hed := h1.edge j hj (by omega)
    rw [hji] at hed
    have hE : E i j = true ∧ tk j = false := by
      have := hed.2
      unfold restE at this
      simpa using this
    have hm : Mat (restE E (i + 1) (upd tk j true)) n m (upd pt j (-1)) := ⟨fun q hq h0 => by
      by_cases e : q = j
      · subst e; rw [upd_same] at h0; omega
      · rw [upd_ne _ _ e] at h0 ⊢
        obtain ⟨r1, r2⟩ := h1.edge q hq h0
        refine ⟨r1, ?_⟩
        unfold restE at r2 ⊢
        simp only [Bool.and_eq_true, decide_eq_true_eq, Bool.not_eq_true'] at r2 ⊢
        refine ⟨⟨?_, r2.1.2⟩, by rw [upd_ne _ _ e]; exact r2.2⟩
        have : pt q ≠ i := fun e2 => e (h1.inj q j hq hj h0 (by omega))
        omega, fun q q' hq hq' h0 e => by
      by_cases ej : q = j
      · subst ej; rw [upd_same] at h0; omega
      · by_cases ej' : q' = j
        · subst ej'; rw [upd_same] at e; rw [upd_ne _ _ ej] at e h0; omega
        · rw [upd_ne _ _ ej] at e h0
          rw [upd_ne _ _ ej'] at e
          exact h1.inj q q' hq hq' h0 e⟩
    have hge := le_nuT hm
    have e := msize_upd (pt := pt) hj (-1)
    have e1 : decide (0 ≤ pt j) = true := by simp; omega
    have e0 : decide ((0 : Int) ≤ -1) = false := by decide
    rw [e1, e0] at e
    simp only [cond_true, cond_false] at e
    -- adding the edge again: not more than 'left' - 1
    have hle2 : nuT n m (restE E (i + 1) (upd tk j true)) + 1 ≤ left := by
      rw [← hl]
      obtain ⟨⟨pt', h1', h2'⟩, _⟩ := nuT_nu n m (restE E (i + 1) (upd tk j true))
      have free : pt' j < 0 := by
        rcases Int.lt_or_le (pt' j) 0 with h | h
        · exact h
        · have := (h1'.edge j hj h).2
          unfold restE at this
          simp [upd_same] at this
      have noi : ∀ q, q < m → pt' q ≠ i := fun q hq e => by
        have := (h1'.edge q hq (by omega)).2
        unfold restE at this
        simp only [Bool.and_eq_true, decide_eq_true_eq] at this
        omega
      have hm' : Mat (restE E i tk) n m (upd pt' j i) := ⟨fun q hq h0 => by
        by_cases e : q = j
        · subst e; rw [upd_same]
          exact ⟨by simpa using hed.1, by simpa using hed.2⟩
        · rw [upd_ne _ _ e] at h0 ⊢
          obtain ⟨r1, r2⟩ := h1'.edge q hq h0
          refine ⟨r1, ?_⟩
          unfold restE at r2 ⊢
          simp only [Bool.and_eq_true, decide_eq_true_eq, Bool.not_eq_true'] at r2 ⊢
          rw [upd_ne _ _ e] at r2
          exact ⟨⟨by omega, r2.1.2⟩, r2.2⟩, fun q q' hq hq' h0 e => by
        by_cases ej : q = j
        · by_cases ej' : q' = j
          · omega
          · subst ej
            rw [upd_same, upd_ne _ _ ej'] at e
            exact absurd e.symm (noi q' hq')
        · rw [upd_ne _ _ ej] at e h0
          by_cases ej' : q' = j
          · subst ej'; rw [upd_same] at e; exact absurd e (noi q hq)
          · rw [upd_ne _ _ ej'] at e
            exact h1'.inj q q' hq hq' h0 e⟩
      have g := le_nuT hm'
      have e := msize_upd (pt := pt') hj i
      have e1 : decide (0 ≤ pt' j) = false := by simp; omega
      have e0 : decide ((0 : Int) ≤ i) = true := by simp
      rw [e1, e0] at e
      simp only [cond_true, cond_false] at e
      omega
    have := List.find?_eq_none.1 h j (List.mem_range.2 hj)
    simp only [hE.1, hE.2, Bool.not_false, Bool.and_self, Bool.true_and, decide_eq_true_eq] at this
    omega
  · have hm : Mat (restE E (i + 1) tk) n m pt := ⟨fun q hq h0 => by
      obtain ⟨r1, r2⟩ := h1.edge q hq h0
      refine ⟨r1, ?_⟩
      unfold restE at r2 ⊢
      simp only [Bool.and_eq_true, decide_eq_true_eq, Bool.not_eq_true'] at r2 ⊢
      refine ⟨⟨?_, r2.1.2⟩, r2.2⟩
      have : pt q ≠ i := fun e => hu ⟨q, hq, e⟩
      omega, h1.inj⟩
    have := le_nuT hm
    omega
def optI : Option Nat → Int
  | some k => k
  | none => -1
def matchS (E : Nat → Nat → Bool) (n m : Nat) : Nat → Nat → (Nat → Bool) → Nat → List Int
  | 0, _, _, _ => []
  | r + 1, i, tk, left =>
    match pickS E n m i tk left with
    | some k => (k : Int) :: matchS E n m r (i + 1) (upd tk k true) (left - 1)
    | none => -1 :: matchS E n m r (i + 1) tk left
def matchT (E : Nat → Nat → Bool) (n m : Nat) : List Int := matchS E n m n 0 (fun _ => false) (nuT n m E)
theorem matchS_len (E : Nat → Nat → Bool) (n m : Nat) : ∀ (r i : Nat) (tk : Nat → Bool) (left : Nat), (matchS E n m r i tk left).length = r
  | 0, _, _, _ => rfl
  | r + 1, i, tk, left => by
    rw [matchS]
    split <;> simp [matchS_len E n m r]
theorem pick_ok {E : Nat → Nat → Bool} {n m i left k : Nat} {tk : Nat → Bool} (h : pickS E n m i tk left = some k) : k < m ∧ E i k = true ∧ tk k = false ∧ nuT n m (restE E (i + 1) (upd tk k true)) + 1 = left := by
  have h1 := List.find?_some h
  have h2 := List.mem_range.1 (List.mem_of_find?_eq_some h)
  simp only [Bool.and_eq_true, Bool.not_eq_true', decide_eq_true_eq] at h1
  exact ⟨h2, h1.1.1, h1.1.2, h1.2⟩
/-- What is found is a matching, as large as can be. -/
structure IsM (E : Nat → Nat → Bool) (m i : Nat) (tk : Nat → Bool) (l : List Int) : Prop where
  ok : ∀ q (h : q < l.length), l[q] = -1 ∨ (0 ≤ l[q] ∧ l[q].toNat < m ∧ E (i + q) l[q].toNat = true ∧ tk l[q].toNat = false)
  inj : ∀ q q' (h : q < l.length) (h' : q' < l.length), 0 ≤ l[q] → l[q] = l[q'] → q = q'
def found (l : List Int) : Nat := (l.filter fun x => decide (0 ≤ x)).length
theorem matchS_ok {E : Nat → Nat → Bool} {n m : Nat} : ∀ (r i : Nat) (tk : Nat → Bool) (left : Nat), i + r = n → nuT n m (restE E i tk) = left → IsM E m i tk (matchS E n m r i tk left) ∧ found (matchS E n m r i tk left) = left
  | 0, i, tk, left, hr, hl => by
    refine ⟨⟨fun q h => absurd h (by simp [matchS]), fun q q' h => absurd h (by simp [matchS])⟩, ?_⟩
    have := nuT_le (n := n) (m := m) (E := restE E i tk) (a := fun _ => false) (b := fun _ => false) ⟨fun p j hp _ he => by
      unfold restE at he
      simp only [Bool.and_eq_true, decide_eq_true_eq] at he
      omega⟩
    rw [cnt_none fun _ _ => rfl, cnt_none fun _ _ => rfl] at this
    show 0 = left
    omega
  | r + 1, i, tk, left, hr, hl => by
    rw [matchS]
    split
    · rename_i k hk
      obtain ⟨h1, h2, h3, h4⟩ := pick_ok hk
      obtain ⟨ih1, ih2⟩ := matchS_ok (E := E) (n := n) (m := m) r (i + 1) (upd tk k true) (left - 1) (by omega) (by omega)
      refine ⟨⟨fun q h => ?_, fun q q' h h' => ?_⟩, by
        have e : decide (0 ≤ (k : Int)) = true := by simp
        unfold found at ih2 ⊢
        rw [List.filter_cons, e]
        simp only [if_true, List.length_cons, ih2]
        omega⟩
      · cases q with
        | zero => exact .inr ⟨by simp, by simpa using h1, by simpa using h2, by simpa using h3⟩
        | succ q =>
          simp only [List.getElem_cons_succ]
          rcases ih1.ok q (by simpa using h) with e | ⟨e1, e2, e3, e4⟩
          · exact .inl e
          · refine .inr ⟨e1, e2, by rw [show i + (q + 1) = i + 1 + q by omega]; exact e3, ?_⟩
            by_cases ek : ((matchS E n m r (i + 1) (upd tk k true) (left - 1))[q]'(by simpa using h)).toNat = k
            · rw [ek, upd_same] at e4; cases e4
            · rw [upd_ne _ _ ek] at e4; exact e4
      · have new : ∀ q (h : q < (matchS E n m r (i + 1) (upd tk k true) (left - 1)).length), (matchS E n m r (i + 1) (upd tk k true) (left - 1))[q] ≠ (k : Int) := fun q h e => by
          rcases ih1.ok q h with e2 | ⟨e1, e2, e3, e4⟩
          · omega
          · rw [e] at e4; simp [upd_same] at e4
        cases q with
        | zero =>
          cases q' with
          | zero => exact fun _ _ => rfl
          | succ q' => exact fun _ e => absurd e.symm (new q' (by simpa using h'))
        | succ q =>
          cases q' with
          | zero => exact fun _ e => absurd e (new q (by simpa using h))
          | succ q' => exact fun h0 e => congrArg (· + 1) (ih1.inj q q' (by simpa using h) (by simpa using h') h0 e)
    · rename_i hk
      obtain ⟨ih1, ih2⟩ := matchS_ok (E := E) (n := n) (m := m) r (i + 1) tk left (by omega) (rest_none hl hk)
      refine ⟨⟨fun q h => ?_, fun q q' h h' => ?_⟩, ?_⟩
      · cases q with
        | zero => exact .inl rfl
        | succ q =>
          simp only [List.getElem_cons_succ]
          rw [show i + (q + 1) = i + 1 + q by omega]
          exact ih1.ok q (by simpa using h)
      · cases q with
        | zero => exact fun h0 _ => absurd h0 (by simp)
        | succ q =>
          cases q' with
          | zero =>
            intro h0 e
            simp only [List.getElem_cons_succ, List.getElem_cons_zero] at h0 e
            omega
          | succ q' => exact fun h0 e => congrArg (· + 1) (ih1.inj q q' (by simpa using h) (by simpa using h') h0 e)
      · unfold found at ih2 ⊢
        rw [List.filter_cons]
        simpa using ih2
theorem matchT_ok (E : Nat → Nat → Bool) (n m : Nat) : IsM E m 0 (fun _ => false) (matchT E n m) ∧ found (matchT E n m) = nuT n m E ∧ (matchT E n m).length = n := by
  have := matchS_ok (E := E) (n := n) (m := m) n 0 (fun _ => false) (nuT n m E) (by omega) (nuT_congr fun i j _ _ => by unfold restE; simp)
  exact ⟨this.1, this.2, matchS_len E n m n 0 _ _⟩
end Go.Proofs.Ytmmabnoemckdiaa.Bip
