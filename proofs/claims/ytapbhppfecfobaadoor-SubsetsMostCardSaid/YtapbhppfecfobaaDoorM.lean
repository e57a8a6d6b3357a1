/- Plain: the reference's words for subsets. -/
import Derived.Test.YtapbhppfecfobaaDoorK
set_option maxRecDepth 100000
set_option linter.unusedSimpArgs false
set_option linter.unusedVariables false
namespace Go.Proofs.YtapbhppfecfobaaDoor
open Go.RowKit
theorem flt_up {s n : Nat} (h : s < 2 ^ n) : ∀ m, ((List.range (n + m)).filter fun i => s.testBit i) = (List.range n).filter fun i => s.testBit i
  | 0 => rfl
  | m + 1 => by
    have hb : s.testBit (n + m) = false := Nat.testBit_lt_two_pow (Nat.lt_of_lt_of_le h (Nat.pow_le_pow_right (by decide) (by omega)))
    rw [← Nat.add_assoc, List.range_succ, List.filter_append, flt_up h m]
    simp [hb]
theorem bits_n {s n : Nat} (h : s < 2 ^ n) (hn : n ≤ 32) : bitsL s = (List.range n).filter fun i => s.testBit i := by
  have := flt_up h (32 - n)
  rw [show n + (32 - n) = 32 by omega] at this
  exact this
theorem lex_same : ∀ a b : List Int, lexL a b = false → lexL b a = false → a = b
  | [], [], _, _ => rfl
  | [], _ :: _, h, _ => by simp [lexL] at h
  | _ :: _, [], _, h => by simp [lexL] at h
  | x :: a, y :: b, h, h2 => by
    simp only [lexL, Bool.or_eq_false_iff, decide_eq_false_iff_not, Bool.and_eq_false_iff] at h h2
    obtain rfl : x = y := by omega
    rw [lex_same a b (h.2.resolve_left (by simp)) (h2.2.resolve_left (by simp))]
theorem lex_irr : ∀ a : List Int, lexL a a = false
  | [] => rfl
  | x :: a => by simp [lexL, lex_irr a]
theorem lex_flt (p q : Nat → Bool) : ∀ (R : List Nat), R.Pairwise (· < ·) → (R.filter p).length = (R.filter q).length →
    lexL ((R.filter p).map fun (i : Nat) => (i : Int)) ((R.filter q).map fun (i : Nat) => (i : Int)) = match R.find? fun i => p i != q i with
      | none => false
      | some i => p i
  | [], _, _ => rfl
  | r :: R, hR, hlen => by
    have h' := List.pairwise_cons.1 hR
    cases hp : p r with
    | true =>
      cases hq : q r with
      | true =>
        simp only [List.filter_cons, hp, hq, if_true, List.map_cons, List.find?_cons, bne_self_eq_false, lexL] at hlen ⊢
        simp only [Int.lt_irrefl, decide_false, Bool.false_or, decide_true, Bool.true_and]
        exact lex_flt p q R h'.2 (by simpa using hlen)
      | false =>
        simp only [List.filter_cons, hp, hq, if_true, List.map_cons, List.find?_cons] at hlen ⊢
        cases e : R.filter q with
        | nil => rw [e] at hlen; simp at hlen
        | cons x X =>
          have hx : x ∈ R := (List.mem_filter.1 (by rw [e]; simp : x ∈ R.filter q)).1
          have := h'.1 x hx
          have hlt : (r : Int) < (x : Int) := by omega
          simp [lexL, hlt, hp]
    | false =>
      cases hq : q r with
      | true =>
        simp only [List.filter_cons, hp, hq, if_true, List.map_cons, List.find?_cons] at hlen ⊢
        cases e : R.filter p with
        | nil => rw [e] at hlen; simp at hlen
        | cons x X =>
          have hx : x ∈ R := (List.mem_filter.1 (by rw [e]; simp : x ∈ R.filter p)).1
          have := h'.1 x hx
          have hlt : ¬ ((x : Int) < (r : Int)) := by omega
          have hne : ¬ ((x : Int) = (r : Int)) := by omega
          simp [lexL, hlt, hne, hp]
      | false =>
        simp only [List.filter_cons, hp, hq, List.find?_cons, bne_self_eq_false] at hlen ⊢
        exact lex_flt p q R h'.2 (by simpa using hlen)
theorem bef_bit (s t : Nat) : bef s t = s.testBit (tzN (s ^^^ t)) := by
  unfold bef
  generalize tzN (s ^^^ t) = k
  cases e : s.testBit k with
  | true =>
    simp only [bne_iff_ne, ne_eq]
    intro h
    have h3 := congrArg (fun x => x.testBit k) h
    simp [e] at h3
  | false =>
    have h0 : s &&& 2 ^ k = 0 := Nat.eq_of_testBit_eq fun i => by
      rw [Nat.testBit_and, Nat.testBit_two_pow, Nat.zero_testBit]
      by_cases e2 : k = i
      · subst e2; simp [e]
      · simp [e2]
    rw [h0]; rfl
theorem lex_bef {s t : Nat} (hs : s < 65536) (ht : t < 65536) (hne : s ≠ t) (hlen : (bitsL s).length = (bitsL t).length) : lexL (bL s) (bL t) = bef s t := by
  have hx : s ^^^ t < 2 ^ 16 := Nat.xor_lt_two_pow hs ht
  have h0 : 0 < s ^^^ t := Nat.pos_of_ne_zero fun h => hne (by
    refine Nat.eq_of_testBit_eq fun i => ?_
    have := congrArg (fun x => x.testBit i) h
    simpa using this)
  have hc := bits_cons h0 (Nat.lt_trans hx (by decide))
  have hf : (List.range 32).find? (fun i => s.testBit i != t.testBit i) = some (tzN (s ^^^ t)) := by
    rw [← List.head?_filter]
    have e : (List.range 32).filter (fun i => s.testBit i != t.testBit i) = bitsL (s ^^^ t) := by
      unfold bitsL
      refine List.filter_congr fun i _ => ?_
      rw [Nat.testBit_xor]
    rw [e, hc]; rfl
  unfold bL
  unfold bitsL at hlen ⊢
  rw [lex_flt _ _ _ List.pairwise_lt_range hlen, hf]
  rw [bef_bit]
/-- Two ascending lists with the same members are one. -/
theorem asc_ext : ∀ (a b : List Int), a.Pairwise (· < ·) → b.Pairwise (· < ·) → (∀ x, x ∈ a ↔ x ∈ b) → a = b
  | [], [], _, _, _ => rfl
  | [], y :: b, _, _, h => by have := (h y).2 (by simp); simp at this
  | x :: a, [], _, _, h => by have := (h x).1 (by simp); simp at this
  | x :: a, y :: b, ha, hb, h => by
    have ha' := List.pairwise_cons.1 ha
    have hb' := List.pairwise_cons.1 hb
    have hxy : x = y := by
      rcases List.mem_cons.1 ((h x).1 (by simp)) with e | e
      · exact e
      · rcases List.mem_cons.1 ((h y).2 (by simp)) with e2 | e2
        · exact e2.symm
        · have := ha'.1 _ e2
          have := hb'.1 _ e
          omega
    subst hxy
    rw [asc_ext a b ha'.2 hb'.2 fun z => ⟨fun hz => ?_, fun hz => ?_⟩]
    · rcases List.mem_cons.1 ((h z).1 (by simp [hz])) with e | e
      · subst e; exact absurd (ha'.1 _ hz) (Int.lt_irrefl _)
      · exact e
    · rcases List.mem_cons.1 ((h z).2 (by simp [hz])) with e | e
      · subst e; exact absurd (hb'.1 _ hz) (Int.lt_irrefl _)
      · exact e
/-- The place of a number in an ascending list. -/
def kP (n : Int) : List Int → Nat
  | [] => 0
  | x :: l => if x < n then kP n l + 1 else 0
theorem kP_le (n : Int) : ∀ l, kP n l ≤ l.length
  | [] => Nat.le_refl _
  | x :: l => by
    unfold kP
    have := kP_le n l
    split <;> simp <;> omega
theorem kP_at {n : Int} : ∀ {l : List Int} {k : Nat}, k ≤ l.length → (∀ j, j < k → ix l j < n) → (k < l.length → ¬ ix l k < n) → kP n l = k
  | [], k, h, _, _ => by simp at h; subst h; rfl
  | x :: l, 0, _, _, h3 => by
    have : ¬ x < n := h3 (by simp)
    rw [kP, if_neg this]
  | x :: l, k + 1, h1, h2, h3 => by
    have h0 : x < n := h2 0 (by omega)
    rw [kP, if_pos h0, kP_at (k := k) (by simpa using h1) (fun j hj => h2 (j + 1) (by omega)) (fun h => h3 (by simpa using h))]
def insU (n : Int) (l : List Int) : List Int := if kP n l = l.length ∨ ix l (kP n l) ≠ n then l.take (kP n l) ++ (n :: l.drop (kP n l)) else l
theorem insU_nil (n : Int) : insU n [] = [n] := by simp [insU, kP]
theorem insU_cons (n x : Int) (l : List Int) : insU n (x :: l) = if x < n then x :: insU n l else if x = n then x :: l else n :: x :: l := by
  have e0 : kP n (x :: l) = if x < n then kP n l + 1 else 0 := rfl
  unfold insU
  rw [e0]
  by_cases h : x < n
  · simp only [if_pos h, List.length_cons, Nat.add_right_cancel_iff, List.take_succ_cons, List.drop_succ_cons, List.cons_append]
    rw [show ix (x :: l) (kP n l + 1) = ix l (kP n l) from rfl]
    split <;> rfl
  · simp only [if_neg h, List.length_cons, List.take_zero, List.drop_zero, List.nil_append]
    rw [show ix (x :: l) 0 = x from rfl]
    by_cases e : x = n
    · rw [if_neg (by simp [e]), if_pos e]
    · rw [if_pos (by simp [e]), if_neg e]
theorem insU_mem {n : Int} : ∀ {l : List Int} {y : Int}, y ∈ insU n l ↔ y = n ∨ y ∈ l
  | [], y => by simp [insU_nil]
  | x :: l, y => by
    rw [insU_cons]
    split
    · rw [List.mem_cons, insU_mem, List.mem_cons]
      exact ⟨fun h => h.elim (fun h => .inr (.inl h)) fun h => h.elim .inl fun h => .inr (.inr h), fun h => h.elim (fun h => .inr (.inl h)) fun h => h.elim .inl fun h => .inr (.inr h)⟩
    · split
      · rename_i e
        subst e
        simp
      · simp
theorem insU_asc {n : Int} : ∀ {l : List Int}, l.Pairwise (· < ·) → (insU n l).Pairwise (· < ·)
  | [], _ => by simp [insU_nil]
  | x :: l, h => by
    have h' := List.pairwise_cons.1 h
    rw [insU_cons]
    split
    · refine List.pairwise_cons.2 ⟨fun y hy => ?_, insU_asc h'.2⟩
      rcases insU_mem.1 hy with e | e
      · subst e; assumption
      · exact h'.1 y e
    · split
      · exact h
      · refine List.pairwise_cons.2 ⟨fun y hy => ?_, h⟩
        rcases List.mem_cons.1 hy with e | e
        · subst e; omega
        · have := h'.1 y e; omega
/-- The reference's list of sums, after k subsets. -/
def rsm (l : List Int) : Nat → List Int
  | 0 => []
  | k + 1 => insU (sumS l k) (rsm l k)
theorem rsm_asc (l : List Int) : ∀ k, (rsm l k).Pairwise (· < ·)
  | 0 => .nil
  | k + 1 => insU_asc (rsm_asc l k)
theorem rsm_mem {l : List Int} {y : Int} : ∀ {k : Nat}, y ∈ rsm l k ↔ ∃ s, s < k ∧ y = sumS l s
  | 0 => by simp [rsm]
  | k + 1 => by
    rw [rsm, insU_mem, rsm_mem]
    exact ⟨fun h => h.elim (fun h => ⟨k, by omega, h⟩) fun ⟨s, h, e⟩ => ⟨s, by omega, e⟩, fun ⟨s, h, e⟩ => by
      rcases Nat.lt_or_eq_of_le (Nat.le_of_lt_succ h) with h2 | h2
      · exact .inr ⟨s, h2, e⟩
      · subst h2; exact .inl e⟩
theorem rsm_len (l : List Int) : ∀ k, (rsm l k).length ≤ k
  | 0 => Nat.le_refl _
  | k + 1 => by
    have := rsm_len l k
    have hk := kP_le (sumS l k) (rsm l k)
    rw [rsm, insU]
    split
    · simp; omega
    · omega
theorem cmpT_fact {l : List Int} (hs : l.Pairwise (· ≤ ·)) : ∀ p, p ≤ l.length → (∀ x, x ∈ cmpT l p ↔ ∃ q, q < p ∧ x = ix l q) ∧ (cmpT l p).Pairwise (· < ·)
  | 0, _ => ⟨by simp [cmpT], .nil⟩
  | p + 1, hp => by
    obtain ⟨h1, h2⟩ := cmpT_fact hs p (by omega)
    have hle : ∀ a b, a < b → b < l.length → ix l a ≤ ix l b := fun a b hab hb => by
      rw [ix_eq hb, ix_eq (Nat.lt_trans hab hb)]
      exact List.pairwise_iff_getElem.1 hs a b _ _ hab
    unfold cmpT
    by_cases h : p = 0 ∨ ix l p ≠ ix l (p - 1)
    · rw [if_pos h]
      refine ⟨fun x => ?_, List.pairwise_append.2 ⟨h2, List.pairwise_singleton _ _, fun a ha b hb => ?_⟩⟩
      · rw [List.mem_append, h1, List.mem_singleton]
        exact ⟨fun h => h.elim (fun ⟨q, hq, e⟩ => ⟨q, by omega, e⟩) fun e => ⟨p, by omega, e⟩, fun ⟨q, hq, e⟩ => by
          rcases Nat.lt_or_eq_of_le (Nat.le_of_lt_succ hq) with h3 | h3
          · exact .inl ⟨q, h3, e⟩
          · subst h3; exact .inr e⟩
      · obtain ⟨q, hq, rfl⟩ := (h1 a).1 ha
        obtain rfl : b = ix l p := by simpa using hb
        have h3 := hle (p - 1) p (by omega) (by omega)
        have h4 : ix l q ≤ ix l (p - 1) := by
          rcases Nat.lt_or_eq_of_le (show q ≤ p - 1 by omega) with h5 | h5
          · exact hle q (p - 1) h5 (by omega)
          · subst h5; exact Int.le_refl _
        have h6 := h.resolve_left (by omega)
        omega
    · rw [if_neg h]
      have hp0 : p ≠ 0 := fun e => h (.inl e)
      have he : ix l p = ix l (p - 1) := Classical.not_not.1 fun e => h (.inr e)
      refine ⟨fun x => ?_, h2⟩
      rw [h1]
      exact ⟨fun ⟨q, hq, e⟩ => ⟨q, by omega, e⟩, fun ⟨q, hq, e⟩ => by
        rcases Nat.lt_or_eq_of_le (Nat.le_of_lt_succ hq) with h3 | h3
        · exact ⟨q, h3, e⟩
        · subst h3; exact ⟨q - 1, by omega, by rw [e, he]⟩⟩
theorem sortI_asc (l : List Int) : (sortI l).Pairwise (· ≤ ·) := by
  have := List.pairwise_mergeSort (le := fun (x y : Int) => decide (x ≤ y)) (fun a b c h1 h2 => by simp at *; omega) (fun a b => by simp; omega) l
  exact this.imp fun h => by simpa using h
theorem mem_ix {l : List Int} {x : Int} : x ∈ l ↔ ∃ q, q < l.length ∧ x = ix l q := by
  constructor
  · intro h
    obtain ⟨q, hq, e⟩ := List.getElem_of_mem h
    exact ⟨q, hq, by rw [ix_eq hq, e]⟩
  · rintro ⟨q, hq, rfl⟩
    rw [ix_eq hq]
    exact List.getElem_mem hq
theorem sums_mem {l : List Int} {x : Int} : x ∈ sumsL l ↔ ∃ s, s < 2 ^ l.length ∧ x = sumS l s := by
  have h := (cmpT_fact (sortI_asc (allS l (2 ^ l.length))) _ (Nat.le_refl _)).1 x
  unfold sumsL cmpL
  rw [h, ← mem_ix, (List.mergeSort_perm _ _).mem_iff (l₁ := sortI _), mem_ix, allS_len]
  exact ⟨fun ⟨q, h1, h2⟩ => ⟨q, h1, by rw [h2, allS_ix l h1]⟩, fun ⟨q, h1, h2⟩ => ⟨q, h1, by rw [h2, allS_ix l h1]⟩⟩
theorem sums_asc (l : List Int) : (sumsL l).Pairwise (· < ·) := (cmpT_fact (sortI_asc (allS l (2 ^ l.length))) _ (Nat.le_refl _)).2
theorem sums_rsm (l : List Int) : rsm l (2 ^ l.length) = sumsL l := asc_ext _ _ (rsm_asc l _) (sums_asc l) fun x => by rw [rsm_mem, sums_mem]
/-- The distance to a number. -/
def disF (sum n : Int) : Int := if n < sum then sum - n else n - sum
def nrB (sum a b : Int) : Bool := decide (disF sum a < disF sum b) || (decide (disF sum a = disF sum b) && decide (a < b))
/-- The nearest of the first k numbers and of b. -/
def nrT (f : Nat → Int) (sum : Int) (b : Int) : Nat → Int
  | 0 => b
  | k + 1 => bif nrB sum (f k) (nrT f sum b k) then f k else nrT f sum b k
def Near (sum : Int) (P : Int → Prop) (b : Int) : Prop := P b ∧ ∀ x, P x → disF sum b < disF sum x ∨ (disF sum b = disF sum x ∧ b ≤ x)
theorem near_one {sum : Int} {P : Int → Prop} {a b : Int} (ha : Near sum P a) (hb : Near sum P b) : a = b := by
  have h1 := ha.2 b hb.1
  have h2 := hb.2 a ha.1
  omega
theorem nrT_near (f : Nat → Int) (sum b : Int) : ∀ k, Near sum (fun x => x = b ∨ ∃ q, q < k ∧ x = f q) (nrT f sum b k)
  | 0 => ⟨.inl rfl, fun x hx => by
    rcases hx with rfl | ⟨q, hq, _⟩
    · exact .inr ⟨rfl, Int.le_refl _⟩
    · omega⟩
  | k + 1 => by
    obtain ⟨h1, h2⟩ := nrT_near f sum b k
    unfold nrT
    cases e : nrB sum (f k) (nrT f sum b k) with
    | true =>
      simp only [nrB, Bool.or_eq_true, Bool.and_eq_true, decide_eq_true_eq] at e
      refine ⟨.inr ⟨k, by omega, rfl⟩, fun x hx => ?_⟩
      rw [cond_true]
      have : (x = b ∨ ∃ q, q < k ∧ x = f q) ∨ x = f k := by
        rcases hx with h | ⟨q, hq, h⟩
        · exact .inl (.inl h)
        · rcases Nat.lt_or_eq_of_le (Nat.le_of_lt_succ hq) with h3 | h3
          · exact .inl (.inr ⟨q, h3, h⟩)
          · subst h3; exact .inr h
      clear hx h1
      rcases this with h | h
      · have := h2 x h
        clear h h2
        omega
      · subst h; exact .inr ⟨rfl, Int.le_refl _⟩
    | false =>
      simp only [nrB, Bool.or_eq_false_iff, Bool.and_eq_false_iff, decide_eq_false_iff_not] at e
      rw [cond_false]
      refine ⟨h1.elim .inl fun ⟨q, hq, h⟩ => .inr ⟨q, by omega, h⟩, fun x hx => ?_⟩
      rcases hx with h | ⟨q, hq, h⟩
      · exact h2 x (.inl h)
      · rcases Nat.lt_or_eq_of_le (Nat.le_of_lt_succ hq) with h3 | h3
        · exact h2 x (.inr ⟨q, h3, h⟩)
        · subst h3; subst h; clear hq h1 h2; omega
/-- The sum of a subset that is nearest to a number. -/
def nearV (l : List Int) (sum : Int) : Int := nrT (sumS l) sum (sumS l 0) (2 ^ l.length)
theorem nearV_near (l : List Int) (sum : Int) : Near sum (fun x => x ∈ sumsL l) (nearV l sum) := by
  obtain ⟨h1, h2⟩ := nrT_near (sumS l) sum (sumS l 0) (2 ^ l.length)
  refine ⟨sums_mem.2 ?_, fun x hx => h2 x (.inr (sums_mem.1 hx))⟩
  rcases h1 with h | h
  · exact ⟨0, Nat.two_pow_pos _, h⟩
  · exact h
/-- The reference's count of a subset. -/
def cntV (l : List Int) (s : Nat) : Int := if sumS l s = 0 then most l s else -1
def CntOk (l : List Int) (set t : Nat) : Prop := t.testBit (tzN set) = true ∧ sumS l t = 0 ∧ 0 ≤ cntV l (dif set t)
theorem cnt_end {l : List Int} {set : Nat} {best : Int} (h0 : 0 < set) (h : set < 65536) (h1 : ∀ t, Sub t set → 0 < t → CntOk l set t → cntV l (dif set t) + 1 ≤ best)
    (h2 : best = -1 ∨ ∃ t, Sub t set ∧ 0 < t ∧ CntOk l set t ∧ best = cntV l (dif set t) + 1) : best = cntV l set := by
  by_cases hb : sumS l set = 0
  · obtain ⟨p, p1, p2, p3, p4⟩ := part_ex h h0 hb
    have hp0 : 0 < p := Nat.pos_of_ne_zero fun e => by subst e; simp at p2
    have hd := sumS_dif (l := l) h p1
    have hdl := dif_le set p
    have hc : cntV l (dif set p) = most l set - 1 := by rw [cntV, if_pos (by omega), p4]
    have hnn := most_nn l (i := dif set p) (by omega)
    have h3 := h1 p p1 hp0 ⟨p2, p3, by omega⟩
    rw [cntV, if_pos hb]
    rcases h2 with e | ⟨t, t1, t2, ⟨_, t4, t5⟩, t6⟩
    · omega
    · have hd2 := sumS_dif (l := l) h t1
      have hc2 : cntV l (dif set t) = most l (dif set t) := by rw [cntV, if_pos (by omega)]
      have := most_part h hb t1 t2
      omega
  · rw [cntV, if_neg hb]
    rcases h2 with e | ⟨t, t1, t2, ⟨_, t4, t5⟩, t6⟩
    · exact e
    · have hd2 := sumS_dif (l := l) h t1
      rw [cntV] at t5
      split at t5
      · omega
      · omega
theorem okP_cnt {l : List Int} {left s : Nat} (h : left < 65536) (hb : sumS l left = 0) (hs : Sub s left) : okP l left s = (s.testBit (tzN left) && (decide (sumS l s = 0) && decide (cntV l (dif left s) = cntV l left - 1))) := by
  unfold okP
  by_cases h3 : sumS l s = 0
  · have hd := sumS_dif (l := l) h hs
    rw [cntV, if_pos (by omega), cntV, if_pos hb]
  · simp [h3]
end Go.Proofs.YtapbhppfecfobaaDoor
