/- Plain: balanced partitions with the most parts. -/
import Derived.Test.YtapbhppfecfobaaDoorH
set_option maxRecDepth 100000
set_option linter.unusedSimpArgs false
set_option linter.unusedVariables false
namespace Go.Proofs.YtapbhppfecfobaaDoor
def Sub (t s : Nat) : Prop := ∀ i, t.testBit i = true → s.testBit i = true
theorem sub_and {t s : Nat} : Sub t s ↔ t &&& s = t := by
  constructor
  · intro h
    refine Nat.eq_of_testBit_eq fun i => ?_
    rw [Nat.testBit_and]
    cases e : t.testBit i with
    | false => rfl
    | true => rw [h i e]; rfl
  · intro h i hi
    rw [← h, Nat.testBit_and] at hi
    simp at hi
    exact hi.2
theorem Sub.le {t s : Nat} (h : Sub t s) : t ≤ s := by
  have := sub_and.1 h
  rw [← this]; exact Nat.and_le_right
theorem Sub.refl (s : Nat) : Sub s s := fun _ h => h
theorem Sub.trans {a b c : Nat} (h : Sub a b) (h2 : Sub b c) : Sub a c := fun i hi => h2 i (h i hi)
theorem sub_zero (s : Nat) : Sub 0 s := fun i hi => by simp at hi
/-- What is in the one and not in the other. -/
def dif (s t : Nat) : Nat := s &&& (2 ^ 32 - 1 - t)
theorem dif_bit {s t : Nat} (hs : s < 65536) (ht : t < 65536) (i : Nat) : (dif s t).testBit i = (s.testBit i && !t.testBit i) := by
  unfold dif
  rw [Nat.testBit_and, show 2 ^ 32 - 1 - t = 2 ^ 32 - (t + 1) by omega, Nat.testBit_two_pow_sub_succ (by omega)]
  by_cases hi : i < 32
  · simp [hi]
  · have : s.testBit i = false := Nat.testBit_lt_two_pow (Nat.lt_of_lt_of_le (show s < 2 ^ 16 from hs) (Nat.pow_le_pow_right (by decide) (by omega)))
    simp [this]
theorem dif_sub {s t : Nat} : Sub (dif s t) s := fun i hi => by
  unfold dif at hi
  rw [Nat.testBit_and] at hi
  simp at hi
  exact hi.1
theorem dif_le (s t : Nat) : dif s t ≤ s := dif_sub.le
theorem dif_zero {s : Nat} (h : s < 65536) : dif s 0 = s := Nat.eq_of_testBit_eq fun i => by rw [dif_bit h (by omega)]; simp
theorem dif_self {s : Nat} (h : s < 65536) : dif s s = 0 := Nat.eq_of_testBit_eq fun i => by rw [dif_bit h h]; simp
theorem dif_dif {s t : Nat} (hs : s < 65536) (h : Sub t s) : dif s (dif s t) = t := Nat.eq_of_testBit_eq fun i => by
  have hl := h.le
  have hd := dif_le s t
  rw [dif_bit hs (by omega), dif_bit hs (by omega)]
  cases e : t.testBit i with
  | true => rw [h i e]; rfl
  | false => cases s.testBit i <;> rfl
theorem add_dif {s t : Nat} (hs : s < 65536) (h : Sub t s) : t + dif s t = s := by
  have hl := h.le
  have hd := dif_le s t
  have e : (BitVec.ofNat 32 t) + (BitVec.ofNat 32 (dif s t)) = (BitVec.ofNat 32 t) ||| (BitVec.ofNat 32 (dif s t)) := by
    refine BitVec.add_eq_or_of_and_eq_zero _ _ ?_
    refine BitVec.eq_of_toNat_eq ?_
    rw [BitVec.toNat_and, BitVec.toNat_ofNat, BitVec.toNat_ofNat, Nat.mod_eq_of_lt (by omega), Nat.mod_eq_of_lt (by omega)]
    refine Nat.eq_of_testBit_eq fun i => ?_
    rw [Nat.testBit_and, dif_bit hs (by omega)]
    cases t.testBit i <;> simp
  have e2 := congrArg BitVec.toNat e
  rw [BitVec.toNat_add, BitVec.toNat_or, BitVec.toNat_ofNat, BitVec.toNat_ofNat, Nat.mod_eq_of_lt (a := t) (by omega), Nat.mod_eq_of_lt (a := dif s t) (by omega), Nat.mod_eq_of_lt (by omega)] at e2
  rw [e2]
  refine Nat.eq_of_testBit_eq fun i => ?_
  rw [Nat.testBit_or, dif_bit hs (by omega)]
  cases e : t.testBit i with
  | true => rw [h i e]; rfl
  | false => simp
theorem sub_dif {s t : Nat} (hs : s < 65536) (h : Sub t s) : s - t = dif s t := by
  have := add_dif hs h
  omega
/-- The sum of a subset, index by index. -/
theorem sumS_all (l : List Int) (s : Nat) : sumS l s = ((List.range 32).map fun i => if s.testBit i then ix l i else 0).sum := by
  unfold sumS bitsL
  generalize List.range 32 = x
  induction x with
  | nil => rfl
  | cons a x ih =>
    rw [List.filter_cons]
    cases e : s.testBit a with
    | true => simp only [if_true, List.map_cons, List.sum_cons, ih, e]
    | false => simp only [Bool.false_eq_true, if_false, List.map_cons, List.sum_cons, ih, e]; omega
theorem sumS_dif {l : List Int} {s t : Nat} (hs : s < 65536) (h : Sub t s) : sumS l s = sumS l t + sumS l (dif s t) := by
  have hl := h.le
  rw [sumS_all, sumS_all, sumS_all]
  generalize List.range 32 = x
  induction x with
  | nil => rfl
  | cons a x ih =>
    simp only [List.map_cons, List.sum_cons]
    rw [ih, dif_bit hs (by omega)]
    cases e : t.testBit a with
    | true => rw [h a e]; simp; omega
    | false => cases s.testBit a <;> simp <;> omega
/-- A subset without an index. -/
theorem bit_one {s k : Nat} (h : s.testBit k = true) : Sub (2 ^ k) s := fun i hi => by
  rw [Nat.testBit_two_pow] at hi
  simp at hi
  subst hi; exact h
/-- How often the sum can be 0 while the indices are taken one after the other. -/
def mval (l : List Int) (tab : Nat → Int) (i : Nat) : Int := ((bitsL i).map fun k => tab (dif i (2 ^ k))).foldl max 0 + if sumS l i = 0 then 1 else 0
def mostT (l : List Int) : Nat → List Int
  | 0 => []
  | i + 1 => mostT l i ++ [if i = 0 then 0 else mval l (ix (mostT l i)) i]
theorem mostT_len (l : List Int) : ∀ i, (mostT l i).length = i
  | 0 => rfl
  | i + 1 => by simp [mostT, mostT_len l i]
def most (l : List Int) (i : Nat) : Int := ix (mostT l (i + 1)) i
theorem mostT_ix (l : List Int) : ∀ {n i : Nat}, i < n → ix (mostT l n) i = most l i
  | 0, i, h => by omega
  | n + 1, i, h => by
    by_cases e : i = n
    · subst e; rfl
    · show ix (mostT l n ++ [_]) i = _
      rw [ix_app_ne (by rw [mostT_len]; exact e)]
      exact mostT_ix l (by omega)
theorem fold_max : ∀ (x : List Int) (b : Int), b ≤ x.foldl max b ∧ (∀ y ∈ x, y ≤ x.foldl max b) ∧ (x.foldl max b = b ∨ x.foldl max b ∈ x)
  | [], b => by simp
  | y :: x, b => by
    obtain ⟨h1, h2, h3⟩ := fold_max x (max b y)
    simp only [List.foldl_cons]
    refine ⟨by omega, fun z hz => ?_, ?_⟩
    · rcases List.mem_cons.1 hz with rfl | hz
      · omega
      · exact h2 z hz
    · rcases h3 with h3 | h3
      · rcases Int.le_total y b with h | h
        · left; omega
        · right; rw [h3, show max b y = y by omega]; exact List.mem_cons_self
      · exact .inr (List.mem_cons_of_mem _ h3)
theorem dif_lt {s t : Nat} (hs : s < 65536) (h : Sub t s) (h0 : 0 < t) : dif s t < s := by
  have := add_dif hs h
  omega
theorem most_zero (l : List Int) : most l 0 = 0 := rfl
theorem most_step {l : List Int} {i : Nat} (h0 : 0 < i) (hi : i < 65536) : most l i = mval l (most l) i := by
  have e : most l i = mval l (ix (mostT l i)) i := by
    have h := ix_app_last (mostT l i) (if i = 0 then 0 else mval l (ix (mostT l i)) i)
    rw [mostT_len, if_neg (by omega)] at h
    show ix (mostT l i ++ [if i = 0 then 0 else mval l (ix (mostT l i)) i]) i = _
    rw [if_neg (by omega)]
    exact h
  rw [e]
  unfold mval
  congr 2
  refine List.map_congr_left fun k hk => ?_
  have hb := (bits_mem.1 hk).2
  exact mostT_ix l (dif_lt hi (bit_one hb) (Nat.two_pow_pos k))
theorem most_ge {l : List Int} {i k : Nat} (hi : i < 65536) (hk : i.testBit k = true) : most l (dif i (2 ^ k)) + (if sumS l i = 0 then 1 else 0) ≤ most l i := by
  have h0 : 0 < i := Nat.pos_of_ne_zero fun e => by rw [e] at hk; simp at hk
  have hk32 : k < 32 := by
    refine Nat.lt_of_not_le fun h => ?_
    rw [Nat.testBit_lt_two_pow (Nat.lt_of_lt_of_le (show i < 2 ^ 16 from hi) (Nat.pow_le_pow_right (by decide) (by omega)))] at hk
    cases hk
  rw [most_step h0 hi]
  unfold mval
  have := (fold_max ((bitsL i).map fun k => most l (dif i (2 ^ k))) 0).2.1 _ (List.mem_map.2 ⟨k, bits_mem.2 ⟨hk32, hk⟩, rfl⟩)
  omega
theorem most_nn (l : List Int) {i : Nat} (hi : i < 65536) : 0 ≤ most l i := by
  rcases Nat.eq_zero_or_pos i with h0 | h0
  · subst h0; exact Int.le_of_eq (most_zero l).symm
  · rw [most_step h0 hi]
    unfold mval
    have := (fold_max ((bitsL i).map fun k => most l (dif i (2 ^ k))) 0).1
    split <;> omega
theorem most_is {l : List Int} {i : Nat} (h0 : 0 < i) (hi : i < 65536) : most l i = (if sumS l i = 0 then 1 else 0) ∨ ∃ k, i.testBit k = true ∧ most l i = most l (dif i (2 ^ k)) + if sumS l i = 0 then 1 else 0 := by
  rw [most_step h0 hi]
  unfold mval
  rcases (fold_max ((bitsL i).map fun k => most l (dif i (2 ^ k))) 0).2.2 with h | h
  · left; rw [h]; omega
  · right
    obtain ⟨k, hk, e⟩ := List.mem_map.1 h
    exact ⟨k, (bits_mem.1 hk).2, by rw [← e]⟩
theorem most_mono {l : List Int} : ∀ {s t : Nat}, s < 65536 → Sub t s → most l t ≤ most l s := by
  intro s
  induction s using Nat.strongRecOn with
  | _ s ih =>
    intro t hs h
    by_cases e : t = s
    · subst e; exact Int.le_refl _
    · obtain ⟨k, hk⟩ : ∃ k, s.testBit k = true ∧ t.testBit k = false := by
        refine Classical.byContradiction fun hn => e (Nat.eq_of_testBit_eq fun i => ?_)
        cases e1 : s.testBit i with
        | false =>
          cases e2 : t.testBit i with
          | false => rfl
          | true => rw [h i e2] at e1; cases e1
        | true =>
          cases e2 : t.testBit i with
          | true => rfl
          | false => exact absurd ⟨i, e1, e2⟩ hn
      have h1 := bit_one hk.1
      have h2 := dif_lt hs h1 (Nat.two_pow_pos k)
      have h3 : Sub t (dif s (2 ^ k)) := fun i hi => by
        rw [dif_bit hs (by have := h1.le; omega), h i hi, Nat.testBit_two_pow]
        have : ¬ k = i := fun e => by subst e; rw [hk.2] at hi; cases hi
        simp [this]
      have h4 := ih _ h2 (t := t) (by omega) h3
      have h5 := most_ge (l := l) hs hk.1
      split at h5 <;> omega
/-- A balanced part of a set that is worth as much. -/
theorem most_bal {l : List Int} : ∀ {u : Nat}, u < 65536 → ∃ t, Sub t u ∧ sumS l t = 0 ∧ most l t = most l u := by
  intro u
  induction u using Nat.strongRecOn with
  | _ u ih =>
    intro hu
    by_cases hb : sumS l u = 0
    · exact ⟨u, Sub.refl u, hb, rfl⟩
    · have h0 : 0 < u := Nat.pos_of_ne_zero fun e => hb (by rw [e]; exact sumS_zero l)
      rcases most_is (l := l) h0 hu with h | ⟨k, hk, h⟩
      · rw [if_neg hb] at h
        exact ⟨0, sub_zero u, sumS_zero l, by rw [h, most_zero]⟩
      · rw [if_neg hb] at h
        obtain ⟨t, t1, t2, t3⟩ := ih _ (dif_lt hu (bit_one hk) (Nat.two_pow_pos k)) (by have := dif_le u (2 ^ k); omega)
        exact ⟨t, t1.trans dif_sub, t2, by omega⟩
/-- What a balanced part takes away. -/
theorem most_part {l : List Int} {s p : Nat} (hs : s < 65536) (hb : sumS l s = 0) (hp : Sub p s) (h0 : 0 < p) : most l (dif s p) + 1 ≤ most l s := by
  obtain ⟨k, hk⟩ : ∃ k, p.testBit k = true := Classical.byContradiction fun hn => by
    have : p = 0 := Nat.eq_of_testBit_eq fun i => by
      cases e : p.testBit i with
      | true => exact absurd ⟨i, e⟩ hn
      | false => simp
    omega
  have hl := hp.le
  have h1 := most_ge (l := l) hs (hp k hk)
  rw [if_pos hb] at h1
  have h2k : 2 ^ k ≤ s := (bit_one (hp k hk)).le
  have h2 : Sub (dif s p) (dif s (2 ^ k)) := fun i hi => by
    rw [dif_bit hs (by omega)] at hi
    rw [dif_bit hs (by omega), Nat.testBit_two_pow]
    simp at hi
    have : ¬ k = i := fun e => by subst e; rw [hk] at hi; simp at hi
    simp [this, hi.1]
  have h3 := most_mono (l := l) (by have := dif_le s (2 ^ k); omega) h2
  omega
theorem tz_bit {s : Nat} (h0 : 0 < s) (hs : s < 65536) : s.testBit (tzN s) = true ∧ ∀ i, i < tzN s → s.testBit i = false := by
  obtain ⟨k, m, rfl⟩ := low_bit s h0
  rw [tz_low (by omega)]
  refine ⟨by rw [bit_x, if_pos (by omega)]; simp, fun i hi => ?_⟩
  rw [bit_x, if_pos (by omega)]
  simp; omega
theorem tz_eq {s t : Nat} (h0 : 0 < s) (hs : s < 65536) (h : Sub t s) (hb : t.testBit (tzN s) = true) : tzN t = tzN s := by
  have ht0 : 0 < t := Nat.pos_of_ne_zero fun e => by rw [e] at hb; simp at hb
  have hl := h.le
  obtain ⟨a1, a2⟩ := tz_bit h0 hs
  obtain ⟨b1, b2⟩ := tz_bit ht0 (by omega)
  rcases Nat.lt_trichotomy (tzN t) (tzN s) with g | g | g
  · have := h _ b1
    rw [a2 _ g] at this; cases this
  · exact g
  · rw [b2 _ g] at hb; cases hb
/-- A balanced set has a balanced part with its least index, the rest of which is worth one less. -/
theorem part_ex {l : List Int} : ∀ {s : Nat}, s < 65536 → 0 < s → sumS l s = 0 → ∃ p, Sub p s ∧ p.testBit (tzN s) = true ∧ sumS l p = 0 ∧ most l (dif s p) = most l s - 1 := by
  intro s
  induction s using Nat.strongRecOn with
  | _ s ih =>
    intro hs h0 hb
    have fin : ∀ p, Sub p s → p.testBit (tzN s) = true → sumS l p = 0 → most l s - 1 ≤ most l (dif s p) → ∃ p, Sub p s ∧ p.testBit (tzN s) = true ∧ sumS l p = 0 ∧ most l (dif s p) = most l s - 1 := fun p h1 h2 h3 h4 => by
      have hp0 : 0 < p := Nat.pos_of_ne_zero fun e => by rw [e] at h2; simp at h2
      have := most_part hs hb h1 hp0
      exact ⟨p, h1, h2, h3, by omega⟩
    obtain ⟨a1, a2⟩ := tz_bit h0 hs
    -- a balanced proper part that is worth one less
    obtain ⟨t, t1, t2, t3, t4⟩ : ∃ t, Sub t s ∧ t ≠ s ∧ sumS l t = 0 ∧ most l t = most l s - 1 := by
      rcases most_is (l := l) h0 hs with h | ⟨k, hk, h⟩
      · rw [if_pos hb] at h
        exact ⟨0, sub_zero s, by omega, sumS_zero l, by rw [h, most_zero]; rfl⟩
      · rw [if_pos hb] at h
        have hd := dif_lt hs (bit_one hk) (Nat.two_pow_pos k)
        obtain ⟨t, q1, q2, q3⟩ := most_bal (l := l) (u := dif s (2 ^ k)) (by omega)
        have := q1.le
        exact ⟨t, q1.trans dif_sub, by omega, q2, by omega⟩
    have hts := t1.le
    have hsum := sumS_dif (l := l) hs t1
    by_cases hc : t.testBit (tzN s) = true
    · have ht0 : 0 < t := Nat.pos_of_ne_zero fun e => by rw [e] at hc; simp at hc
      have htz := tz_eq h0 hs t1 hc
      obtain ⟨q, q1, q2, q3, q4⟩ := ih t (by omega) (by omega) ht0 t3
      rw [htz] at q2
      have hqs := q1.trans t1
      have hql := hqs.le
      have hqt := q1.le
      refine fin q hqs q2 q3 ?_
      -- the rest holds the rest of t, and what is not in t
      have hb2 : sumS l (dif s q) = 0 := by
        have := sumS_dif (l := l) hs hqs
        omega
      have hsub : Sub (dif s t) (dif s q) := fun i hi => by
        rw [dif_bit hs (by omega)] at hi
        rw [dif_bit hs (by omega)]
        simp at hi
        cases e : q.testBit i with
        | true => rw [q1 i e] at hi; simp at hi
        | false => simp [hi.1]
      have hd0 : 0 < dif s t := by
        have := add_dif hs t1
        omega
      have hle := dif_le s q
      have hle2 := dif_le s t
      have h5 := most_part (l := l) (s := dif s q) (p := dif s t) (by omega) hb2 hsub hd0
      have h6 : dif (dif s q) (dif s t) = dif t q := Nat.eq_of_testBit_eq fun i => by
        rw [dif_bit (by omega) (by omega), dif_bit hs (by omega), dif_bit hs (by omega), dif_bit (by omega) (by omega)]
        cases e : t.testBit i with
        | true => rw [t1 i e]; simp
        | false => cases s.testBit i <;> simp
      rw [h6] at h5
      omega
    · have hc : t.testBit (tzN s) = false := by simpa using hc
      refine fin (dif s t) dif_sub ?_ (by omega) ?_
      · rw [dif_bit hs (by omega), a1, hc]; rfl
      · rw [dif_dif hs t1]; omega
end Go.Proofs.YtapbhppfecfobaaDoor
