/- Plain: the first balanced partition; lexicographic order. -/
import Derived.Test.YtapbhppfecfobaaDoorI
set_option maxRecDepth 100000
set_option linter.unusedSimpArgs false
set_option linter.unusedVariables false
namespace Go.Proofs.YtapbhppfecfobaaDoor
open Go.RowKit
/-- Lexicographic order. -/
def lexL : List Int → List Int → Bool
  | _, [] => false
  | [], _ :: _ => true
  | x :: a, y :: b => decide (x < y) || (decide (x = y) && lexL a b)
theorem sub_next {s t left : Nat} (h0 : 0 < s) (hs : Sub s left) (ht : Sub t left) (hts : t < s) : t ≤ (s - 1) &&& left := by
  obtain ⟨k, m, rfl⟩ := low_bit s h0
  have hp : 0 < 2 ^ (k + 1) := Nat.two_pow_pos _
  have hd := Nat.div_add_mod t (2 ^ (k + 1))
  have hm := Nat.mod_lt t hp
  generalize t / 2 ^ (k + 1) = t1 at *
  generalize t % 2 ^ (k + 1) = t0 at *
  have hle : t1 ≤ m := by
    refine Nat.le_of_not_lt fun h => ?_
    have := Nat.mul_le_mul_left (2 ^ (k + 1)) (show m + 1 ≤ t1 from h)
    rw [Nat.mul_add, Nat.mul_one] at this
    have := two_lt k
    omega
  rcases Nat.lt_or_ge t1 m with hlt | hge
  · have h1 := Nat.mul_le_mul_left (2 ^ (k + 1)) (show t1 + 1 ≤ m from hlt)
    rw [Nat.mul_add, Nat.mul_one] at h1
    have h2 : 2 ^ (k + 1) * m ≤ (2 ^ (k + 1) * m + 2 ^ k - 1) &&& left := by
      refine Nat.le_of_testBit fun j hj => ?_
      have e := Nat.testBit_two_pow_mul_add (i := k + 1) (b := 0) m hp j
      rw [Nat.add_zero] at e
      rw [e] at hj
      split at hj
      · simp at hj
      · rename_i hjk
        rw [Nat.testBit_and, bit_x1, if_neg hjk, hj, Bool.true_and]
        refine hs j ?_
        rw [bit_x, if_neg hjk]; exact hj
    omega
  · obtain rfl : t1 = m := by omega
    have ht0 : t0 < 2 ^ k := by omega
    refine Nat.le_of_testBit fun j hj => ?_
    rw [Nat.testBit_and, ht j hj, Bool.and_true, bit_x1]
    rw [← hd, Nat.testBit_two_pow_mul_add _ hm] at hj
    split at hj
    · rename_i hjk
      rw [if_pos hjk]
      simp only [decide_eq_true_eq]
      refine Nat.lt_of_not_le fun h => ?_
      rw [Nat.testBit_lt_two_pow (Nat.lt_of_lt_of_le ht0 (Nat.pow_le_pow_right (by decide) h))] at hj
      cases hj
    · rename_i hjk
      rw [if_neg hjk]; exact hj
/-- Whether a part may be the next one. -/
def okP (l : List Int) (left s : Nat) : Bool := s.testBit (tzN left) && (decide (sumS l s = 0) && decide (most l (dif left s) = most l left - 1))
def upB (s : Nat) (o : Option Nat) : Option Nat := match o with
  | none => some s
  | some b => bif lexL (bL s) (bL b) then some s else some b
def stB (l : List Int) (left s : Nat) (o : Option Nat) : Option Nat := bif okP l left s then upB s o else o
/-- The first part, out of the subsets of left from s downwards. -/
def bestF (l : List Int) (left : Nat) : Nat → Nat → Option Nat → Option Nat
  | 0, _, o => o
  | f + 1, s, o => if s = 0 then o else bestF l left f ((s - 1) &&& left) (stB l left s o)
theorem nxt_lt {s left : Nat} (h : 0 < s) : (s - 1) &&& left < s := Nat.lt_of_le_of_lt Nat.and_le_left (by omega)
theorem bestF_fuel {l : List Int} {left : Nat} : ∀ (f f' s : Nat) (o : Option Nat), s ≤ f → s ≤ f' → bestF l left f s o = bestF l left f' s o
  | 0, 0, _, _, _, _ => rfl
  | 0, f' + 1, s, o, h, _ => by
    obtain rfl : s = 0 := by omega
    simp [bestF]
  | f + 1, 0, s, o, _, h => by
    obtain rfl : s = 0 := by omega
    simp [bestF]
  | f + 1, f' + 1, s, o, h, h' => by
    unfold bestF
    split
    · rfl
    · have := nxt_lt (left := left) (show 0 < s by omega)
      exact bestF_fuel f f' _ _ (by omega) (by omega)
def bestS (l : List Int) (left s : Nat) (o : Option Nat) : Option Nat := bestF l left s s o
theorem bestS_zero (l : List Int) (left : Nat) (o : Option Nat) : bestS l left 0 o = o := rfl
theorem bestS_step {l : List Int} {left s : Nat} (o : Option Nat) (h : 0 < s) : bestS l left s o = bestS l left ((s - 1) &&& left) (stB l left s o) := by
  obtain ⟨f, rfl⟩ : ∃ f, s = f + 1 := ⟨s - 1, by omega⟩
  show bestF l left (f + 1) (f + 1) o = _
  unfold bestF bestS
  rw [if_neg (by omega)]
  have := nxt_lt (left := left) h
  exact bestF_fuel _ _ _ _ (by omega) (Nat.le_refl _)
theorem upB_some (s : Nat) (o : Option Nat) : ∃ b, upB s o = some b ∧ (b = s ∨ o = some b) := by
  unfold upB
  split
  · exact ⟨s, rfl, .inl rfl⟩
  · rename_i b
    cases lexL (bL s) (bL b)
    · exact ⟨b, rfl, .inr rfl⟩
    · exact ⟨s, rfl, .inl rfl⟩
theorem best_mem {l : List Int} {left : Nat} : ∀ (s : Nat) (o : Option Nat) (b : Nat), Sub s left → bestS l left s o = some b → o = some b ∨ (okP l left b = true ∧ Sub b left ∧ 0 < b) := by
  intro s
  induction s using Nat.strongRecOn with
  | _ s ih =>
    intro o b hs h
    rcases Nat.eq_zero_or_pos s with h0 | h0
    · subst h0; exact .inl h
    · rw [bestS_step o h0] at h
      rcases ih _ (nxt_lt h0) _ b (fun i hi => by rw [Nat.testBit_and] at hi; simp at hi; exact hi.2) h with h2 | h2
      · unfold stB at h2
        cases hok : okP l left s with
        | false => rw [hok] at h2; exact .inl h2
        | true =>
          rw [hok] at h2
          obtain ⟨b', e, hb'⟩ := upB_some s o
          rw [cond_true, e] at h2
          obtain rfl : b' = b := by simpa using h2
          rcases hb' with rfl | hb'
          · exact .inr ⟨hok, hs, h0⟩
          · exact .inl hb'
      · exact .inr h2
theorem best_none {l : List Int} {left : Nat} : ∀ (s : Nat) (o : Option Nat), Sub s left → bestS l left s o = none → o = none ∧ ∀ t, Sub t left → 0 < t → t ≤ s → okP l left t = false := by
  intro s
  induction s using Nat.strongRecOn with
  | _ s ih =>
    intro o hs h
    rcases Nat.eq_zero_or_pos s with h0 | h0
    · subst h0; exact ⟨h, fun t _ h1 h2 => by omega⟩
    · rw [bestS_step o h0] at h
      obtain ⟨h2, h3⟩ := ih _ (nxt_lt h0) _ (fun i hi => by rw [Nat.testBit_and] at hi; simp at hi; exact hi.2) h
      have hok : okP l left s = false := by
        cases e : okP l left s with
        | false => rfl
        | true =>
          obtain ⟨b', e2, _⟩ := upB_some s o
          rw [stB, e, cond_true, e2] at h2
          cases h2
      rw [stB, hok, cond_false] at h2
      refine ⟨h2, fun t t1 t2 t3 => ?_⟩
      rcases Nat.lt_or_eq_of_le t3 with h4 | h4
      · exact h3 t t1 t2 (sub_next h0 hs t1 h4)
      · subst h4; exact hok
theorem best_ex {l : List Int} {left : Nat} (hl : left < 65536) (h0 : 0 < left) (hb : sumS l left = 0) : ∃ b, bestS l left left none = some b ∧ okP l left b = true ∧ Sub b left ∧ 0 < b := by
  cases e : bestS l left left none with
  | none =>
    obtain ⟨_, h2⟩ := best_none left none (Sub.refl _) e
    obtain ⟨p, p1, p2, p3, p4⟩ := part_ex hl h0 hb
    have hp0 : 0 < p := Nat.pos_of_ne_zero fun e => by rw [e] at p2; simp at p2
    have := h2 p p1 hp0 p1.le
    simp [okP, p2, p3, p4] at this
  | some b =>
    rcases best_mem left none b (Sub.refl _) e with h | h
    · cases h
    · exact ⟨b, rfl, h⟩
/-- The parts, one after the other. -/
def partF (l : List Int) : Nat → Nat → List (List Int)
  | 0, _ => []
  | f + 1, left => if left = 0 then [] else match bestS l left left none with
    | none => []
    | some b => bL b :: partF l f (dif left b)
theorem partF_fuel {l : List Int} : ∀ (f f' left : Nat), left < 65536 → left ≤ f → left ≤ f' → partF l f left = partF l f' left
  | 0, 0, _, _, _, _ => rfl
  | 0, f' + 1, s, _, h, _ => by
    obtain rfl : s = 0 := by omega
    simp [partF]
  | f + 1, 0, s, _, _, h => by
    obtain rfl : s = 0 := by omega
    simp [partF]
  | f + 1, f' + 1, s, hs, h, h' => by
    unfold partF
    split
    · rfl
    · split
      · rfl
      · rename_i b hb
        rcases best_mem s none b (Sub.refl _) hb with h2 | ⟨_, h3, h4⟩
        · cases h2
        · have := dif_lt hs h3 h4
          rw [partF_fuel f f' _ (by omega) (by omega) (by omega)]
def partS (l : List Int) (left : Nat) : List (List Int) := partF l left left
theorem partS_step {l : List Int} {left b : Nat} (hl : left < 65536) (h0 : 0 < left) (hb : bestS l left left none = some b) : partS l left = bL b :: partS l (dif left b) := by
  obtain ⟨f, hf⟩ : ∃ f, left = f + 1 := ⟨left - 1, by omega⟩
  have e : partS l left = partF l (f + 1) left := by rw [partS, ← hf]
  rw [e]
  unfold partF
  rw [if_neg (by omega), hb]
  simp only
  rcases best_mem left none b (Sub.refl _) hb with h2 | ⟨_, h3, h4⟩
  · cases h2
  · have := dif_lt hl h3 h4
    rw [partS, partF_fuel f (dif left b) _ (by omega) (by omega) (Nat.le_refl _)]
def allN (l : List Int) : Nat := 2 ^ l.length - 1
def partsE (l : List Int) : Int := if givE l ≠ 0 then givE l else if sumS l (allN l) ≠ 0 then 18 else 0
def partsL (l : List Int) : List (List Int) := if partsE l ≠ 0 then [] else partS l (allN l)
end Go.Proofs.YtapbhppfecfobaaDoor
