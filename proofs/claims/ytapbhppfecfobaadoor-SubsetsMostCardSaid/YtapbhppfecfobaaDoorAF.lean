/- Plain: lists in another order, opposite numbers, more numbers. -/
import Derived.Test.YtapbhppfecfobaaDoorAD
import Derived.Test.YtapbhppfecfobaaDoorAB
set_option maxRecDepth 100000
set_option linter.unusedSimpArgs false
set_option linter.unusedVariables false
namespace Go.Proofs.YtapbhppfecfobaaDoor
open Go.RowKit
theorem part_len {l : List Int} : ∀ {left : Nat}, left < 65536 → sumS l left = 0 → ((partS l left).length : Int) = most l left := by
  intro left
  induction left using Nat.strongRecOn with
  | _ left ih =>
    intro hl hb
    rcases Nat.eq_zero_or_pos left with h0 | h0
    · subst h0; rw [most_zero]; rfl
    · obtain ⟨b, h1, h2, h3, h4⟩ := best_ex hl h0 hb
      simp only [okP, Bool.and_eq_true, decide_eq_true_eq] at h2
      have hd := sumS_dif (l := l) hl h3
      have hlt := dif_lt hl h3 h4
      have := ih _ hlt (by omega) (by omega)
      rw [partS_step hl h0 h1, List.length_cons]
      push_cast
      omega
theorem most_le_rel {l l' : List Int} (R : Nat → Nat → Prop) (hb : ∀ s t, R s t → s < 65536 ∧ t < 65536) (hz : ∀ s t, R s t → sumS l s = 0 → sumS l' t = 0) (h0 : ∀ s t, R s t → sumS l s ≠ 0 → sumS l' t ≠ 0)
    (h1 : ∀ s t k, R s t → s.testBit k = true → ∃ k', t.testBit k' = true ∧ R (dif s (2 ^ k)) (dif t (2 ^ k'))) : ∀ s t, R s t → most l s ≤ most l' t := by
  intro s
  induction s using Nat.strongRecOn with
  | _ s ih =>
    intro t hR
    obtain ⟨hs, ht⟩ := hb s t hR
    have hnn := most_nn l' ht
    have hd : (if sumS l s = 0 then (1 : Int) else 0) = if sumS l' t = 0 then 1 else 0 := by
      by_cases e : sumS l s = 0
      · rw [if_pos e, if_pos (hz s t hR e)]
      · rw [if_neg e, if_neg (h0 s t hR e)]
    rcases Nat.eq_zero_or_pos s with e | e
    · subst e; rw [most_zero]; exact hnn
    · have key : ∀ k, s.testBit k = true → ∃ k', t.testBit k' = true ∧ R (dif s (2 ^ k)) (dif t (2 ^ k')) := fun k hk => h1 s t k hR hk
      rcases most_is (l := l) e hs with h | ⟨k, hk, h⟩
      · obtain ⟨k', hk', hR'⟩ := key _ (tz_bit e hs).1
        have hg := most_ge (l := l') ht hk'
        have hnn2 := most_nn l' (hb _ _ hR').2
        omega
      · obtain ⟨k', hk', hR'⟩ := key k hk
        have hg := most_ge (l := l') ht hk'
        have hlt := dif_lt hs (bit_one hk) (Nat.two_pow_pos _)
        have := ih _ hlt _ hR'
        omega
theorem sumS_neg (l : List Int) (s : Nat) : sumS (l.map fun x => -x) s = -sumS l s := by
  unfold sumS
  have hi : ∀ i, ix (l.map fun x => -x) i = -ix l i := fun i => by
    unfold ix
    rw [List.getD_eq_getElem?_getD, List.getD_eq_getElem?_getD, List.getElem?_map]
    cases l[i]? <;> rfl
  induction bitsL s with
  | nil => rfl
  | cons b L ih =>
    simp only [hi] at ih
    simp only [List.map_cons, List.sum_cons, hi]
    rw [ih]; omega
theorem most_neg (l : List Int) {s : Nat} (hs : s < 65536) : most (l.map fun x => -x) s = most l s := by
  have h := sumS_neg l
  have a := most_le_rel (l := l) (l' := l.map fun x => -x) (fun s t => s = t ∧ s < 65536) (fun s t h => ⟨h.2, h.1 ▸ h.2⟩) (fun s t h1 h2 => by rw [← h1.1, h]; omega) (fun s t h1 h2 => by rw [← h1.1, h]; omega)
    (fun s t k h1 hk => ⟨k, h1.1 ▸ hk, by rw [h1.1], by have := dif_le s (2 ^ k); omega⟩) s s ⟨rfl, hs⟩
  have b := most_le_rel (l := l.map fun x => -x) (l' := l) (fun s t => s = t ∧ s < 65536) (fun s t h => ⟨h.2, h.1 ▸ h.2⟩) (fun s t h1 h2 => by rw [← h1.1]; rw [h] at h2; omega) (fun s t h1 h2 => by rw [← h1.1]; rw [h] at h2; omega)
    (fun s t k h1 hk => ⟨k, h1.1 ▸ hk, by rw [h1.1], by have := dif_le s (2 ^ k); omega⟩) s s ⟨rfl, hs⟩
  omega
theorem best_congr {l l' : List Int} {left : Nat} (h : ∀ s, s ≤ left → okP l left s = okP l' left s) : ∀ (f s : Nat) (o : Option Nat), s ≤ left → bestF l left f s o = bestF l' left f s o
  | 0, _, _, _ => rfl
  | f + 1, s, o, hs => by
    unfold bestF
    by_cases e : s = 0
    · rw [if_pos e, if_pos e]
    · rw [if_neg e, if_neg e]
      have hn := nxt_lt (left := left) (show 0 < s by omega)
      have hst : stB l left s o = stB l' left s o := by rw [stB, stB, h s hs]
      rw [hst]
      exact best_congr h f _ _ (by omega)
theorem part_congr {l l' : List Int} (h : ∀ left s, left < 65536 → s ≤ left → okP l left s = okP l' left s) : ∀ (f left : Nat), left < 65536 → partF l f left = partF l' f left
  | 0, _, _ => rfl
  | f + 1, left, hl => by
    unfold partF
    have hb : bestS l left left none = bestS l' left left none := best_congr (fun s hs => h left s hl hs) _ _ _ (Nat.le_refl _)
    rw [hb]
    by_cases e : left = 0
    · rw [if_pos e, if_pos e]
    · rw [if_neg e, if_neg e]
      cases bestS l' left left none with
      | none => rfl
      | some b =>
        have := dif_le left b
        show bL b :: partF l f (dif left b) = bL b :: partF l' f (dif left b)
        rw [part_congr h f _ (by omega)]
theorem okP_neg (l : List Int) {left s : Nat} (hl : left < 65536) : okP (l.map fun x => -x) left s = okP l left s := by
  unfold okP
  have hd := dif_le left s
  rw [sumS_neg, most_neg l hl, most_neg l (show dif left s < 65536 by omega)]
  congr 2
  rw [decide_eq_decide]; omega
/-- A number by its bits. -/
def mkN (p : Nat → Bool) : Nat → Nat
  | 0 => 0
  | n + 1 => mkN p n ||| (if p n then 2 ^ n else 0)
theorem mkN_bit (p : Nat → Bool) : ∀ (n i : Nat), (mkN p n).testBit i = (decide (i < n) && p i)
  | 0, i => by simp [mkN]
  | n + 1, i => by
    rw [mkN, Nat.testBit_or, mkN_bit p n i]
    by_cases e : p n = true
    · rw [if_pos e, Nat.testBit_two_pow]
      by_cases e2 : n = i
      · subst e2; simp [e]
      · have : decide (i < n + 1) = decide (i < n) := by rw [decide_eq_decide]; omega
        simp [e2, this]
    · rw [if_neg e, Nat.zero_testBit, Bool.or_false]
      by_cases e2 : i = n
      · subst e2; simp [e]
      · have : decide (i < n + 1) = decide (i < n) := by rw [decide_eq_decide]; omega
        rw [this]
theorem mkN_lt (p : Nat → Bool) : ∀ n, mkN p n < 2 ^ n
  | 0 => by simp [mkN]
  | n + 1 => by
    rw [mkN]
    have h := mkN_lt p n
    have h2 : 2 ^ (n + 1) = 2 * 2 ^ n := by rw [Nat.pow_succ]; omega
    refine Nat.or_lt_two_pow (by omega) ?_
    split
    · exact two_lt n
    · exact Nat.two_pow_pos _
def rvN (n s : Nat) : Nat := mkN (fun i => s.testBit (n - 1 - i)) n
theorem bit_lt {s n i : Nat} (h : s < 2 ^ n) (hi : s.testBit i = true) : i < n := by
  refine Nat.lt_of_not_le fun h2 => ?_
  rw [Nat.testBit_lt_two_pow (Nat.lt_of_lt_of_le h (Nat.pow_le_pow_right (by decide) h2))] at hi
  cases hi
theorem rvN_rvN {n s : Nat} (h : s < 2 ^ n) : rvN n (rvN n s) = s := by
  refine Nat.eq_of_testBit_eq fun i => ?_
  unfold rvN
  rw [mkN_bit]
  by_cases hi : i < n
  · rw [mkN_bit, show n - 1 - (n - 1 - i) = i by omega]
    have : n - 1 - i < n := by omega
    simp [hi, this]
  · rw [Nat.testBit_lt_two_pow (Nat.lt_of_lt_of_le h (Nat.pow_le_pow_right (by decide) (by omega)))]
    simp [hi]
theorem sumN_list (l : List Int) (s : Nat) : ∀ k, sumN l s k = ((List.range k).map fun i => if s.testBit i then ix l i else 0).sum
  | 0 => rfl
  | k + 1 => by
    rw [sumN, sumN_list l s k, List.range_succ, List.map_append, List.sum_append]
    simp only [List.map_cons, List.map_nil, List.sum_cons, List.sum_nil]
    split <;> omega
theorem range_rev (f : Nat → Int) (n : Nat) : ((List.range n).map fun i => f (n - 1 - i)).sum = ((List.range n).map f).sum := by
  have e : ((List.range n).map fun i => f (n - 1 - i)) = ((List.range n).map f).reverse := by
    refine List.ext_getElem (by simp) fun i h1 h2 => ?_
    simp
  rw [e, List.sum_reverse]
theorem ix_rev {l : List Int} {i : Nat} (h : i < l.length) : ix l.reverse i = ix l (l.length - 1 - i) := by
  rw [ix_eq (by simpa using h), ix_eq (by omega), List.getElem_reverse]
theorem sumS_rev {l : List Int} (hl : l.length ≤ 16) {s : Nat} (h : s < 2 ^ l.length) : sumS l.reverse (rvN l.length s) = sumS l s := by
  have hr : rvN l.length s < 2 ^ l.length := mkN_lt _ _
  rw [← sumN_all (l := l.reverse) hr (by omega), ← sumN_all (l := l) h (by omega), sumN_list, sumN_list, ← range_rev (fun i => if s.testBit i then ix l i else 0)]
  refine congrArg List.sum (List.map_congr_left fun i hi => ?_)
  have hi : i < l.length := by simpa using hi
  rw [ix_rev hi, rvN, mkN_bit]
  simp [hi]
theorem dif_rev {n s k : Nat} (hn : n ≤ 16) (h : s < 2 ^ n) (hk : k < n) : dif (rvN n s) (2 ^ (n - 1 - k)) = rvN n (dif s (2 ^ k)) := by
  have hp : 2 ^ n ≤ 2 ^ 16 := Nat.pow_le_pow_right (by decide) hn
  have hr : rvN n s < 2 ^ n := mkN_lt _ _
  have h1 : 2 ^ k < 2 ^ 16 := Nat.pow_lt_pow_right (by decide) (by omega)
  have h2 : 2 ^ (n - 1 - k) < 2 ^ 16 := Nat.pow_lt_pow_right (by decide) (by omega)
  refine Nat.eq_of_testBit_eq fun i => ?_
  rw [dif_bit (by omega) h2, Nat.testBit_two_pow]
  unfold rvN
  rw [mkN_bit, mkN_bit, dif_bit (by omega) h1, Nat.testBit_two_pow]
  by_cases hi : i < n
  · have e : decide (n - 1 - k = i) = decide (k = n - 1 - i) := by rw [decide_eq_decide]; omega
    simp [hi, e]
  · simp [hi]
theorem most_rev1 {l : List Int} (hl : l.length ≤ 16) {s : Nat} (h : s < 2 ^ l.length) : most l s ≤ most l.reverse (rvN l.length s) := by
  have hp : 2 ^ l.length ≤ 2 ^ 16 := Nat.pow_le_pow_right (by decide) hl
  refine most_le_rel (fun s t => s < 2 ^ l.length ∧ t = rvN l.length s) (fun s t h => ⟨by omega, ?_⟩) (fun s t h h2 => ?_) (fun s t h h2 => ?_) (fun s t k h hk => ?_) s _ ⟨h, rfl⟩
  · have : rvN l.length s < 2 ^ l.length := mkN_lt _ _
    omega
  · rw [h.2, sumS_rev hl h.1]; exact h2
  · rw [h.2, sumS_rev hl h.1]; exact h2
  · have hkn := bit_lt h.1 hk
    have := dif_le s (2 ^ k)
    refine ⟨l.length - 1 - k, ?_, by omega, ?_⟩
    · rw [h.2, rvN, mkN_bit, show l.length - 1 - (l.length - 1 - k) = k by omega, hk]
      simp; omega
    · rw [h.2, dif_rev hl h.1 hkn]
theorem most_rev {l : List Int} (hl : l.length ≤ 16) {s : Nat} (h : s < 2 ^ l.length) : most l.reverse (rvN l.length s) = most l s := by
  have a := most_rev1 hl h
  have b := most_rev1 (l := l.reverse) (by rw [List.length_reverse]; exact hl) (s := rvN l.length s) (by rw [List.length_reverse]; exact mkN_lt _ _)
  rw [List.reverse_reverse, List.length_reverse, rvN_rvN h] at b
  omega
theorem rvN_all (n : Nat) : rvN n (2 ^ n - 1) = 2 ^ n - 1 := by
  refine Nat.eq_of_testBit_eq fun i => ?_
  rw [rvN, mkN_bit, all_bit, all_bit]
  by_cases h : i < n
  · have : n - 1 - i < n := by omega
    simp [h, this]
  · simp [h]
theorem sumsL_rev {l : List Int} (hl : l.length ≤ 16) : sumsL l.reverse = sumsL l := by
  refine asc_ext _ _ (sums_asc _) (sums_asc _) fun x => ?_
  rw [sums_mem, sums_mem, List.length_reverse]
  constructor
  · rintro ⟨s, h, rfl⟩
    refine ⟨rvN l.length s, mkN_lt _ _, ?_⟩
    have := sumS_rev (l := l.reverse) (by rw [List.length_reverse]; exact hl) (s := s) (by rw [List.length_reverse]; exact h)
    rw [List.reverse_reverse, List.length_reverse] at this
    exact this.symm
  · rintro ⟨s, h, rfl⟩
    exact ⟨rvN l.length s, mkN_lt _ _, (sumS_rev hl h).symm⟩
theorem sumsL_neg (l : List Int) : sumsL (l.map fun x => -x) = ((sumsL l).map fun x => -x).reverse := by
  refine asc_ext _ _ (sums_asc _) ?_ fun x => ?_
  · rw [List.pairwise_reverse, List.pairwise_map]
    exact (sums_asc l).imp fun h => by omega
  · rw [List.mem_reverse, List.mem_map, sums_mem, List.length_map]
    constructor
    · rintro ⟨s, h, rfl⟩
      exact ⟨sumS l s, sums_mem.2 ⟨s, h, rfl⟩, (sumS_neg l s).symm⟩
    · rintro ⟨y, hy, rfl⟩
      obtain ⟨s, h, rfl⟩ := sums_mem.1 hy
      exact ⟨s, h, (sumS_neg l s).symm⟩
theorem given_of {l : List Int} (h1 : l.length ≤ 16) (h2 : ∀ x ∈ l, -1125899906842624 ≤ x ∧ x ≤ 1125899906842624) : givE l = 0 := by
  rw [givE, if_neg (by omega), if_neg]
  intro h
  obtain ⟨x, hx, hb⟩ := List.any_eq_true.1 h
  have := h2 x hx
  simp only [badN, Bool.or_eq_true, decide_eq_true_eq] at hb
  omega
theorem parts_len {l : List Int} (h : partsE l = 0) : ((partsL l).length : Int) = most l (allN l) ∧ sumS l (allN l) = 0 ∧ allN l < 65536 := by
  have hg := partsE_giv h
  obtain ⟨h1, _⟩ := given_0 hg
  have hp : 2 ^ l.length ≤ 2 ^ 16 := Nat.pow_le_pow_right (by decide) h1
  have h3 : sumS l (allN l) = 0 := by
    refine Classical.not_not.1 fun h2 => ?_
    rw [partsE, if_neg (by simp [hg]), if_pos h2] at h
    cases h
  have hA : allN l < 65536 := by
    have := Nat.two_pow_pos l.length
    unfold allN; omega
  refine ⟨?_, h3, hA⟩
  rw [partsL, if_neg (by simp [h])]
  exact part_len hA h3
theorem partsE_val {l : List Int} (hg : givE l = 0) : partsE l = if sumS l (allN l) = 0 then 0 else 18 := by
  rw [partsE, if_neg (by simp [hg])]
  by_cases h : sumS l (allN l) = 0
  · rw [if_neg (by simp [h]), if_pos h]
  · rw [if_pos h, if_neg h]
theorem rev_facts {l : List Int} (hg : givE l = 0) : givE l.reverse = 0 ∧ partsE l.reverse = partsE l ∧ (partsL l.reverse).length = (partsL l).length := by
  obtain ⟨h1, h2⟩ := given_0 hg
  have hg2 : givE l.reverse = 0 := given_of (by rw [List.length_reverse]; exact h1) fun x hx => h2 x (List.mem_reverse.1 hx)
  have hall : allN l.reverse = allN l := by unfold allN; rw [List.length_reverse]
  have hlt : allN l < 2 ^ l.length := by
    have := Nat.two_pow_pos l.length
    unfold allN; omega
  have hrv : rvN l.length (allN l) = allN l := rvN_all _
  have hs := sumS_rev h1 hlt
  have hm := most_rev h1 hlt
  rw [hrv] at hs hm
  have he : partsE l.reverse = partsE l := by rw [partsE_val hg2, partsE_val hg, hall, hs]
  refine ⟨hg2, he, ?_⟩
  by_cases h0 : partsE l = 0
  · obtain ⟨a1, _, _⟩ := parts_len h0
    obtain ⟨b1, _, _⟩ := parts_len (he.trans h0)
    rw [hall, hm] at b1
    omega
  · have c1 : partsL l = [] := if_pos h0
    have c2 : partsL l.reverse = [] := if_pos (by rw [he]; exact h0)
    rw [c1, c2]
theorem neg_facts {l : List Int} (hg : givE l = 0) : givE (l.map fun x => -x) = 0 ∧ partsE (l.map fun x => -x) = partsE l ∧ partsL (l.map fun x => -x) = partsL l := by
  obtain ⟨h1, h2⟩ := given_0 hg
  have hg2 : givE (l.map fun x => -x) = 0 := given_of (by rw [List.length_map]; exact h1) fun x hx => by
    obtain ⟨y, hy, rfl⟩ := List.mem_map.1 hx
    have := h2 y hy
    omega
  have hall : allN (l.map fun x => -x) = allN l := by unfold allN; rw [List.length_map]
  have he : partsE (l.map fun x => -x) = partsE l := by
    rw [partsE_val hg2, partsE_val hg, hall, sumS_neg]
    by_cases h : sumS l (allN l) = 0
    · rw [if_pos h, if_pos (by omega)]
    · rw [if_neg h, if_neg (by omega)]
  refine ⟨hg2, he, ?_⟩
  by_cases h0 : partsE l = 0
  · obtain ⟨_, _, hA⟩ := parts_len h0
    rw [partsL, if_neg (by rw [he]; simp [h0]), partsL, if_neg (by simp [h0]), hall]
    exact part_congr (fun left s hl _ => okP_neg l hl) _ _ hA
  · have c1 : partsL l = [] := if_pos h0
    have c2 : partsL (l.map fun x => -x) = [] := if_pos (by rw [he]; exact h0)
    rw [c1, c2]
theorem sumS_app {l m : List Int} {s : Nat} (h : s < 2 ^ l.length) (hl : l.length ≤ 32) : sumS (l ++ m) s = sumS l s := by
  unfold sumS
  refine congrArg List.sum (List.map_congr_left fun i hi => ?_)
  have hi : i < l.length := bits_lt h hi
  unfold ix
  rw [List.getD_eq_getElem?_getD, List.getD_eq_getElem?_getD, List.getElem?_append_left hi]
theorem most_app {l m : List Int} {s : Nat} (h : s < 2 ^ l.length) (hl : l.length ≤ 16) : most l s ≤ most (l ++ m) s := by
  have hp : 2 ^ l.length ≤ 2 ^ 16 := Nat.pow_le_pow_right (by decide) hl
  refine most_le_rel (fun s t => s = t ∧ s < 2 ^ l.length) (fun s t h => ⟨by omega, by omega⟩) (fun s t h1 h2 => ?_) (fun s t h1 h2 => ?_) (fun s t k h1 hk => ⟨k, h1.1 ▸ hk, by rw [h1.1], by have := dif_le s (2 ^ k); omega⟩) s s ⟨rfl, h⟩
  · rw [← h1.1, sumS_app h1.2 (by omega)]; exact h2
  · rw [← h1.1, sumS_app h1.2 (by omega)]; exact h2
theorem more_facts {l : List Int} {m : Int} (h : partsE l = 0) (hl : l.length ≤ 14) (hm : 0 ≤ m ∧ m ≤ 4294967295) : partsE (l ++ [m, -m]) = 0 ∧ (partsL l).length + 1 ≤ (partsL (l ++ [m, -m])).length := by
  have hg := partsE_giv h
  obtain ⟨h1, h2⟩ := given_0 hg
  obtain ⟨a1, a2, a3⟩ := parts_len h
  have hlen : (l ++ [m, -m]).length = l.length + 2 := by simp
  have hg2 : givE (l ++ [m, -m]) = 0 := given_of (by omega) fun x hx => by
    rcases List.mem_append.1 hx with e | e
    · exact h2 x e
    · simp at e
      omega
  have hz : sumS (l ++ [m, -m]) (allN (l ++ [m, -m])) = 0 := by
    rw [sum_all (by omega)]
    rw [sum_all h1] at a2
    rw [List.sum_append, a2]
    simp
    omega
  have he : partsE (l ++ [m, -m]) = 0 := by rw [partsE_val hg2, if_pos hz]
  refine ⟨he, ?_⟩
  obtain ⟨b1, _, b3⟩ := parts_len he
  have hltl : allN l < 2 ^ l.length := by
    have := Nat.two_pow_pos l.length
    unfold allN; omega
  have hsub : Sub (allN l) (allN (l ++ [m, -m])) := fun i hi => by
    unfold allN at hi ⊢
    rw [all_bit, decide_eq_true_eq] at hi ⊢
    omega
  have hd := sumS_dif (l := l ++ [m, -m]) b3 hsub
  rw [sumS_app hltl (by omega), a2, hz] at hd
  have hdd := dif_dif b3 hsub
  have hsd : Sub (dif (allN (l ++ [m, -m])) (allN l)) (allN (l ++ [m, -m])) := dif_sub
  have hpos : 0 < dif (allN (l ++ [m, -m])) (allN l) := Nat.pos_of_ne_zero fun e => by
    have hbit : (dif (allN (l ++ [m, -m])) (allN l)).testBit l.length = true := by
      rw [dif_bit b3 a3]
      unfold allN
      rw [all_bit, all_bit]
      simp
    rw [e] at hbit
    simp at hbit
  have hmp := most_part b3 hz hsd hpos
  rw [hdd] at hmp
  have := most_app (m := [m, -m]) hltl h1
  omega
end Go.Proofs.YtapbhppfecfobaaDoor
