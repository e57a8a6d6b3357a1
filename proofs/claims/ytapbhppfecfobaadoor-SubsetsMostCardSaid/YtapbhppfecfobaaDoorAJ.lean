/- Plain: the whole of a part is the first subset with the sum 0; no right partition has more parts. -/
import Derived.Test.YtapbhppfecfobaaDoorAI
set_option maxRecDepth 100000
set_option linter.unusedSimpArgs false
set_option linter.unusedVariables false
namespace Go.Proofs.YtapbhppfecfobaaDoor
open Go.RowKit
theorem ascN_ext : ∀ (a b : List Nat), a.Pairwise (· < ·) → b.Pairwise (· < ·) → (∀ x, x ∈ a ↔ x ∈ b) → a = b
  | [], [], _, _, _ => rfl
  | [], y :: b, _, _, h => by have := (h y).2 (by simp); simp at this
  | x :: a, [], _, _, h => by have := (h x).1 (by simp); simp at this
  | x :: a, y :: b, ha, hb, h => by
    have ha' := List.pairwise_cons.1 ha
    have hb' := List.pairwise_cons.1 hb
    have hxy : x = y := by
      rcases List.mem_cons.1 ((h x).1 (by simp)) with e | e
      · exact e
      · rcases List.mem_cons.1 ((h y).2 (by simp)) with e2 | e2
        · exact e2.symm
        · have := ha'.1 _ e2
          have := hb'.1 _ e
          omega
    subst hxy
    rw [ascN_ext a b ha'.2 hb'.2 fun z => ⟨fun hz => ?_, fun hz => ?_⟩]
    · rcases List.mem_cons.1 ((h z).1 (by simp [hz])) with e | e
      · subst e; exact absurd (ha'.1 _ hz) (Nat.lt_irrefl _)
      · exact e
    · rcases List.mem_cons.1 ((h z).2 (by simp [hz])) with e | e
      · subst e; exact absurd (hb'.1 _ hz) (Nat.lt_irrefl _)
      · exact e
/-- A subset of a part's numbers, as a subset of the list. -/
def embN (b t : Nat) : Nat := mkN (fun j => (List.range (bitsL b).length).any fun i => t.testBit i && decide ((bitsL b).getD i 0 = j)) 16
theorem embN_bit {b t j : Nat} (hb : b < 65536) : (embN b t).testBit j = true ↔ ∃ i, i < (bitsL b).length ∧ t.testBit i = true ∧ (bitsL b).getD i 0 = j := by
  unfold embN
  rw [mkN_bit, Bool.and_eq_true, List.any_eq_true, decide_eq_true_eq]
  constructor
  · rintro ⟨_, i, hi, h⟩
    simp only [Bool.and_eq_true, decide_eq_true_eq] at h
    exact ⟨i, List.mem_range.1 hi, h.1, h.2⟩
  · rintro ⟨i, hi, h1, h2⟩
    refine ⟨?_, i, List.mem_range.2 hi, by rw [h1, decide_eq_true h2]; rfl⟩
    have hm : (bitsL b).getD i 0 ∈ bitsL b := by
      rw [List.getD_eq_getElem?_getD, List.getElem?_eq_getElem hi]
      exact List.getElem_mem hi
    rw [h2] at hm
    exact bits_lt (n := 16) hb hm
theorem getD_lt {b i j : Nat} (hij : i < j) (hj : j < (bitsL b).length) : (bitsL b).getD i 0 < (bitsL b).getD j 0 := by
  rw [List.getD_eq_getElem?_getD, List.getElem?_eq_getElem (by omega), List.getD_eq_getElem?_getD, List.getElem?_eq_getElem hj]
  exact List.pairwise_iff_getElem.1 (bits_asc b) i j (by omega) hj hij
theorem embN_bits {b t : Nat} (hb : b < 65536) : bitsL (embN b t) = ((List.range (bitsL b).length).filter fun i => t.testBit i).map fun i => (bitsL b).getD i 0 := by
  refine ascN_ext _ _ (bits_asc _) ?_ fun x => ?_
  · rw [List.pairwise_map]
    refine List.Pairwise.imp_of_mem (fun {i j} hi hj h => getD_lt h ?_) (List.Pairwise.sublist List.filter_sublist List.pairwise_lt_range)
    exact List.mem_range.1 (List.mem_filter.1 hj).1
  · rw [bits_mem, embN_bit hb, List.mem_map]
    constructor
    · rintro ⟨_, i, h1, h2, h3⟩
      exact ⟨i, List.mem_filter.2 ⟨List.mem_range.2 h1, h2⟩, h3⟩
    · rintro ⟨i, hi, h3⟩
      obtain ⟨h1, h2⟩ := List.mem_filter.1 hi
      have h4 := List.mem_range.1 h1
      refine ⟨?_, i, h4, h2, h3⟩
      have hm : (bitsL b).getD i 0 ∈ bitsL b := by
        rw [List.getD_eq_getElem?_getD, List.getElem?_eq_getElem h4]
        exact List.getElem_mem h4
      rw [h3] at hm
      exact (bits_mem.1 hm).1
def valL (l : List Int) (p : List Int) : List Int := p.map fun x => ix l x.toNat
theorem valL_ix {l : List Int} {b i : Nat} (h : i < (bitsL b).length) : ix (valL l (bL b)) i = ix l ((bitsL b).getD i 0) := by
  unfold valL bL
  rw [ix_eq (by simpa using h)]
  simp [List.getElem?_eq_getElem h]
theorem embN_sum {l : List Int} {b t : Nat} (hb : b < 65536) (ht : t < 2 ^ (bitsL b).length) : sumS l (embN b t) = sumS (valL l (bL b)) t := by
  have hbl := bits_len b
  unfold sumS
  rw [embN_bits hb, List.map_map, bits_n ht (by omega)]
  refine congrArg List.sum (List.map_congr_left fun i hi => ?_)
  have := List.mem_range.1 (List.mem_filter.1 hi).1
  rw [valL_ix this]
  rfl
theorem first_is {f : Nat → Int} {sum least : Int} : ∀ {k b : Nat}, firstT f sum least k = some b → f b = sum ∧ least ≤ szS b
  | 0, b, h => by cases h
  | k + 1, b, h => by
    unfold firstT at h
    split at h
    · rename_i e
      split at h
      · obtain rfl : k = b := by simpa using h
        exact e
      · rename_i b' hb'
        cases hl : lessS k b' with
        | true =>
          rw [hl] at h
          obtain rfl : k = b := by simpa using h
          exact e
        | false =>
          rw [hl] at h
          obtain rfl : b' = b := by simpa using h
          exact first_is hb'
    · exact first_is h
theorem first_some {f : Nat → Int} {sum least : Int} {s : Nat} (h1 : f s = sum) (h2 : least ≤ szS s) : ∀ k, s < k → (firstT f sum least k).isSome = true
  | 0, h => by omega
  | k + 1, h => by
    unfold firstT
    by_cases e : s = k
    · subst e
      rw [if_pos ⟨h1, h2⟩]
      split
      · rfl
      · rename_i b _
        cases lessS s b <;> rfl
    · have := first_some h1 h2 k (by omega)
      split
      · split
        · rfl
        · rename_i b _
          cases lessS k b <;> rfl
      · exact this
theorem bits_full {m : Nat} (h : m ≤ 32) : (bitsL (2 ^ m - 1)).length = m := by
  have hlt : 2 ^ m - 1 < 2 ^ m := by have := Nat.two_pow_pos m; omega
  rw [bits_n hlt h, List.filter_eq_self.2 fun i hi => by rw [all_bit, decide_eq_true_eq]; exact List.mem_range.1 hi]
  simp
theorem zero_part {l : List Int} {b : Nat} (hx : ∀ x ∈ l, -1125899906842624 ≤ x ∧ x ≤ 1125899906842624) (hb : b < 65536) (h0 : 0 < b) (hm : (bitsL b).length ≤ 16) (hs : sumS l b = 0) (hw : ∀ c, Sub c b → 0 < c → sumS l c = 0 → c = b) :
    givE (valL l (bL b)) = 0 ∧ findE (valL l (bL b)) 0 1 = 0 ∧ (findL (valL l (bL b)) 0 1).length = (valL l (bL b)).length := by
  have hlen : (valL l (bL b)).length = (bitsL b).length := by rw [valL, List.length_map, bL_len]
  have hg : givE (valL l (bL b)) = 0 := given_of (by omega) fun x hxm => by
    obtain ⟨y, _, rfl⟩ := List.mem_map.1 hxm
    exact ix_range hx _
  have hpos : 0 < (bitsL b).length := by rw [← bL_len]; exact bL_pos h0 hb
  have hfull : 2 ^ (bitsL b).length - 1 < 2 ^ (bitsL b).length := by have := Nat.two_pow_pos (bitsL b).length; omega
  have heb : embN b (2 ^ (bitsL b).length - 1) = b := by
    refine Nat.eq_of_testBit_eq fun j => ?_
    rw [Bool.eq_iff_iff, embN_bit hb]
    constructor
    · rintro ⟨i, h1, _, h3⟩
      have hmm : (bitsL b).getD i 0 ∈ bitsL b := by
        rw [List.getD_eq_getElem?_getD, List.getElem?_eq_getElem h1]
        exact List.getElem_mem h1
      rw [h3] at hmm
      exact (bits_mem.1 hmm).2
    · intro hj
      have hjm : j ∈ bitsL b := bits_mem.2 ⟨by have := bit_lt (n := 16) hb hj; omega, hj⟩
      obtain ⟨i, hi, e⟩ := List.getElem_of_mem hjm
      refine ⟨i, hi, by rw [all_bit, decide_eq_true_eq]; exact hi, ?_⟩
      rw [List.getD_eq_getElem?_getD, List.getElem?_eq_getElem hi, e]; rfl
  have hsum : sumS (valL l (bL b)) (2 ^ (bitsL b).length - 1) = 0 := by rw [← embN_sum hb hfull, heb]; exact hs
  have hsz : szS (2 ^ (bitsL b).length - 1) = (bitsL b).length := by unfold szS; rw [bits_full (by omega)]
  have huniq : ∀ t, t < 2 ^ (bitsL b).length → sumS (valL l (bL b)) t = 0 → 1 ≤ szS t → t = 2 ^ (bitsL b).length - 1 := fun t ht h1 h2 => by
    have ht0 : 0 < t := Nat.pos_of_ne_zero fun e => by
      subst e
      unfold szS at h2
      rw [bits_zero] at h2
      simp at h2
    have ht16 : t < 65536 := Nat.lt_of_lt_of_le ht (Nat.pow_le_pow_right (n := 2) (by decide) (i := (bitsL b).length) (j := 16) hm)
    have he0 : 0 < embN b t := Nat.pos_of_ne_zero fun e => by
      have hbit := (tz_bit ht0 ht16).1
      have := (embN_bit (t := t) hb).2 ⟨tzN t, bit_lt ht hbit, hbit, rfl⟩
      rw [e] at this
      simp at this
    have hsub : Sub (embN b t) b := fun j hj => by
      obtain ⟨i, h3, _, h5⟩ := (embN_bit hb).1 hj
      have hmm : (bitsL b).getD i 0 ∈ bitsL b := by
        rw [List.getD_eq_getElem?_getD, List.getElem?_eq_getElem h3]
        exact List.getElem_mem h3
      rw [h5] at hmm
      exact (bits_mem.1 hmm).2
    have heq := hw _ hsub he0 (by rw [embN_sum hb ht]; exact h1)
    refine Nat.eq_of_testBit_eq fun i => ?_
    rw [all_bit]
    by_cases hi : i < (bitsL b).length
    · rw [decide_eq_true hi]
      have hj : b.testBit ((bitsL b).getD i 0) = true := by
        have hmm : (bitsL b).getD i 0 ∈ bitsL b := by
          rw [List.getD_eq_getElem?_getD, List.getElem?_eq_getElem hi]
          exact List.getElem_mem hi
        exact (bits_mem.1 hmm).2
      rw [← heq] at hj
      obtain ⟨i', h3, h4, h5⟩ := (embN_bit hb).1 hj
      rw [heq] at h5
      have : i' = i := by
        rcases Nat.lt_trichotomy i' i with h | h | h
        · have := getD_lt h hi; omega
        · exact h
        · have := getD_lt h h3; omega
      rw [← this]; exact h4
    · rw [decide_eq_false hi]
      cases e : t.testBit i with
      | false => rfl
      | true => exact absurd (bit_lt ht e) hi
  have hf : firstO (valL l (bL b)) 0 1 = some (2 ^ (bitsL b).length - 1) := by
    unfold firstO
    rw [hlen]
    have hso := first_some (f := sumS (valL l (bL b))) (sum := 0) (least := 1) hsum (by rw [hsz]; omega) _ hfull
    cases e : firstT (sumS (valL l (bL b))) 0 1 (2 ^ (bitsL b).length) with
    | none => rw [e] at hso; cases hso
    | some t =>
      obtain ⟨q1, q2⟩ := first_is e
      rw [huniq t (firstT_lt e) q1 q2]
  refine ⟨hg, by rw [findE, if_neg (by simp [hg]), hf]; rfl, ?_⟩
  rw [findL, if_neg (by simp [hg]), hf, hlen]
  show (bL (2 ^ (bitsL b).length - 1)).length = _
  rw [bL_len, bits_full (by omega)]
theorem adj_asc {p : List Int} (h : ∀ b, 0 < b → b < p.length → ix p (b - 1) < ix p b) : p.Pairwise (· < ·) := by
  rw [List.pairwise_iff_getElem]
  have key : ∀ d i, i + 1 + d < p.length → ix p i < ix p (i + 1 + d) := by
    intro d
    induction d with
    | zero => intro i hi; exact h (i + 1) (by omega) hi
    | succ d ih =>
      intro i hi
      have a := ih i (by omega)
      have b := h (i + 1 + (d + 1)) (by omega) hi
      rw [show i + 1 + (d + 1) - 1 = i + 1 + d by omega] at b
      omega
  intro i j hi hj hij
  have := key (j - i - 1) i (by omega)
  rw [show i + 1 + (j - i - 1) = j by omega] at this
  rwa [ix_eq hi, ix_eq hj] at this
/-- No right partition has more parts than the greatest number of them. -/
theorem right_le {l : List Int} {parts : List (List Int)} (hl : l.length ≤ 16) (hz : sumS l (allN l) = 0) (h : chkB l parts) : (parts.length : Int) ≤ most l (allN l) := by
  have hOk := h.1
  have hp : 2 ^ l.length ≤ 2 ^ 16 := Nat.pow_le_pow_right (by decide) hl
  let left : Nat → Nat := fun i => mkN (fun j => !(Pre parts i 0).contains (j : Int)) l.length
  have hlb : ∀ i j, (left i).testBit j = (decide (j < l.length) && !(Pre parts i 0).contains (j : Int)) := fun i j => mkN_bit _ _ _
  have hlt : ∀ i, left i < 65536 := fun i => Nat.lt_of_lt_of_le (mkN_lt _ _) hp
  have key : ∀ i, i ≤ parts.length → sumS l (left i) = 0 ∧ (i : Int) + most l (left i) ≤ most l (allN l) := by
    intro i
    induction i with
    | zero =>
      intro _
      have e : left 0 = allN l := Nat.eq_of_testBit_eq fun j => by
        rw [hlb, pre_0]
        unfold allN
        rw [all_bit]
        simp
      rw [e]
      exact ⟨hz, by simp⟩
    | succ i ih =>
      intro hi
      obtain ⟨i1, i2⟩ := ih (by omega)
      have hiP : i < parts.length := by omega
      obtain ⟨hne, hsp⟩ := hOk.part i hiP
      have hrng : ∀ x ∈ ix parts i, 0 ≤ x ∧ x < l.length := fun x hx => hOk.rng x (by
        rw [pre_end]; exact List.mem_flatten.2 ⟨_, ix_mem hiP, hx⟩)
      let c := mkN (fun j => (ix parts i).contains (j : Int)) l.length
      have hcb : ∀ j, c.testBit j = (decide (j < l.length) && (ix parts i).contains (j : Int)) := fun j => mkN_bit _ _ _
      have hc16 : c < 65536 := Nat.lt_of_lt_of_le (mkN_lt _ _) hp
      have hcL : bL c = ix parts i := by
        refine asc_ext _ _ (bL_asc c) (adj_asc fun b h0 hb => hOk.asc i b h0 hb (.inl hiP)) fun x => ?_
        rw [bL_mem hc16]
        constructor
        · rintro ⟨k, rfl, hk⟩
          rw [hcb] at hk
          simp only [Bool.and_eq_true, List.contains_iff_mem] at hk
          exact hk.2
        · intro hx
          obtain ⟨r1, r2⟩ := hrng x hx
          refine ⟨x.toNat, by omega, ?_⟩
          rw [hcb, show ((x.toNat : Nat) : Int) = x by omega]
          simp only [Bool.and_eq_true, List.contains_iff_mem, decide_eq_true_eq]
          exact ⟨by omega, hx⟩
      have hsc : sumS l c = 0 := by rw [← sumP_bL, hcL]; exact hsp
      have hdisj : ∀ x ∈ ix parts i, x ∉ Pre parts i 0 := fun x hx hx2 => by
        obtain ⟨k, hk, rfl⟩ := mem_ix.1 hx
        have := (okC_at hOk hiP hk).2.1
        refine this ?_
        unfold Pre at hx2 ⊢
        rw [List.take_zero, List.append_nil] at hx2
        exact List.mem_append.2 (.inl hx2)
      have hsub : Sub c (left i) := fun j hj => by
        rw [hcb] at hj
        rw [hlb]
        simp only [Bool.and_eq_true, List.contains_iff_mem, decide_eq_true_eq] at hj
        have := hdisj _ hj.2
        simp only [Bool.and_eq_true, decide_eq_true_eq, Bool.not_eq_true', List.contains_eq_mem, decide_eq_false_iff_not]
        exact ⟨hj.1, this⟩
      have hc0 : 0 < c := Nat.pos_of_ne_zero fun e => hne (by rw [← hcL, e]; rfl)
      have hnext : dif (left i) c = left (i + 1) := Nat.eq_of_testBit_eq fun j => by
        rw [dif_bit (hlt i) hc16, hlb, hlb, hcb, pre_next hiP]
        have e : Pre parts i (ix parts i).length = Pre parts i 0 ++ ix parts i := by simp [Pre]
        rw [e]
        by_cases hj : j < l.length
        · simp [hj]
        · simp [hj]
      have hmp := most_part (hlt i) i1 hsub hc0
      have hd := sumS_dif (l := l) (hlt i) hsub
      rw [hnext] at hmp hd
      refine ⟨by omega, ?_⟩
      push_cast
      omega
  obtain ⟨_, h2⟩ := key parts.length (Nat.le_refl _)
  have := most_nn l (hlt parts.length)
  omega
end Go.Proofs.YtapbhppfecfobaaDoor
