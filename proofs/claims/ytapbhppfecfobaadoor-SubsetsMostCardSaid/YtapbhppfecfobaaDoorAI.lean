/- Plain: the partition that is found is right; its parts cannot be divided; no right partition has more parts. -/
import Derived.Test.YtapbhppfecfobaaDoorAF
set_option maxRecDepth 100000
set_option linter.unusedSimpArgs false
set_option linter.unusedVariables false
namespace Go.Proofs.YtapbhppfecfobaaDoor
open Go.RowKit
theorem bits_asc (b : Nat) : (bitsL b).Pairwise (· < ·) := by
  unfold bitsL
  exact List.Pairwise.sublist List.filter_sublist List.pairwise_lt_range
theorem bL_asc (b : Nat) : (bL b).Pairwise (· < ·) := by
  unfold bL
  rw [List.pairwise_map]
  exact (bits_asc b).imp fun h => by omega
theorem bL_mem {b : Nat} (hb : b < 65536) {x : Int} : x ∈ bL b ↔ ∃ k : Nat, x = (k : Int) ∧ b.testBit k = true := by
  unfold bL
  rw [List.mem_map]
  constructor
  · rintro ⟨k, hk, rfl⟩
    exact ⟨k, rfl, (bits_mem.1 hk).2⟩
  · rintro ⟨k, rfl, hk⟩
    refine ⟨k, bits_mem.2 ⟨?_, hk⟩, rfl⟩
    have := bit_lt (n := 16) hb hk
    omega
theorem bL_head {b : Nat} (h0 : 0 < b) (hb : b < 65536) : ix (bL b) 0 = tzN b := by
  unfold bL
  rw [bits_cons h0 (Nat.lt_trans hb (by decide))]
  rfl
/-- What partS gives. -/
structure PartsOk (l : List Int) (left : Nat) (P : List (List Int)) : Prop where
  part : ∀ p ∈ P, ∃ b, p = bL b ∧ 0 < b ∧ b < 65536 ∧ Sub b left ∧ sumS l b = 0 ∧ ∀ c, Sub c b → 0 < c → sumS l c = 0 → c = b
  mem : ∀ x : Int, x ∈ P.flatten ↔ ∃ k : Nat, x = (k : Int) ∧ left.testBit k = true
  nd : P.flatten.Nodup
  head : P.Pairwise fun p q => ix p 0 < ix q 0
theorem whole {l : List Int} {left b : Nat} (hl : left < 65536) (hb : sumS l left = 0) (h3 : Sub b left) (hbs : sumS l b = 0) (hm : most l (dif left b) = most l left - 1) {c : Nat} (hc : Sub c b) (h0 : 0 < c) (hz : sumS l c = 0) : c = b := by
  refine Classical.not_not.1 fun hne => ?_
  have hb16 : b < 65536 := Nat.lt_of_le_of_lt h3.le hl
  have hc16 : c < 65536 := Nat.lt_of_le_of_lt hc.le hb16
  have hcl : Sub c left := hc.trans h3
  have m1 := most_part hl hb hcl h0
  have s1 := sumS_dif (l := l) hl hcl
  have s2 := sumS_dif (l := l) hb16 hc
  have hd0 : 0 < dif b c := Nat.pos_of_ne_zero fun e => by
    have := add_dif hb16 hc
    omega
  have hdl := dif_le left c
  have hdb := dif_le b c
  have hsub : Sub (dif b c) (dif left c) := fun i hi => by
    rw [dif_bit hb16 hc16] at hi
    rw [dif_bit hl hc16]
    simp only [Bool.and_eq_true, Bool.not_eq_true'] at hi ⊢
    exact ⟨h3 i hi.1, hi.2⟩
  have m2 := most_part (l := l) (show dif left c < 65536 by omega) (by omega) hsub hd0
  have e : dif (dif left c) (dif b c) = dif left b := Nat.eq_of_testBit_eq fun i => by
    rw [dif_bit (by omega) (by omega), dif_bit hl hc16, dif_bit hb16 hc16, dif_bit hl hb16]
    have := hc i
    cases h5 : left.testBit i <;> cases h6 : b.testBit i <;> cases h7 : c.testBit i <;> simp_all
  rw [e] at m2
  omega
theorem parts_ok {l : List Int} : ∀ {left : Nat}, left < 65536 → sumS l left = 0 → PartsOk l left (partS l left) := by
  intro left
  induction left using Nat.strongRecOn with
  | _ left ih =>
    intro hl hb
    rcases Nat.eq_zero_or_pos left with h0 | h0
    · subst h0
      exact ⟨fun p hp => by simp [partS, partF] at hp, fun x => by simp [partS, partF], by simp [partS, partF], by simp [partS, partF]⟩
    · obtain ⟨b, h1, h2, h3, h4⟩ := best_ex hl h0 hb
      simp only [okP, Bool.and_eq_true, decide_eq_true_eq] at h2
      have hd := sumS_dif (l := l) hl h3
      have hlt := dif_lt hl h3 h4
      have hb16 : b < 65536 := Nat.lt_of_le_of_lt h3.le hl
      have hr := ih _ hlt (by omega) (by omega)
      rw [partS_step hl h0 h1]
      have hdm : ∀ i, (dif left b).testBit i = (left.testBit i && !b.testBit i) := dif_bit hl hb16
      have hbm : ∀ x : Int, x ∈ bL b ↔ ∃ k : Nat, x = (k : Int) ∧ b.testBit k = true := fun x => bL_mem hb16
      refine ⟨fun p hp => ?_, fun x => ?_, ?_, ?_⟩
      · rcases List.mem_cons.1 hp with e | e
        · exact ⟨b, e, h4, hb16, h3, h2.2.1, fun c c1 c2 c3 => whole hl hb h3 h2.2.1 h2.2.2 c1 c2 c3⟩
        · obtain ⟨b', a1, a2, a3, a4, a5, a6⟩ := hr.part p e
          exact ⟨b', a1, a2, a3, a4.trans dif_sub, a5, a6⟩
      · rw [List.flatten_cons, List.mem_append, hbm, hr.mem]
        constructor
        · rintro (⟨k, e, hk⟩ | ⟨k, e, hk⟩)
          · exact ⟨k, e, h3 k hk⟩
          · exact ⟨k, e, dif_sub k hk⟩
        · rintro ⟨k, e, hk⟩
          cases hbk : b.testBit k with
          | true => exact .inl ⟨k, e, hbk⟩
          | false => exact .inr ⟨k, e, by rw [hdm, hk, hbk]; rfl⟩
      · rw [List.flatten_cons]
        refine List.nodup_append.2 ⟨(bL_asc b).imp fun h => by omega, hr.nd, fun x hx y hy e => ?_⟩
        subst e
        obtain ⟨k, e1, hk⟩ := (hbm x).1 hx
        obtain ⟨k', e2, hk'⟩ := (hr.mem x).1 hy
        obtain rfl : k = k' := by omega
        rw [hdm, hk] at hk'
        simp at hk'
      · refine List.pairwise_cons.2 ⟨fun q hq => ?_, hr.head⟩
        obtain ⟨b', rfl, a2, a3, a4, _⟩ := hr.part q hq
        rw [bL_head h4 hb16, bL_head a2 a3]
        have t1 := tz_bit h0 hl
        have t2 := tz_bit a2 a3
        have t3 := a4 _ t2.1
        rw [hdm] at t3
        simp only [Bool.and_eq_true, Bool.not_eq_true'] at t3
        have e1 : tzN b = tzN left := tz_eq h0 hl h3 h2.1
        rw [e1]
        have : ¬ tzN b' < tzN left := fun h => by
          have := t1.2 _ h
          rw [t3.1] at this; cases this
        have hne : tzN b' ≠ tzN left := fun h => by
          rw [h, h2.1] at t3
          cases t3.2
        omega
theorem ix_out {α : Type} [Inhabited α] {l : List α} {k : Nat} (h : l.length ≤ k) : ix l k = default := by
  unfold ix
  rw [List.getD_eq_getElem?_getD, List.getElem?_eq_none h]; rfl
/-- The partition that is found is a right one. -/
theorem parts_right {l : List Int} (h : partsE l = 0) : chkB l (partsL l) := by
  obtain ⟨_, h3, hA⟩ := parts_len h
  obtain ⟨h1, _⟩ := given_0 (partsE_giv h)
  have hP : partsL l = partS l (allN l) := by rw [partsL, if_neg (by simp [h])]
  have hk := parts_ok hA h3
  rw [← hP] at hk
  have hall : ∀ k, (allN l).testBit k = decide (k < l.length) := fun k => all_bit
  have hpp : ∀ a, a < (partsL l).length → ∃ b, ix (partsL l) a = bL b ∧ 0 < b ∧ b < 65536 ∧ sumS l b = 0 := fun a ha => by
    obtain ⟨b, e1, e2, e3, _, e5, _⟩ := hk.part _ (ix_mem ha)
    exact ⟨b, e1, e2, e3, e5⟩
  have hne : ∀ a, (ix (partsL l) a).length ≠ 0 → a < (partsL l).length := fun a ha => by
    refine Nat.lt_of_not_le fun h => ha ?_
    rw [ix_out h]; rfl
  refine ⟨⟨fun x hx => ?_, ?_, fun a b h0 hb hab => ?_, fun a ha => ?_, fun a h0 ha => ?_⟩, ?_⟩
  · rw [pre_end] at hx
    obtain ⟨k, rfl, hk⟩ := (hk.mem x).1 hx
    rw [hall, decide_eq_true_eq] at hk
    omega
  · rw [pre_end]; exact hk.nd
  · obtain ⟨c, e, _⟩ := hpp a (hne a (by omega))
    rw [e] at hb ⊢
    have := List.pairwise_iff_getElem.1 (bL_asc c) (b - 1) b (by omega) hb (by omega)
    rwa [ix_eq (by omega), ix_eq hb]
  · obtain ⟨c, e, e2, e3, e4⟩ := hpp a ha
    rw [e]
    refine ⟨fun h0 => ?_, by rw [sumP_bL]; exact e4⟩
    have := bL_pos e2 e3
    rw [h0] at this
    simp at this
  · have := List.pairwise_iff_getElem.1 hk.head (a - 1) a (by omega) ha (by omega)
    rwa [ix_eq (show a - 1 < _ by omega), ix_eq ha]
  · have hperm : (partsL l).flatten.length = ((List.range l.length).map fun (i : Nat) => (i : Int)).length := by
      refine (List.Perm.length_eq ?_)
      refine (List.perm_ext_iff_of_nodup hk.nd ?_).2 fun x => ?_
      · rw [List.nodup_iff_pairwise_ne, List.pairwise_map]
        exact List.pairwise_lt_range.imp fun h => by omega
      · rw [hk.mem, List.mem_map]
        constructor
        · rintro ⟨k, e, hk⟩
          rw [hall, decide_eq_true_eq] at hk
          exact ⟨k, List.mem_range.2 hk, e.symm⟩
        · rintro ⟨k, hk, e⟩
          exact ⟨k, e.symm, by rw [hall, decide_eq_true_eq]; exact List.mem_range.1 hk⟩
    rw [hperm]; simp
end Go.Proofs.YtapbhppfecfobaaDoor
