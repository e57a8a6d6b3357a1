/- SubsetsPairs: the walk. -/
import Derived.Test.YtapbhppfecfobaaDoorAC
import Derived.Test.YtapbhppfecfobaaDoorX
import Derived.Test.YtapbhppfecfobaaDoorY
set_option maxRecDepth 100000
set_option linter.unusedSimpArgs false
set_option linter.unusedVariables false
namespace Go.Proofs.YtapbhppfecfobaaDoor
open Go.RowKit
theorem sums_cmp (l : List Int) : cmpL (sumsL l) = sumsL l := cmp_all fun k h0 hk => by
  have := sumsL_lt (l := l) (show k - 1 < k by omega) hk
  omega
theorem all_sub {l : List Int} {s : Nat} (h : s < 2 ^ l.length) : Sub s (allN l) := fun i hi => by
  unfold allN
  rw [all_bit, decide_eq_true_eq]
  refine Nat.lt_of_not_le fun h2 => ?_
  rw [Nat.testBit_lt_two_pow (Nat.lt_of_lt_of_le h (Nat.pow_le_pow_right (by decide) h2))] at hi
  cases hi
theorem pow_pos1 (l : List Int) : allN l + 1 = 2 ^ l.length := by
  have := Nat.two_pow_pos l.length
  unfold allN; omega
/-- The sums come in pairs. -/
theorem sums_pair {l : List Int} (hl : l.length ≤ 16) {i : Nat} (hi : i < (sumsL l).length) : ix (sumsL l) i + ix (sumsL l) ((sumsL l).length - 1 - i) = sumS l (allN l) := by
  have hp : 2 ^ l.length ≤ 2 ^ 16 := Nat.pow_le_pow_right (by decide) hl
  have hA := pow_pos1 l
  have hmem : ∀ x, x ∈ sumsL l → sumS l (allN l) - x ∈ sumsL l := fun x hx => by
    obtain ⟨s, h1, rfl⟩ := sums_mem.1 hx
    have hd := sumS_dif (l := l) (show allN l < 65536 by omega) (all_sub h1)
    have hl2 := dif_le (allN l) s
    exact sums_mem.2 ⟨dif (allN l) s, by omega, by omega⟩
  have hmap : ((sumsL l).map fun x => sumS l (allN l) - x).reverse = sumsL l := by
    refine asc_ext _ _ ?_ (sums_asc l) fun x => ?_
    · rw [List.pairwise_reverse, List.pairwise_map]
      exact (sums_asc l).imp fun h => by omega
    · rw [List.mem_reverse, List.mem_map]
      exact ⟨fun ⟨y, h1, e⟩ => e ▸ hmem y h1, fun h => ⟨sumS l (allN l) - x, hmem x h, by omega⟩⟩
  have hi2 : (sumsL l).length - 1 - i < (sumsL l).length := by omega
  have e : ix (sumsL l) ((sumsL l).length - 1 - i) = sumS l (allN l) - ix (sumsL l) i := by
    conv => lhs; rw [← hmap]
    rw [ix_eq (by simp; omega), ix_eq hi]
    simp only [List.getElem_reverse, List.getElem_map, List.length_map, List.length_reverse]
    congr 2
    omega
  omega
theorem find_iff {l : List Int} {sum : Int} (hg : givE l = 0) : findE l sum 0 = 0 ↔ sum ∈ sumsL l := by
  have h : findE l sum 0 = if (firstO l sum 0).isSome then 0 else 12 := if_neg (by simp [hg])
  rw [h, sums_mem]
  have key : ∀ k, ((firstT (sumS l) sum 0 k).isSome = true ↔ ∃ s, s < k ∧ sum = sumS l s) := by
    intro k
    induction k with
    | zero => simp [firstT]
    | succ k ih =>
      unfold firstT
      by_cases e : sumS l k = sum ∧ (0 : Int) ≤ szS k
      · rw [if_pos e]
        refine ⟨fun _ => ⟨k, by omega, e.1.symm⟩, fun _ => ?_⟩
        split
        · rfl
        · rename_i b _
          cases lessS k b <;> rfl
      · rw [if_neg e, ih]
        refine ⟨fun ⟨s, h1, h2⟩ => ⟨s, by omega, h2⟩, fun ⟨s, h1, h2⟩ => ⟨s, ?_, h2⟩⟩
        rcases Nat.lt_or_eq_of_le (Nat.le_of_lt_succ h1) with h3 | h3
        · exact h3
        · subst h3
          exact absurd ⟨h2.symm, by unfold szS; omega⟩ e
  have := key (2 ^ l.length)
  unfold firstO
  rw [← this]
  cases (firstT (sumS l) sum 0 (2 ^ l.length)).isSome <;> simp
theorem first_sum {l : List Int} {sum least : Int} : ∀ {k b : Nat}, firstT (sumS l) sum least k = some b → sumS l b = sum
  | 0, b, h => by cases h
  | k + 1, b, h => by
    unfold firstT at h
    split at h
    · rename_i e
      split at h
      · obtain rfl : k = b := by simpa using h
        exact e.1
      · rename_i b' hb'
        cases hl : lessS k b' with
        | true =>
          rw [hl] at h
          obtain rfl : k = b := by simpa using h
          exact e.1
        | false =>
          rw [hl] at h
          obtain rfl : b' = b := by simpa using h
          exact first_sum hb'
    · exact first_sum h
theorem sumP_bL (l : List Int) (b : Nat) : sumP l (bL b) = sumS l b := by
  unfold sumP bL sumS
  rw [List.map_map]
  rfl
/-- What a subset's indices are. -/
theorem bL_facts {l : List Int} {b : Nat} (h : b < 2 ^ l.length) (hl : l.length ≤ 16) {k : Nat} (hk : k < (bL b).length) : 0 ≤ ix (bL b) k ∧ ix (bL b) k < l.length ∧ (0 < k → ix (bL b) (k - 1) < ix (bL b) k) := by
  have hp : 2 ^ l.length ≤ 2 ^ 16 := Nat.pow_le_pow_right (by decide) hl
  obtain ⟨n, e, hb, _, hk2, hn⟩ := bL_ix hk (by omega)
  rw [e]
  refine ⟨by omega, ?_, fun h0 => ?_⟩
  · have := all_sub h n hb
    unfold allN at this
    rw [all_bit, decide_eq_true_eq] at this
    omega
  · obtain ⟨m, e2, _, _, hk3, hm⟩ := bL_ix (s := b) (j := k - 1) (by omega) (by omega)
    rw [e2]
    have hpw : (bitsL b).Pairwise (· < ·) := by
      unfold bitsL
      exact List.Pairwise.sublist List.filter_sublist List.pairwise_lt_range
    have := List.pairwise_iff_getElem.1 hpw (k - 1) k hk3 hk2 (by omega)
    rw [hm, hn] at this
    omega
theorem bL_le {l : List Int} {b : Nat} (h : b < 2 ^ l.length) (hl : l.length ≤ 32) : (bL b).length ≤ l.length := by
  rw [bL_len, bits_n h hl]
  have := List.length_filter_le (fun i => b.testBit i) (List.range l.length)
  simpa using this
theorem near_any (l : List Int) (sum : Int) : (sumsL l).any (fun k => nrB sum k (nearV l sum)) = false := by
  rw [List.any_eq_false]
  intro x hx
  have := (nearV_near l sum).2 x hx
  simp only [nrB, Bool.or_eq_true, Bool.and_eq_true, decide_eq_true_eq]
  omega
end Go.Proofs.YtapbhppfecfobaaDoor
