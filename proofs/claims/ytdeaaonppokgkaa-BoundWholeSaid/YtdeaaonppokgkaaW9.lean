/- PatternAll, PatternBest: the walks. -/
import Derived.Test.YtdeaaonppokgkaaV9
set_option maxRecDepth 100000
set_option linter.unusedSimpArgs false
set_option linter.unusedVariables false
-- 
namespace Go.Proofs.Ytdeaaonppokgkaa.Pat
open Go.RowKit
def rPick (j : Nat) (Q : List (List Int)) (g caps : Nat → Nat) : Ob := ⟨23, true, .row 1 1 (fun _ => Q.length) (fun _ => 0) (fun _ k => [.s j (g k) 0 (ix Q k).length (caps k) 1])⟩
attribute [push_cast] rPick
theorem allG_max {length : Int} {l : List Pc} (h : givenE length l l.length = 0) : allG l l [] length = maxE length l := by
  obtain ⟨g1, g2, g3, g4⟩ := given_0 h
  have := allG_eq (ps := l) (d := []) (pre := []) (rest := length) (posL_of g1) rfl (by omega)
  simpa [maxE] using this
theorem allE_eq (length : Int) (l : List Pc) : rAllE length l = allE length l := by
  unfold rAllE allE
  by_cases h : givenE length l l.length = 0
  · rw [allG_max h]
  · rw [if_pos h, if_pos h]
theorem allL_eq (length : Int) (l : List Pc) : rAllL length l = allL length l := by
  unfold rAllL allL
  rw [allE_eq]
  by_cases h : allE length l = 0
  · rw [if_pos h, if_pos h, allG_max]
    unfold allE at h
    split at h
    · omega
    · omega
  · rw [if_neg h, if_neg h]
theorem few_ok {length : Int} {l : List Pc} (h : fewB length l = true) : l.length ≤ 205 ∧ (givenE length l l.length = 0 → l.length ≤ 10 → (eachG l length).length ≤ 2000 ∧ l.length ≤ 5) := by
  simp only [fewB, Bool.and_eq_true, Bool.not_eq_true', Bool.or_eq_false_iff, Bool.and_eq_false_iff, Bool.or_eq_true, decide_eq_true_eq, decide_eq_false_iff_not] at h
  refine ⟨by omega, fun hg hl => ?_⟩
  obtain ⟨g1, g2, g3, g4⟩ := given_0 hg
  have hp : prodL length l ≤ 2000 := by
    rcases h.2 with (h2 | h2) | h2
    · exact absurd hg h2
    · omega
    · exact h2
  have := eachG_count (l := l) (left := length) (length := length) (posL_of g1) (by omega) (Int.le_refl _)
  exact ⟨by omega, by omega⟩
theorem allL_len (length : Int) (l : List Pc) : (allL length l).length ≤ 1000 := by
  unfold allL
  split
  · rename_i h
    unfold allE at h
    split at h
    · omega
    · split at h
      · omega
      · split at h
        · omega
        · omega
  · simp
end Go.Proofs.Ytdeaaonppokgkaa.Pat
