/- Contracts: the reference's Price, Best. Contracts: the reference's Fullest and Few; equality of best patterns. PatternAll, PatternBest: the walks. -/
import Derived.Test.YtdeaaonppokgkaaGreatGH
set_option maxRecDepth 100000
set_option linter.unusedSimpArgs false
set_option linter.unusedVariables false
namespace Go.Proofs.YtdeaaonppokgkaaGreat.Pat
open Go.RowKit
end Go.Proofs.YtdeaaonppokgkaaGreat.Pat
namespace Go.Proofs.YtdeaaonppokgkaaGreat.Pat
open Go.RowKit
def fewB (length : Int) (l : List Pc) : Bool := !((decide (5 < l.length) && decide (l.length ≤ 10)) || decide (205 < l.length)) && (decide (givenE length l l.length ≠ 0) || decide (10 < l.length) || decide (prodL length l ≤ 2000))
theorem few_pu (length : Int) (l : List Pc) (c : Nat) (hl : l.length ≤ 9223372036854775807) : Pu Tryz.prog 5 [.v (.int .i64 length), .s 0 0 0 l.length c 2] [rPc l] (.v (.bool (fewB length l))) := by
  refine pu_of_ex true [] mixed Tryz.call5 Tryz.func5 rfl Tryz.ntmps5 Tryz.results5 (by decide +kernel) rfl rfl rfl ?_
  refine sxo ?_
  try with_reducible exact trivial
  refine ⟨fun h1 => ⟨fun h2 => ?_, fun h2 => ⟨fun h3 => ?_, fun h3 => ?_⟩⟩, fun h1 => ⟨fun h3 => ?_, fun h3 => ?_⟩⟩
  · simp [fewB, show 5 < l.length by omega, show l.length ≤ 10 by omega]
  · simp [fewB, show 205 < l.length by omega]
  · have e : fewB length l = true := by simp [fewB, show ¬ l.length ≤ 10 by omega, show ¬ 205 < l.length by omega, show 10 < l.length by omega]
    rw [e]
    refine sp_call (rgiven_pu length l.length l c (by omega)) rfl [0] rfl (by simp only [push_cast, ↓branch_true, ↓branch_false, Nat.reduceBEq, Nat.reduceAdd, Nat.reduceMul, Nat.reduceSub, Int.reduceToNat, reduceCtorEq, branch_decide, branch_not, branch_beq, branch_bne]) (by simp only [push_cast, ↓branch_true, ↓branch_false, Nat.reduceBEq, Nat.reduceAdd, Nat.reduceMul, Nat.reduceSub, Int.reduceToNat, reduceCtorEq, branch_decide, branch_not, branch_beq, branch_bne]) ?_
    refine sxo ?_
    try with_reducible exact trivial
    exact fun _ h => absurd (show 10 < (l.length : Int) by omega) h
  · simp [fewB, show 205 < l.length by omega]
  · have e : fewB length l = (decide (givenE length l l.length ≠ 0) || decide (prodL length l ≤ 2000)) := by simp [fewB, show ¬ 5 < l.length by omega, show ¬ 205 < l.length by omega, show ¬ 10 < l.length by omega]
    rw [e]
    refine sp_call (rgiven_pu length l.length l c (by omega)) rfl [0] rfl (by simp only [push_cast, ↓branch_true, ↓branch_false, Nat.reduceBEq, Nat.reduceAdd, Nat.reduceMul, Nat.reduceSub, Int.reduceToNat, reduceCtorEq, branch_decide, branch_not, branch_beq, branch_bne]) (by simp only [push_cast, ↓branch_true, ↓branch_false, Nat.reduceBEq, Nat.reduceAdd, Nat.reduceMul, Nat.reduceSub, Int.reduceToNat, reduceCtorEq, branch_decide, branch_not, branch_beq, branch_bne]) ?_
    refine sxo ?_
    try with_reducible exact trivial
    refine ⟨fun hg => ?_, fun hg => ?_⟩
    · obtain ⟨g1, g2, g3, g4⟩ := given_0 hg
      have hpos := posL_of g1
      refine ⟨fun h => absurd h (by omega), fun _ => ?_⟩
      simp only [hg, ne_eq, not_true_eq_false, decide_false, Bool.false_or]
      refine tr_loop0 mixed (by kernel_rfl) (fun (x : Nat × Int) => [(6, .v (.int .i64 x.1)), (5, .v (.int .i64 x.2)), (0, .v (.int .i64 length)), (1, .s 0 0 0 l.length c 2)]) (fun x => x.1 ≤ l.length ∧ 1 ≤ x.2 ∧ x.2 ≤ 2000 ∧ x.2 * prodL length (l.drop x.1) = prodL length l) (fun x => l.length - x.1) (0, 1) ⟨Nat.zero_le _, Int.le_refl _, by simp, by simp⟩ ?_ ?_
      · refine sxo ?_
        try with_reducible exact trivial
      rintro ⟨i, n⟩ ⟨r1, r2, r3, r4⟩
      simp only at r1 r2 r3 r4
      refine sxo ?_
      try with_reducible exact trivial
      refine ⟨fun h => ?_, fun h => ?_⟩
      · have hk : i < l.length := by omega
        have hat := order_at g1 hk
        have hd : prodL length (l.drop i) = (mostF (ix l i) length + 1) * prodL length (l.drop (i + 1)) := by rw [drop_ix hk, prodL]
        have htd : length.tdiv (ix l i).len = length / (ix l i).len := Int.tdiv_eq_ediv_of_nonneg (by omega)
        have hq0 : 0 ≤ length / (ix l i).len := Int.ediv_nonneg (by omega) (by omega)
        have hq1 : length / (ix l i).len ≤ length := Int.ediv_le_self _ (by omega)
        have hmin : min (ix l i).cnt (length / (ix l i).len) = mostF (ix l i) length := rfl
        rw [htd, hmin]
        obtain ⟨m0, m1, m2⟩ := most_bound (rest := length) hat (by omega) g3
        have p1 := prodL_pos (l := l.drop (i + 1)) (length := length) (fun q hq => hpos q (List.mem_of_mem_drop hq)) (by omega)
        have n0 : n ≤ n * (mostF (ix l i) length + 1) := by
          have := Int.mul_le_mul_of_nonneg_left (show 1 ≤ mostF (ix l i) length + 1 by omega) (show 0 ≤ n by omega)
          omega
        have n1 : n * (mostF (ix l i) length + 1) ≤ 2000 * 1048577 := Int.mul_le_mul r3 (by omega) (by omega) (by omega)
        have n2 : n * (mostF (ix l i) length + 1) * prodL length (l.drop (i + 1)) = prodL length l := by rw [← r4, hd, Int.mul_assoc]
        have n3 : n * (mostF (ix l i) length + 1) ≤ prodL length l := by
          rw [← n2]
          have := Int.mul_le_mul_of_nonneg_left p1 (show 0 ≤ n * (mostF (ix l i) length + 1) by omega)
          omega
        repeat (with_reducible refine And.intro (by omega) ?_)
        refine ⟨fun h2 => ?_, fun h2 => ?_⟩
        · simp [show ¬ prodL length l ≤ 2000 by omega]
        · repeat (with_reducible refine And.intro (by omega) ?_)
          refine lp0_normal (i + 1, n * (mostF (ix l i) length + 1)) ⟨by simp only; omega, by simp only; omega, by simp only; omega, n2⟩ (by simp only; omega) ?_
          refine sxo ?_
          try with_reducible exact trivial
      · obtain rfl : i = l.length := by omega
        rw [List.drop_length, prodL, Int.mul_one] at r4
        simp [show prodL length l ≤ 2000 by omega]
    · simp [hg]
end Go.Proofs.YtdeaaonppokgkaaGreat.Pat
namespace Go.Proofs.YtdeaaonppokgkaaGreat.Pat
open Go.RowKit
theorem allG_max {length : Int} {l : List Pc} (h : givenE length l l.length = 0) : allG l l [] length = maxE length l := by
  obtain ⟨g1, g2, g3, g4⟩ := given_0 h
  have := allG_eq (ps := l) (d := []) (pre := []) (rest := length) (posL_of g1) rfl (by omega)
  simpa [maxE] using this
theorem allE_eq (length : Int) (l : List Pc) : rAllE length l = allE length l := by
  unfold rAllE allE
  by_cases h : givenE length l l.length = 0
  · rw [allG_max h]
  · rw [if_pos h, if_pos h]
theorem allL_eq (length : Int) (l : List Pc) : rAllL length l = allL length l := by
  unfold rAllL allL
  rw [allE_eq]
  by_cases h : allE length l = 0
  · rw [if_pos h, if_pos h, allG_max]
    unfold allE at h
    split at h
    · omega
    · omega
  · rw [if_neg h, if_neg h]
theorem few_ok {length : Int} {l : List Pc} (h : fewB length l = true) : l.length ≤ 205 ∧ (givenE length l l.length = 0 → l.length ≤ 10 → (eachG l length).length ≤ 2000 ∧ l.length ≤ 5) := by
  simp only [fewB, Bool.and_eq_true, Bool.not_eq_true', Bool.or_eq_false_iff, Bool.and_eq_false_iff, Bool.or_eq_true, decide_eq_true_eq, decide_eq_false_iff_not] at h
  refine ⟨by omega, fun hg hl => ?_⟩
  obtain ⟨g1, g2, g3, g4⟩ := given_0 hg
  have hp : prodL length l ≤ 2000 := by
    rcases h.2 with (h2 | h2) | h2
    · exact absurd hg h2
    · omega
    · exact h2
  have := eachG_count (l := l) (left := length) (length := length) (posL_of g1) (by omega) (Int.le_refl _)
  exact ⟨by omega, by omega⟩
end Go.Proofs.YtdeaaonppokgkaaGreat.Pat
