/- Contracts: products of 128 bits: times, cmp, minus, over. -/
import Derived.Test.YtdeaaonppokgkaaGreatB
set_option maxRecDepth 100000
set_option linter.unusedSimpArgs false
set_option linter.unusedVariables false
namespace Go.Proofs.YtdeaaonppokgkaaGreat
open Go.RowKit
/-- The words of a size. -/
def hiW (z : Int) : Nat := z.natAbs / 18446744073709551616
def loW (z : Int) : Nat := z.natAbs % 18446744073709551616
/-- A product. -/
def pr (z : Int) : SV := .a [.v (.bool (decide (z < 0))), .v (.int .u64 (hiW z : Nat)), .v (.int .u64 (loW z : Nat))]
attribute [push_cast] pr
theorem words (z : Int) : hiW z * 18446744073709551616 + loW z = z.natAbs := Nat.div_add_mod' _ _
theorem lo_lt (z : Int) : loW z < 18446744073709551616 := Nat.mod_lt _ (by decide)
theorem hi_mul (a b : Int) : a.natAbs * b.natAbs / 18446744073709551616 = hiW (a * b) := by rw [hiW, Int.natAbs_mul]
theorem lo_mul (a b : Int) : a.natAbs * b.natAbs % 18446744073709551616 = loW (a * b) := by rw [loW, Int.natAbs_mul]
theorem neg_mul_iff (a b : Int) : a * b < 0 ↔ ((a < 0) ≠ (b < 0)) ∧ a * b ≠ 0 := by
  rcases Int.lt_or_le a 0 with ha | ha <;> rcases Int.lt_or_le b 0 with hb | hb
  · have := Int.mul_pos_of_neg_of_neg ha hb
    simp [ha, hb]; omega
  · have h1 := Int.mul_nonpos_of_nonpos_of_nonneg (Int.le_of_lt ha) hb
    simp only [ha, show ¬ b < 0 by omega, ne_eq, eq_iff_iff, true_iff, not_false_eq_true, true_and]
    omega
  · have h1 := Int.mul_nonpos_of_nonneg_of_nonpos ha (Int.le_of_lt hb)
    simp only [hb, show ¬ a < 0 by omega, ne_eq, eq_iff_iff, iff_true, not_false_eq_true, true_and]
    omega
  · have h1 := Int.mul_nonneg ha hb
    simp only [show ¬ a < 0 by omega, show ¬ b < 0 by omega, ne_eq, not_true_eq_false, false_and, iff_false]
    omega
theorem zero_words (z : Int) : z = 0 ↔ hiW z = 0 ∧ loW z = 0 := by
  have := words z
  constructor
  · rintro rfl
    unfold hiW loW
    simp
  · rintro ⟨h1, h2⟩
    rw [h1, h2, Nat.zero_mul] at this
    omega
theorem pv {b b' : Bool} {x y : SV} (h : b = b') : SV.a [.v (.bool b), x, y] = SV.a [.v (.bool b'), x, y] := by rw [h]
theorem times_pu (a b : Int) (ha : -9223372036854775808 ≤ a ∧ a ≤ 9223372036854775807) (hb : -9223372036854775808 ≤ b ∧ b ≤ 9223372036854775807) : Pu Tryz.prog 105 [.v (.int .i64 a), .v (.int .i64 b)] [] (pr (a * b)) := by
  refine pu_of_ex true [] mixed Tryz.call105 Tryz.func105 rfl Tryz.ntmps105 Tryz.results105 (by decide +kernel) rfl rfl rfl ?_
  refine sxq ?_
  try with_reducible exact trivial
  refine sp_c (psize_pu a ha) rfl [] ?_
  refine sxq ?_
  try with_reducible exact trivial
  refine sp_c (psize_pu b hb) rfl [] ?_
  refine sxq ?_
  try with_reducible exact trivial
  have hm := mul64_pu a.natAbs b.natAbs [] (by omega) (by omega)
  rw [hi_mul, lo_mul] at hm
  refine sp_c (hm) rfl [] ?_
  refine sxq ?_
  try with_reducible exact trivial
  have hz := zero_words (a * b)
  have hn := neg_mul_iff a b
  generalize a * b = z at *
  generalize hiW z = h at *
  generalize loW z = l at *
  by_cases h1 : a < 0 <;> by_cases h2 : b < 0 <;> simp only [h1, h2, decide_true, decide_false, ne_eq, not_true_eq_false, false_and, true_and, iff_false, eq_self_iff_true, not_false_eq_true, Bool.false_eq_true, eq_iff_iff, iff_true, true_iff, show (true != true) = false from rfl, show (true != false) = true from rfl, show (false != true) = true from rfl, show (false != false) = false from rfl] at hn ⊢
  · refine sxq ?_
    try with_reducible exact trivial
    exact pv (by simp; omega)
  · refine sxq ?_
    try with_reducible exact trivial
    exact ⟨fun h3 => pv (by rw [Bool.eq_iff_iff]; simp; omega), fun h3 => pv (by simp; omega)⟩
  · refine sxq ?_
    try with_reducible exact trivial
    exact ⟨fun h3 => pv (by rw [Bool.eq_iff_iff]; simp; omega), fun h3 => pv (by simp; omega)⟩
  · refine sxq ?_
    try with_reducible exact trivial
    exact pv (by simp; omega)
theorem cmpSize_pu (x y : Int) : Pu Tryz.prog 111 [pr x, pr y] [] (.v (.int .i64 (if x.natAbs < y.natAbs then -1 else if x.natAbs = y.natAbs then 0 else 1))) := by
  have h1 := words x
  have h2 := words y
  have h3 := lo_lt x
  have h4 := lo_lt y
  refine pu_of_ex true [] mixed Tryz.call111 Tryz.func111 rfl Tryz.ntmps111 Tryz.results111 (by decide +kernel) rfl rfl rfl ?_
  refine sxq ?_
  try with_reducible exact trivial
  generalize hiW x = a at *
  generalize loW x = b at *
  generalize hiW y = c at *
  generalize loW y = d at *
  repeat' (with_reducible (first | apply And.intro | intro _))
  all_goals
    refine vi ?_
    repeat' split
    all_goals omega
theorem cmp_pu (x y : Int) : Pu Tryz.prog 108 [pr x, pr y] [] (.v (.int .i64 (if x < y then -1 else if x = y then 0 else 1))) := by
  refine pu_of_ex true [] mixed Tryz.call108 Tryz.func108 rfl Tryz.ntmps108 Tryz.results108 (by decide +kernel) rfl rfl rfl ?_
  refine sxq ?_
  try with_reducible exact trivial
  by_cases h1 : x < 0 <;> by_cases h2 : y < 0 <;> simp only [h1, h2, decide_true, decide_false, show (true != true) = false from rfl, show (true != false) = true from rfl, show (false != true) = true from rfl, show (false != false) = false from rfl]
  · refine sxq ?_
    try with_reducible exact trivial
    refine sp_call (cmpSize_pu y x) rfl [] rfl ?_ ?_ ?_
    · simp only [push_cast, ↓branch_true, ↓branch_false, Nat.reduceBEq, Nat.reduceAdd, Nat.reduceMul, Nat.reduceSub, Int.reduceToNat, reduceCtorEq, Int.reduceAdd, Int.reduceEq, Int.reduceLE, Int.reduceLT, Nat.reduceLT, Nat.reduceLeDiff, h1, h2, decide_true]
      try trivial
    · refine sxq ?_
      try with_reducible exact trivial
    refine sxq ?_
    try with_reducible exact trivial
    refine vi ?_
    repeat' split
    all_goals omega
  · refine sxq ?_
    try with_reducible exact trivial
    refine vi ?_
    rw [if_pos (by omega)]
  · refine sxq ?_
    try with_reducible exact trivial
    refine vi ?_
    rw [if_neg (by omega), if_neg (by omega)]
  · refine sxq ?_
    try with_reducible exact trivial
    refine sp_call (cmpSize_pu x y) rfl [] rfl ?_ ?_ ?_
    · simp only [push_cast, ↓branch_true, ↓branch_false, Nat.reduceBEq, Nat.reduceAdd, Nat.reduceMul, Nat.reduceSub, Int.reduceToNat, reduceCtorEq, Int.reduceAdd, Int.reduceEq, Int.reduceLE, Int.reduceLT, Nat.reduceLT, Nat.reduceLeDiff, h1, h2, decide_false]
      try trivial
    · refine sxq ?_
      try with_reducible exact trivial
    refine sxq ?_
    try with_reducible exact trivial
    refine vi ?_
    repeat' split
    all_goals omega
theorem tdiv_sign (z : Int) (D : Nat) : z.tdiv (D : Int) = if z < 0 then -((z.natAbs / D : Nat) : Int) else ((z.natAbs / D : Nat) : Int) := by
  split
  · rename_i h
    obtain ⟨n, rfl⟩ : ∃ n : Nat, z = -(n : Int) := ⟨z.natAbs, by omega⟩
    rw [Int.neg_tdiv, ← Int.ofNat_tdiv, Int.natAbs_neg, Int.natAbs_natCast]
  · rename_i h
    obtain ⟨n, rfl⟩ : ∃ n : Nat, z = (n : Int) := ⟨z.natAbs, by omega⟩
    rw [← Int.ofNat_tdiv, Int.natAbs_natCast]
theorem qN_words (z : Int) (D : Nat) : qN (hiW z) (loW z) D = z.natAbs / D := by
  unfold qN wd
  rw [words]
theorem over_pu (z : Int) (D : Nat) (hd : 0 < D ∧ D ≤ 9223372036854775807) (hf : z.natAbs / D < 9223372036854775808) : Pu Tryz.prog 107 [pr z, .v (.int .i64 D)] [] (.v (.int .i64 (z.tdiv (D : Int)))) := by
  have hq := qN_words z D
  have hs := tdiv_sign z D
  rw [← hq] at hf hs
  have hlt : hiW z < D := by
    have h1 := Nat.lt_of_mul_lt_mul_right (a := D) (b := qN (hiW z) (loW z) D) (c := 9223372036854775808)
    have h2 := words z
    rw [hq, Nat.div_lt_iff_lt_mul (by omega)] at hf
    clear h1 hs hq
    generalize hiW z = a at *
    generalize loW z = b at *
    omega
  have hdv := div64_pu (hiW z) (loW z) D hlt (by omega) (lo_lt z)
  rw [hs]
  clear hs
  refine pu_of_ex true [] mixed Tryz.call107 Tryz.func107 rfl Tryz.ntmps107 Tryz.results107 (by decide +kernel) rfl rfl rfl ?_
  refine sxq ?_
  try with_reducible exact trivial
  repeat (with_reducible refine And.intro (by omega) ?_)
  refine sp_c (hdv) rfl [] ?_
  refine sxq ?_
  try with_reducible exact trivial
  generalize qN (hiW z) (loW z) D = q at *
  by_cases h : z < 0 <;> simp only [h, decide_true, decide_false, if_true, if_false]
  · refine sxq ?_
    try with_reducible exact trivial
    refine ⟨by omega, by omega, vi (by omega)⟩
  · refine sxq ?_
    try with_reducible exact trivial
    omega
end Go.Proofs.YtdeaaonppokgkaaGreat
