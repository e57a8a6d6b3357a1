/- Contracts: sizes, greatest common divisors, products of 128 bits. -/
import Derived.Test.YtdeaaonppokgkaaGreatA0
set_option maxRecDepth 100000
set_option linter.unusedSimpArgs false
set_option linter.unusedVariables false
namespace Go.Proofs.YtdeaaonppokgkaaGreat
open Go.RowKit
theorem size_arith {n : Int} (h : -9223372036854775808 ≤ n ∧ n ≤ 9223372036854775807) (h0 : n < 0) : IntKind.u64.wrap (0 - IntKind.u64.wrap n) = ((n.natAbs : Nat) : Int) := by
  rw [IntKind.wrap_u64, IntKind.wrap_u64]; omega
theorem size_pos {n : Int} (h : -9223372036854775808 ≤ n ∧ n ≤ 9223372036854775807) (h0 : ¬ n < 0) : IntKind.u64.wrap n = ((n.natAbs : Nat) : Int) := by
  rw [IntKind.wrap_u64]; omega
theorem vi {k : IntKind} {a b : Int} (h : a = b) : SV.v (.int k a) = SV.v (.int k b) := by rw [h]
theorem size_pu (n : Int) (h : -9223372036854775808 ≤ n ∧ n ≤ 9223372036854775807) : Pu Tryz.prog 46 [.v (.int .i64 n)] [] (.v (.int .u64 (n.natAbs : Nat))) := by
  refine pu_of_ex false [] mixed Tryz.call46 Tryz.func46 rfl Tryz.ntmps46 Tryz.results46 (by decide +kernel) rfl rfl rfl ?_
  refine sxq ?_
  try with_reducible exact trivial
  exact ⟨fun h0 => vi (size_arith h h0), fun h0 => vi (size_pos h h0)⟩
theorem psize_pu (n : Int) (h : -9223372036854775808 ≤ n ∧ n ≤ 9223372036854775807) : Pu Tryz.prog 89 [.v (.int .i64 n)] [] (.v (.int .u64 (n.natAbs : Nat))) := by
  refine pu_of_ex false [] mixed Tryz.call89 Tryz.func89 rfl Tryz.ntmps89 Tryz.results89 (by decide +kernel) rfl rfl rfl ?_
  refine sxq ?_
  try with_reducible exact trivial
  exact ⟨fun h0 => vi (size_arith h h0), fun h0 => vi (size_pos h h0)⟩
theorem gcd_pu (a b : Nat) (ha : a < 18446744073709551616) (hb : b < 18446744073709551616) : Pu Tryz.prog 47 [.v (.int .u64 a), .v (.int .u64 b)] [] (.v (.int .u64 (Nat.gcd a b : Nat))) := by
  refine pu_of_ex true [] mixed Tryz.call47 Tryz.func47 rfl Tryz.ntmps47 Tryz.results47 (by decide +kernel) rfl rfl rfl ?_
  refine sxq ?_
  try with_reducible exact trivial
  refine tr_loop0 mixed (by kernel_rfl) (fun (x : Nat × Nat) => [(0, .v (.int .u64 x.1)), (1, .v (.int .u64 x.2))]) (fun x => Nat.gcd x.1 x.2 = Nat.gcd a b ∧ x.1 < 18446744073709551616 ∧ x.2 < 18446744073709551616) (fun x => x.2) (a, b) ⟨rfl, ha, hb⟩ ?_ ?_
  · refine sxq ?_
    try with_reducible exact trivial
    try trivial
  rintro ⟨x, y⟩ ⟨h1, h2, h3⟩
  simp only at h1 h2 h3
  refine sxq ?_
  try with_reducible exact trivial
  refine ⟨fun h => ?_, fun h => ?_⟩
  · obtain rfl : y = 0 := by omega
    rw [Nat.gcd_zero_right] at h1
    rw [h1]
  · have hm : ((x : Int).tmod (y : Int)) = ((x % y : Nat) : Int) := (Int.ofNat_tmod x y).symm
    have hlt : x % y < y := Nat.mod_lt _ (by omega)
    refine ⟨h, lp0_normal (y, x % y) ⟨?_, by simp only; omega, by simp only; omega⟩ (by simp only; omega) ?_⟩
    · simp only
      rw [← h1, Nat.gcd_comm x y, Nat.gcd_rec y x, Nat.gcd_comm]
    · simp only [push_cast, ↓branch_true, ↓branch_false, Nat.reduceBEq, Nat.reduceAdd, Nat.reduceMul, Nat.reduceSub, Int.reduceToNat, reduceCtorEq, Int.reduceAdd, Int.reduceEq, Int.reduceLE, Int.reduceLT, Nat.reduceLT, Nat.reduceLeDiff, hm]
end Go.Proofs.YtdeaaonppokgkaaGreat
