/- Contracts of the reference's numbers of 128 bits. -/
import Derived.Test.YtdeaaonppokgkaaGreatGA
set_option maxRecDepth 100000
set_option linter.unusedSimpArgs false
set_option linter.unusedVariables false
namespace Go.Proofs.YtdeaaonppokgkaaGreat
open Go.RowKit Lp
theorem rsize_pu (n : Int) (h : -9223372036854775808 ≤ n ∧ n ≤ 9223372036854775807) : Pu Tryz.prog 66 [.v (.int .i64 n)] [] (.v (.int .u64 (n.natAbs : Nat))) := by
  refine pu_of_ex false [] mixed Tryz.call66 Tryz.func66 rfl Tryz.ntmps66 Tryz.results66 (by decide +kernel) rfl rfl rfl ?_
  refine sxq ?_
  try with_reducible exact trivial
  exact ⟨fun h0 => vi (size_arith h h0), fun h0 => vi (size_pos h h0)⟩
theorem rless_pu (x y : Nat) : Pu Tryz.prog 101 [wV x, wV y] [] (.v (.bool (decide (x < y)))) := by
  have h1 := hl x
  have h2 := hl y
  have h3 := lN_lt x
  have h4 := lN_lt y
  refine pu_of_ex true [] mixed Tryz.call101 Tryz.func101 rfl Tryz.ntmps101 Tryz.results101 (by decide +kernel) rfl rfl rfl ?_
  refine sxq ?_
  try with_reducible exact trivial
  generalize hN x = a at *
  generalize lN x = b at *
  generalize hN y = c at *
  generalize lN y = d at *
  repeat' (with_reducible (first | apply And.intro | intro _))
  all_goals
    refine vb ?_
    first | (simp; omega) | omega
theorem half_words {x h l : Nat} (hx : h * 18446744073709551616 + l = x) (hl0 : l < 18446744073709551616) : h / 2 = hN (x / 2) ∧ IntKind.u64.wrap (((l / 2 : Nat) : Int) + ((h * 9223372036854775808 % 18446744073709551616 : Nat) : Int)) = (lN (x / 2) : Nat) := by
  unfold hN lN
  rw [IntKind.wrap_u64]
  constructor <;> omega
theorem half_pu (x : Nat) : Pu Tryz.prog 109 [wV x] [] (wV (x / 2)) := by
  have h1 := hl x
  have h3 := lN_lt x
  have e1 := u64_shr (x := hN x) (n := 1) (by decide)
  have e2 := u64_shr (x := lN x) (n := 1) (by decide)
  have e3 := u64_shlm (x := hN x) (n := 63) (by decide)
  obtain ⟨q1, q2⟩ := half_words h1 h3
  rw [show (2 : Nat) ^ 1 = 2 from rfl] at e1 e2
  rw [show (2 : Nat) ^ 63 = 9223372036854775808 from rfl] at e3
  unfold wV
  generalize lN (x / 2) = l2 at *
  generalize hN (x / 2) = h2 at *
  refine pu_of_ex false [] mixed Tryz.call109 Tryz.func109 rfl Tryz.ntmps109 Tryz.results109 (by decide +kernel) rfl rfl rfl ?_
  refine sxq ?_
  try with_reducible exact trivial
  rw [e1, e2, e3, q1, q2]
theorem rminus_words {x y h l a b c d : Nat} (hx : a * 18446744073709551616 + b = x) (hy : c * 18446744073709551616 + d = y) (hz : h * 18446744073709551616 + l = x - y) (h0 : y ≤ x) (hb : b < 18446744073709551616) (hd : d < 18446744073709551616) (hl0 : l < 18446744073709551616) (ha : a < 18446744073709551616) :
    IntKind.u64.wrap ((b : Int) - (d : Int)) = l ∧ ((b : Int) < d → IntKind.u64.wrap (IntKind.u64.wrap ((a : Int) - (c : Int)) - 1) = h) ∧ (¬ (b : Int) < d → IntKind.u64.wrap ((a : Int) - (c : Int)) = h) := by
  rw [IntKind.wrap_u64, IntKind.wrap_u64, IntKind.wrap_u64]
  refine ⟨?_, fun h => ?_, fun h => ?_⟩ <;> omega
theorem rminus_pu (x y : Nat) (h : y ≤ x) (hx : x < 340282366920938463463374607431768211456) : Pu Tryz.prog 103 [wV x, wV y] [] (wV (x - y)) := by
  have h1 := hl x
  have h2 := hl y
  have h3 := lN_lt x
  have h4 := lN_lt y
  have h5 := hl (x - y)
  have h6 := lN_lt (x - y)
  obtain ⟨e1, e2, e3⟩ := rminus_words h1 h2 h5 h h3 h4 h6 (hN_lt hx)
  unfold wV
  generalize hN (x - y) = r1 at *
  generalize lN (x - y) = r2 at *
  refine pu_of_ex false [] mixed Tryz.call103 Tryz.func103 rfl Tryz.ntmps103 Tryz.results103 (by decide +kernel) rfl rfl rfl ?_
  refine sxq ?_
  try with_reducible exact trivial
  refine ⟨fun q => ?_, fun q => ?_⟩
  · rw [e1, e2 q]
  · rw [e1, e3 q]
theorem rplus_words {x y h l a b c d : Nat} (hx : a * 18446744073709551616 + b = x) (hy : c * 18446744073709551616 + d = y) (hz : h * 18446744073709551616 + l = x + y) (hb : b < 18446744073709551616) (hd : d < 18446744073709551616) (hl0 : l < 18446744073709551616) (hh : h < 18446744073709551616) :
    IntKind.u64.wrap ((b : Int) + (d : Int)) = l ∧ ((l : Int) < b → IntKind.u64.wrap (IntKind.u64.wrap ((a : Int) + (c : Int)) + 1) = h) ∧ (¬ (l : Int) < b → IntKind.u64.wrap ((a : Int) + (c : Int)) = h) := by
  rw [IntKind.wrap_u64, IntKind.wrap_u64, IntKind.wrap_u64]
  refine ⟨?_, fun h => ?_, fun h => ?_⟩ <;> omega
theorem rplus_pu (x y : Nat) (h : x + y < 340282366920938463463374607431768211456) : Pu Tryz.prog 102 [wV x, wV y] [] (wV (x + y)) := by
  have h1 := hl x
  have h2 := hl y
  have h3 := lN_lt x
  have h4 := lN_lt y
  have h5 := hl (x + y)
  have h6 := lN_lt (x + y)
  obtain ⟨e1, e2, e3⟩ := rplus_words h1 h2 h5 h3 h4 h6 (hN_lt h)
  unfold wV
  generalize hN (x + y) = r1 at *
  generalize lN (x + y) = r2 at *
  refine pu_of_ex false [] mixed Tryz.call102 Tryz.func102 rfl Tryz.ntmps102 Tryz.results102 (by decide +kernel) rfl rfl rfl ?_
  refine sxq ?_
  try with_reducible exact trivial
  simp only [push_cast, ↓branch_true, ↓branch_false, Nat.reduceBEq, Nat.reduceAdd, Nat.reduceMul, Nat.reduceSub, Int.reduceToNat, reduceCtorEq, Int.reduceAdd, Int.reduceEq, Int.reduceLE, Int.reduceLT, Nat.reduceLT, Nat.reduceLeDiff, e1]
  refine ⟨fun q => ?_, fun q => ?_⟩
  · rw [e2 q]
  · rw [e3 q]
theorem wrap_mul {x y : Nat} (hx : x < 4294967296) (hy : y < 4294967296) : IntKind.u64.wrap ((x : Int) * (y : Int)) = ((x * y : Nat) : Int) := by
  rw [← Int.natCast_mul]
  have h : x * y ≤ 4294967295 * 4294967295 := Nat.mul_le_mul (by omega) (by omega)
  exact u64n (by omega)
theorem wrap_add {x y : Nat} (h : x + y < 18446744073709551616) : IntKind.u64.wrap ((x : Int) + (y : Int)) = ((x + y : Nat) : Int) := by
  rw [← Int.natCast_add]
  exact u64n h
set_option maxHeartbeats 8000000 in
theorem rmul_pu (a b : Nat) (ha : a < 18446744073709551616) (hb : b < 18446744073709551616) : Pu Tryz.prog 100 [.v (.int .u64 a), .v (.int .u64 b)] [] (wV (a * b)) := by
  have a1 := u64_shr (x := a) (n := 32) (by decide)
  have a2 := u64_mask ha
  have b1 := u64_shr (x := b) (n := 32) (by decide)
  have b2 := u64_mask hb
  rw [show (2 : Nat) ^ 32 = 4294967296 from rfl] at a1 b1
  have hA : a / 4294967296 < 4294967296 := by omega
  have hB : a % 4294967296 < 4294967296 := Nat.mod_lt _ (by decide)
  have hC : b / 4294967296 < 4294967296 := by omega
  have hD : b % 4294967296 < 4294967296 := Nat.mod_lt _ (by decide)
  have ea : a = a / 4294967296 * 4294967296 + a % 4294967296 := (Nat.div_add_mod' a 4294967296).symm
  have eb : b = b / 4294967296 * 4294967296 + b % 4294967296 := (Nat.div_add_mod' b 4294967296).symm
  have hp : a * b = (a / 4294967296) * (b / 4294967296) * 18446744073709551616 + ((a / 4294967296) * (b % 4294967296) + (a % 4294967296) * (b / 4294967296)) * 4294967296 + (a % 4294967296) * (b % 4294967296) := by
    conv => lhs; rw [ea, eb]
    generalize a / 4294967296 = A
    generalize a % 4294967296 = B
    generalize b / 4294967296 = C
    generalize b % 4294967296 = D
    rw [Nat.add_mul, Nat.mul_add, Nat.mul_add, Nat.mul_assoc A, Nat.mul_left_comm 4294967296 C, ← Nat.mul_assoc A C, Nat.mul_assoc A 4294967296 D, Nat.mul_left_comm A 4294967296 D, ← Nat.mul_assoc B C]
    omega
  have m1 := wrap_mul hB hD
  have m2 := wrap_mul hA hD
  have m3 := wrap_mul hB hC
  have m4 := wrap_mul hA hC
  have q1 : a % 4294967296 * (b % 4294967296) ≤ 4294967295 * 4294967295 := Nat.mul_le_mul (by omega) (by omega)
  have q2 : a / 4294967296 * (b % 4294967296) ≤ 4294967295 * 4294967295 := Nat.mul_le_mul (by omega) (by omega)
  have q3 : a % 4294967296 * (b / 4294967296) ≤ 4294967295 * 4294967295 := Nat.mul_le_mul (by omega) (by omega)
  have q4 : a / 4294967296 * (b / 4294967296) ≤ 4294967295 * 4294967295 := Nat.mul_le_mul (by omega) (by omega)
  refine pu_of_ex false [] mixed Tryz.call100 Tryz.func100 rfl Tryz.ntmps100 Tryz.results100 (by decide +kernel) rfl rfl rfl ?_
  refine sxq ?_
  try with_reducible exact trivial
  simp only [a1, a2, b1, b2]
  simp only [m1, m2, m3, m4]
  generalize a % 4294967296 * (b % 4294967296) = P1 at *
  generalize a / 4294967296 * (b % 4294967296) = P2 at *
  generalize a % 4294967296 * (b / 4294967296) = P3 at *
  generalize a / 4294967296 * (b / 4294967296) = P4 at *
  have n1 := u64_shr (x := P1) (n := 32) (by decide)
  have n2 := u64_mask (x := P1) (by omega)
  rw [show (2 : Nat) ^ 32 = 4294967296 from rfl] at n1
  simp only [n1, n2]
  have n3 := wrap_add (x := P2) (y := P1 / 4294967296) (by omega)
  simp only [n3]
  generalize hM : P2 + P1 / 4294967296 = M at *
  have n4 := u64_shr (x := M) (n := 32) (by decide)
  have n5 := u64_mask (x := M) (by omega)
  rw [show (2 : Nat) ^ 32 = 4294967296 from rfl] at n4
  simp only [n4, n5]
  have n6 := wrap_add (x := P3) (y := M % 4294967296) (by omega)
  simp only [n6]
  generalize hO : P3 + M % 4294967296 = O at *
  have n7 := u64_shr (x := O) (n := 32) (by decide)
  have n8 := u64_shlm (x := O) (n := 32) (by decide)
  rw [show (2 : Nat) ^ 32 = 4294967296 from rfl] at n7 n8
  simp only [n7, n8]
  have n9 := wrap_add (x := P4) (y := M / 4294967296) (by omega)
  simp only [n9]
  have n10 := wrap_add (x := P4 + M / 4294967296) (y := O / 4294967296) (by omega)
  have n11 := wrap_add (x := O * 4294967296 % 18446744073709551616) (y := P1 % 4294967296) (by omega)
  simp only [n10, n11]
  rw [show P4 + M / 4294967296 + O / 4294967296 = hN (a * b) by unfold hN; omega, show O * 4294967296 % 18446744073709551616 + P1 % 4294967296 = lN (a * b) by unfold lN; omega]
theorem agg83 (a b c d : Int) : AggEq Tryz.prog 112 [.int .u64 a, .int .u64 b] [.int .u64 c, .int .u64 d] :=
  agg_two .u64 (Tryz.prog.fieldsOf 112)[0]! (Tryz.prog.fieldsOf 112)[1]! (by kernel_rfl) (by kernel_rfl) (by kernel_rfl) (by kernel_rfl) (by kernel_rfl) (by kernel_rfl) (by kernel_rfl) (by kernel_rfl) (by kernel_rfl) (by kernel_rfl) (by kernel_rfl) (by kernel_rfl) a b c d
def oZ (x : Nat) : Ob := ⟨112, false, .st [.v (.int .u64 (hN x : Nat)), .v (.int .u64 (lN x : Nat))]⟩
attribute [push_cast] oZ
theorem w_zero (x : Nat) : ((hN x : Int) == 0 && (lN x : Int) == 0) = decide (x = 0) := by
  have h := hl x
  rw [Bool.eq_iff_iff]
  simp only [Bool.and_eq_true, beq_iff_eq, decide_eq_true_eq]
  omega
theorem u64_and1 {x : Nat} (h : x < 18446744073709551616) : IntKind.u64.wrap (((BitVec.ofInt IntKind.u64.bits (x : Int) &&& BitVec.ofInt IntKind.u64.bits 1).toNat : Nat) : Int) = ((x % 2 : Nat) : Int) := by
  show IntKind.u64.wrap (((BitVec.ofInt 64 (x : Int) &&& BitVec.ofInt 64 ((1 : Nat) : Int)).toNat : Nat) : Int) = ((x % 2 : Nat) : Int)
  rw [BitVec.toNat_and, BitVec.ofInt_natCast, BitVec.ofInt_natCast, BitVec.toNat_ofNat, BitVec.toNat_ofNat, Nat.mod_eq_of_lt (by omega), Nat.mod_eq_of_lt (by omega), Nat.and_one_is_mod]
  exact u64n (by omega)
theorem l_par (x : Nat) : lN x % 2 = x % 2 := by unfold lN; omega
theorem gcd_half {x y : Nat} (hx : x % 2 = 0) (hg : Nat.gcd x y % 2 = 1) : Nat.gcd (x / 2) y = Nat.gcd x y := by
  refine Nat.dvd_antisymm ?_ ?_
  · refine Nat.dvd_gcd ?_ (Nat.gcd_dvd_right _ _)
    exact Nat.dvd_trans (Nat.gcd_dvd_left _ _) ⟨2, by omega⟩
  · refine Nat.dvd_gcd ?_ (Nat.gcd_dvd_right _ _)
    have h1 : Nat.gcd x y ∣ 2 * (x / 2) := by rw [show 2 * (x / 2) = x by omega]; exact Nat.gcd_dvd_left _ _
    refine Nat.Coprime.dvd_of_dvd_mul_left ?_ h1
    have h2 := Nat.gcd_dvd_right (Nat.gcd x y) 2
    have h3 := Nat.gcd_dvd_left (Nat.gcd x y) 2
    have h4 : Nat.gcd (Nat.gcd x y) 2 ≤ 2 := Nat.le_of_dvd (by decide) h2
    have h5 : Nat.gcd (Nat.gcd x y) 2 ≠ 0 := fun h => by rw [h] at h2; omega
    have h6 : Nat.gcd (Nat.gcd x y) 2 ≠ 2 := fun h => by rw [h] at h3; omega
    show Nat.gcd (Nat.gcd x y) 2 = 1
    omega
theorem gcd_odd {x y : Nat} (h : x % 2 = 1 ∨ y % 2 = 1) : Nat.gcd x y % 2 = 1 := by
  rcases Nat.mod_two_eq_zero_or_one (Nat.gcd x y) with h0 | h1
  · have d : 2 ∣ Nat.gcd x y := Nat.dvd_of_mod_eq_zero h0
    have d1 := Nat.dvd_trans d (Nat.gcd_dvd_left _ _)
    have d2 := Nat.dvd_trans d (Nat.gcd_dvd_right _ _)
    omega
  · exact h1
theorem gcd_take {x y : Nat} (h : y ≤ x) : Nat.gcd (x - y) y = Nat.gcd x y := by
  obtain ⟨z, rfl⟩ : ∃ z, x = z + y := ⟨x - y, by omega⟩
  rw [Nat.add_sub_cancel, Nat.gcd_add_self_left]
set_option maxHeartbeats 8000000 in
theorem rgcd_pu (a b : Nat) (ha : a < 170141183460469231731687303715884105728) (hb : b < 170141183460469231731687303715884105728) (hb0 : 0 < b) : Pu Tryz.prog 98 [wV a, wV b] [] (wV (Nat.gcd a b)) := by
  have hG : a = 0 → Nat.gcd a b = b := fun h => by rw [h, Nat.gcd_zero_left]
  have hG2 : Nat.gcd a b ≤ b := Nat.gcd_le_right _ hb0
  have hG3 : ∀ x y k, x * 2 ^ k = a → y * 2 ^ k = b → Nat.gcd x y * 2 ^ k = Nat.gcd a b := fun x y k h1 h2 => by rw [← h1, ← h2, Nat.gcd_mul_right]
  generalize Nat.gcd a b = G0 at *
  refine pu_of_ex true [(5, .one 4 (.one 5 (.alt [(0, .alt [(1, .one 2 (.one 3 (.one 6 (.one 7 (.one 8 .fin))))), (2, .one 1 (.one 3 (.one 6 (.one 7 (.one 8 .fin)))))]), (2, .one 0 (.one 1 (.one 3 (.one 6 (.one 7 (.one 8 .fin))))))])))] mixed Tryz.call98 Tryz.func98 rfl Tryz.ntmps98 Tryz.results98 (by decide +kernel) rfl rfl rfl ?_
  refine sxq ?_
  try with_reducible exact trivial
  rw [w_zero a]
  refine ⟨agg83 _ _ _ _, ?_⟩
  refine sxq ?_
  try with_reducible exact trivial
  refine ⟨fun h0 => by rw [hG h0], fun h0 => ?_⟩
  refine tr_loop mixed (by kernel_rfl) (fun (x : Nat × Nat × Nat) => [(5, .v (.int .i64 x.2.2)), (2, .p 0 0 0), (3, .p 1 0 0), (4, .p 2 0 0)]) (fun x => [oZ x.1, oZ x.2.1, oZ 0]) (fun x => 0 < x.1 ∧ 0 < x.2.1 ∧ x.1 * 2 ^ x.2.2 = a ∧ x.2.1 * 2 ^ x.2.2 = b) (fun x => x.1 + x.2.1) (a, b, 0) ⟨by simp only; omega, hb0, by simp, by simp⟩ (Mt.wk (rl := [0, 1, 2]) ⟨by kernel_rfl, ?_, ?_⟩) ?_
  · refine sxq ?_
    try with_reducible exact trivial
    try trivial
  · refine sxq ?_
    try with_reducible exact trivial
    exact ⟨rfl, rfl⟩
  rintro ⟨x, y, k⟩ ⟨h1, h2, h3, h4⟩
  simp only at h1 h2 h3 h4
  have l1 := lN_lt x
  have l2 := lN_lt y
  have hk : k < 127 := by
    have h5 : 2 ^ k ≤ x * 2 ^ k := Nat.le_mul_of_pos_left _ h1
    have h6 : 2 ^ k < 2 ^ 127 := by rw [h3] at h5; exact Nat.lt_of_le_of_lt h5 ha
    exact (Nat.pow_lt_pow_iff_right (by decide)).1 h6
  have hx := half_pu x
  have hy := half_pu y
  simp only [push_cast, ↓branch_true, ↓branch_false, Nat.reduceBEq, Nat.reduceAdd, Nat.reduceMul, Nat.reduceSub, Int.reduceToNat, reduceCtorEq, Int.reduceAdd, Int.reduceEq, Int.reduceLE, Int.reduceLT, Nat.reduceLT, Nat.reduceLeDiff, u64_and1 l1, u64_and1 l2, l_par]
  refine ⟨fun c1 => ⟨fun c2 => ?_, fun c2 => ?_⟩, fun c1 => ?_⟩
  · obtain ⟨x', rfl⟩ : ∃ z, x = 2 * z := ⟨x / 2, by omega⟩
    obtain ⟨y', rfl⟩ : ∃ z, y = 2 * z := ⟨y / 2, by omega⟩
    rw [show 2 * x' / 2 = x' by omega] at hx
    rw [show 2 * y' / 2 = y' by omega] at hy
    have hx' := (fun H => pu_a hx rfl H)
    have hy' := (fun H => pu_a hy rfl H)
    have hst : x' * 2 ^ (k + 1) = a ∧ y' * 2 ^ (k + 1) = b := by
      rw [Nat.pow_succ, ← h3, ← h4]
      constructor
      · rw [Nat.mul_comm (2 ^ k) 2, ← Nat.mul_assoc, Nat.mul_comm x' 2]
      · rw [Nat.mul_comm (2 ^ k) 2, ← Nat.mul_assoc, Nat.mul_comm y' 2]
    repeat' (first
      | (with_reducible apply And.intro)
      | omega
      | (refine sp_pu (hx' _) ?_
         refine sxq ?_
         try with_reducible exact trivial
         )
      | (refine sp_pu (hy' _) ?_
         refine sxq ?_
         try with_reducible exact trivial
         )
      | (refine lpK_normal (x', y', k + 1) [0, 1, 2] ⟨by simp only; omega, by simp only; omega, hst.1, hst.2⟩ (by simp only; omega) (by kernel_rfl) ?_ ?_))
    all_goals
      refine sxq ?_
      try with_reducible exact trivial
      try trivial
  all_goals
    have hodd : x % 2 = 1 ∨ y % 2 = 1 := by omega
    have hgo := gcd_odd hodd
    have hgk := hG3 x y k h3 h4
    have hxa : x < 170141183460469231731687303715884105728 := Nat.lt_of_le_of_lt (by rw [← h3]; exact Nat.le_mul_of_pos_right _ (Nat.two_pow_pos _)) ha
    have hyb : y < 170141183460469231731687303715884105728 := Nat.lt_of_le_of_lt (by rw [← h4]; exact Nat.le_mul_of_pos_right _ (Nat.two_pow_pos _)) hb
    have hgz : 0 < Nat.gcd x y := Nat.gcd_pos_of_pos_left _ h1
    have init : Nat.gcd x y = Nat.gcd x y := rfl
    clear hx hy l1 l2 hodd h3 h4 hG3
    generalize hgd : Nat.gcd x y = g at hgo hgk hgz
    refine tr_loop mixed (by kernel_rfl) (fun (_ : Nat × Nat) => [(5, .v (.int .i64 k)), (2, .p 0 0 0), (3, .p 1 0 0), (4, .p 2 0 0)]) (fun z => [oZ z.1, oZ z.2, oZ 0]) (fun z => z.2 > 0 ∧ Nat.gcd z.1 z.2 = g ∧ z.1 < 170141183460469231731687303715884105728 ∧ z.2 < 170141183460469231731687303715884105728) (fun z => z.1 + z.2) (x, y) ⟨h2, hgd, hxa, hyb⟩ (Mt.wk (rl := [0, 1, 2]) ⟨by kernel_rfl, ?_, ?_⟩) ?_
    · refine sxq ?_
      try with_reducible exact trivial
      try trivial
    · refine sxq ?_
      try with_reducible exact trivial
    clear init hxa hyb hgd
    rintro ⟨u, v⟩ ⟨i1, i2, i3, i4⟩
    simp only at i1 i2 i3 i4
    refine sxq ?_
    try with_reducible exact trivial
    rw [w_zero u]
    refine ⟨agg83 _ _ _ _, ?_⟩
    refine sxq ?_
    try with_reducible exact trivial
    refine ⟨fun hu0 => ?_, fun hu0 => ?_⟩
    · have hv : v = g := by rw [← i2, hu0, Nat.gcd_zero_left]
      refine tr_loop mixed (by kernel_rfl) (fun (z : Nat × Nat) => [(5, .v (.int .i64 z.1)), (2, .p 0 0 0), (3, .p 1 0 0), (4, .p 2 0 0)]) (fun z => [oZ u, oZ z.2, oZ 0]) (fun z => z.1 ≤ k ∧ z.2 * 2 ^ z.1 = G0) (fun z => z.1) (k, v) ⟨Nat.le_refl _, by rw [hv]; exact hgk⟩ (Mt.wk (rl := [0, 1, 2]) ⟨by kernel_rfl, ?_, ?_⟩) ?_
      · refine sxq ?_
        try with_reducible exact trivial
        try trivial
      · refine sxq ?_
        try with_reducible exact trivial
      rintro ⟨j, w⟩ ⟨j1, j2⟩
      simp only at j1 j2
      refine sxq ?_
      try with_reducible exact trivial
      refine ⟨fun hj => ?_, fun hj => ?_⟩
      · have hj0 : 0 < j := by omega
        obtain ⟨i, rfl⟩ : ∃ i, j = i + 1 := ⟨j - 1, by omega⟩
        have hwb : (w + w) * 2 ^ i = G0 := by rw [← j2, Nat.pow_succ, Nat.mul_comm (2 ^ i) 2, ← Nat.mul_assoc, Nat.mul_two]
        have hwl : w + w ≤ (w + w) * 2 ^ i := Nat.le_mul_of_pos_right _ (Nat.two_pow_pos _)
        have hpl := rplus_pu w w (by omega)
        refine sp_c hpl rfl [] ?_
        refine sxq ?_
        try with_reducible exact trivial
        refine ⟨by omega, ?_⟩
        refine lpK_normal (i, w + w) [0, 1, 2] ⟨by simp only; omega, hwb⟩ (by simp only; omega) (by kernel_rfl) ?_ ?_
        · refine sxq ?_
          try with_reducible exact trivial
          exact congrArg _ (by omega)
        · refine sxq ?_
          try with_reducible exact trivial
      · obtain rfl : j = 0 := by omega
        rw [Nat.pow_zero, Nat.mul_one] at j2
        rw [j2]
    · have hul : u ≤ u := Nat.le_refl _
      refine tr_loop mixed (by kernel_rfl) (fun (_ : Nat) => [(5, .v (.int .i64 k)), (2, .p 0 0 0), (3, .p 1 0 0), (4, .p 2 0 0)]) (fun z => [oZ z, oZ v, oZ 0]) (fun z => 0 < z ∧ Nat.gcd z v = g ∧ z ≤ u) (fun z => z) u ⟨by omega, i2, Nat.le_refl _⟩ (Mt.wk (rl := [0, 1, 2]) ⟨by kernel_rfl, ?_, ?_⟩) ?_
      · refine sxq ?_
        try with_reducible exact trivial
        try trivial
      · refine sxq ?_
        try with_reducible exact trivial
      rintro z ⟨z1, z2, z3⟩
      have l1 := lN_lt z
      have hz := half_pu z
      simp only [push_cast, ↓branch_true, ↓branch_false, Nat.reduceBEq, Nat.reduceAdd, Nat.reduceMul, Nat.reduceSub, Int.reduceToNat, reduceCtorEq, Int.reduceAdd, Int.reduceEq, Int.reduceLE, Int.reduceLT, Nat.reduceLT, Nat.reduceLeDiff, u64_and1 l1, l_par]
      refine ⟨fun hz2 => ?_, fun hz2 => ?_⟩
      · refine sp_c hz rfl [] ?_
        have hgh : Nat.gcd (z / 2) v = g := by rw [← z2]; exact gcd_half (by omega) (by rw [z2]; exact hgo)
        have hzp : 0 < z / 2 := by omega
        have hzl : z / 2 < z := by omega
        generalize z / 2 = z' at *
        refine sxq ?_
        try with_reducible exact trivial
        refine lpK_normal z' [0, 1, 2] ⟨hzp, hgh, by omega⟩ hzl (by kernel_rfl) ?_ ?_
        · refine sxq ?_
          try with_reducible exact trivial
          try trivial
        · refine sxq ?_
          try with_reducible exact trivial
      refine tr_loop mixed (by kernel_rfl) (fun (_ : Nat) => [(5, .v (.int .i64 k)), (2, .p 0 0 0), (3, .p 1 0 0), (4, .p 2 0 0)]) (fun w => [oZ z, oZ w, oZ 0]) (fun w => 0 < w ∧ Nat.gcd z w = g ∧ w ≤ v) (fun w => w) v ⟨i1, z2, Nat.le_refl _⟩ (Mt.wk (rl := [0, 1, 2]) ⟨by kernel_rfl, ?_, ?_⟩) ?_
      · refine sxq ?_
        try with_reducible exact trivial
        try trivial
      · refine sxq ?_
        try with_reducible exact trivial
      rintro w ⟨w1, w2, w3⟩
      have l2 := lN_lt w
      have hw := half_pu w
      simp only [push_cast, ↓branch_true, ↓branch_false, Nat.reduceBEq, Nat.reduceAdd, Nat.reduceMul, Nat.reduceSub, Int.reduceToNat, reduceCtorEq, Int.reduceAdd, Int.reduceEq, Int.reduceLE, Int.reduceLT, Nat.reduceLT, Nat.reduceLeDiff, u64_and1 l2, l_par]
      refine ⟨fun hw2 => ?_, fun hw2 => ?_⟩
      · refine sp_c hw rfl [] ?_
        have hgh : Nat.gcd z (w / 2) = g := by rw [← w2, Nat.gcd_comm z, Nat.gcd_comm z]; exact gcd_half (by omega) (by rw [Nat.gcd_comm, w2]; exact hgo)
        have hzp : 0 < w / 2 := by omega
        have hzl : w / 2 < w := by omega
        generalize w / 2 = w' at *
        refine sxq ?_
        try with_reducible exact trivial
        refine lpK_normal w' [0, 1, 2] ⟨hzp, hgh, by omega⟩ hzl (by kernel_rfl) ?_ ?_
        · refine sxq ?_
          try with_reducible exact trivial
          try trivial
        · refine sxq ?_
          try with_reducible exact trivial
      have hle := rless_pu z w
      refine sp_c hle rfl [] ?_
      refine sxq ?_
      try with_reducible exact trivial
      refine ⟨fun hzw => ?_, fun hzw => ?_⟩
      · have hmi := rminus_pu w z (by omega) (by omega)
        refine sp_c hmi rfl [] ?_
        refine sxq ?_
        try with_reducible exact trivial
        refine lpK_normal (w - z, z) [0, 1, 2] ⟨z1, by rw [← w2, Nat.gcd_comm z w]; exact gcd_take (by omega), by simp only; omega, by simp only; omega⟩ (by simp only; omega) (by kernel_rfl) ?_ ?_
        · refine sxq ?_
          try with_reducible exact trivial
          try trivial
        · refine sxq ?_
          try with_reducible exact trivial
      · have hmi := rminus_pu z w (by omega) (by omega)
        refine sp_c hmi rfl [] ?_
        refine sxq ?_
        try with_reducible exact trivial
        refine lpK_normal (z - w, w) [0, 1, 2] ⟨w1, by rw [← w2]; exact gcd_take (by omega), by simp only; omega, by simp only; omega⟩ (by simp only; omega) (by kernel_rfl) ?_ ?_
        · refine sxq ?_
          try with_reducible exact trivial
          try trivial
        · refine sxq ?_
          try with_reducible exact trivial
theorem u64_top (x : Nat) : (x : Int).fdiv (2 ^ min 63 IntKind.u64.bits) = ((x / 9223372036854775808 : Nat) : Int) := u64_shr (by decide)
theorem u64_dbl (x : Nat) : IntKind.u64.wrap ((x : Int) * 2 ^ min 1 IntKind.u64.bits) = ((x * 2 % 18446744073709551616 : Nat) : Int) := u64_shlm (by decide)
/-- Twice a number of 128 bits, and a bit. -/
def dblW (x c : Nat) : Nat := (2 * x + c) % 340282366920938463463374607431768211456
theorem dbl_words {x c : Nat} (hx : x < 340282366920938463463374607431768211456) (hc : c ≤ 1) :
    IntKind.u64.wrap (((hN x * 2 % 18446744073709551616 : Nat) : Int) + ((lN x / 9223372036854775808 : Nat) : Int)) = (hN (dblW x c) : Nat) ∧ IntKind.u64.wrap (((lN x * 2 % 18446744073709551616 : Nat) : Int) + (c : Int)) = (lN (dblW x c) : Nat) := by
  rw [IntKind.wrap_u64, IntKind.wrap_u64]
  unfold dblW hN lN
  constructor <;> omega
theorem dbl_low {x : Nat} : lN x * 2 % 18446744073709551616 = lN (dblW x 0) := by
  unfold dblW lN
  omega
theorem dbl_inc {x : Nat} : IntKind.u64.wrap ((lN (dblW x 0) : Int) + 1) = (lN (dblW x 0 + 1) : Nat) ∧ hN (dblW x 0) = hN (dblW x 0 + 1) := by
  rw [IntKind.wrap_u64]
  unfold dblW hN lN
  constructor <;> omega
/-- The parts of a long division after i of 128 steps. -/
def dC (a i : Nat) : Nat := a % 2 ^ (128 - i) * 2 ^ i
def dQ (a b i : Nat) : Nat := a / 2 ^ (128 - i) / b
def dM (a b i : Nat) : Nat := a / 2 ^ (128 - i) % b
theorem div_step {a b i : Nat} (hi : i < 128) (ha : a < 340282366920938463463374607431768211456) (hb : b < 170141183460469231731687303715884105728) (hb0 : 0 < b) :
    dC a i < 340282366920938463463374607431768211456 ∧ dQ a b i < 170141183460469231731687303715884105728 ∧ dM a b i < b ∧ hN (dC a i) / 9223372036854775808 ≤ 1 ∧ dC a (i + 1) = dblW (dC a i) 0 ∧
    (dblW (dM a b i) (hN (dC a i) / 9223372036854775808) < b → dM a b (i + 1) = dblW (dM a b i) (hN (dC a i) / 9223372036854775808) ∧ dQ a b (i + 1) = dblW (dQ a b i) 0) ∧
    (¬ dblW (dM a b i) (hN (dC a i) / 9223372036854775808) < b → dM a b (i + 1) = dblW (dM a b i) (hN (dC a i) / 9223372036854775808) - b ∧ dQ a b (i + 1) = dblW (dQ a b i) 0 + 1) := by
  obtain ⟨W, hW⟩ : ∃ W, W = 2 ^ (127 - i) := ⟨_, rfl⟩
  obtain ⟨P, hP⟩ : ∃ P, P = 2 ^ i := ⟨_, rfl⟩
  have hW0 : 0 < W := by rw [hW]; exact Nat.two_pow_pos _
  have hP0 : 0 < P := by rw [hP]; exact Nat.two_pow_pos _
  have e1 : 2 ^ (128 - i) = 2 * W := by rw [hW, show 128 - i = 127 - i + 1 by omega, Nat.pow_succ, Nat.mul_comm]
  have e2 : 2 ^ (128 - (i + 1)) = W := by rw [hW, show 128 - (i + 1) = 127 - i by omega]
  have e3 : 2 ^ (i + 1) = 2 * P := by rw [hP, Nat.pow_succ, Nat.mul_comm]
  have e4 : W * P = 170141183460469231731687303715884105728 := by rw [hW, hP, ← Nat.pow_add, show 127 - i + i = 127 by omega]
  unfold dC dQ dM
  rw [e1, e2, e3, ← hP]
  clear e1 e2 e3 hW hP
  have hT : a / (2 * W) = a / W / 2 := by rw [Nat.mul_comm, Nat.div_div_eq_div_mul]
  have hc : a % (2 * W) = a / W % 2 * W + a % W := by
    have h1 := Nat.div_add_mod a (2 * W)
    have h2 := Nat.div_add_mod a W
    rw [hT, Nat.mul_assoc, Nat.mul_left_comm] at h1
    have h3 : W * (a / W) = W * (2 * (a / W / 2)) + W * (a / W % 2) := by rw [← Nat.mul_add, Nat.div_add_mod]
    rw [Nat.mul_comm (a / W % 2) W]
    omega
  have hcw : a % W < W := Nat.mod_lt _ hW0
  have hbit : a / W % 2 ≤ 1 := by omega
  have hal : a / W / 2 < 170141183460469231731687303715884105728 := by
    have := Nat.div_le_self a W
    omega
  rw [hT, hc]
  have hcP : a % W * P < W * P := Nat.mul_lt_mul_of_pos_right hcw hP0
  rw [Nat.add_mul, Nat.mul_assoc, e4, show a % W * (2 * P) = 2 * (a % W * P) by rw [Nat.mul_left_comm]]
  rw [e4] at hcP
  clear hc hT hcw e4
  generalize a % W * P = z at *
  have hbz : hN (a / W % 2 * 170141183460469231731687303715884105728 + z) / 9223372036854775808 = a / W % 2 := by unfold hN; omega
  rw [hbz]
  have hd : a / W = 2 * (a / W / 2) + a / W % 2 := by omega
  generalize a / W % 2 = bit at *
  generalize a / W / 2 = T at *
  rw [hd]
  clear hd hbz
  have hTd := Nat.div_add_mod T b
  have hMb := Nat.mod_lt T hb0
  have hQT : T / b ≤ T := Nat.div_le_self _ _
  have hS : (2 * T + bit) = b * (2 * (T / b)) + (2 * (T % b) + bit) := by rw [Nat.mul_left_comm]; omega
  rw [hS, Nat.mul_add_div hb0, Nat.mul_add_mod]
  clear hS
  generalize T / b = q at *
  generalize T % b = r at *
  have hdr : dblW r bit = 2 * r + bit := by unfold dblW; omega
  have hdq : dblW q 0 = 2 * q := by unfold dblW; omega
  have hdc : 2 * z = dblW (bit * 170141183460469231731687303715884105728 + z) 0 := by unfold dblW; omega
  rw [hdr, hdq]
  refine ⟨by omega, by omega, hMb, hbit, hdc, fun h => ?_, fun h => ?_⟩
  · rw [Nat.div_eq_of_lt h, Nat.mod_eq_of_lt h]
    exact ⟨rfl, rfl⟩
  · have h1 : (2 * r + bit) / b = 1 := Nat.div_eq_of_lt_le (by omega) (by omega)
    have h2 := Nat.div_add_mod (2 * r + bit) b
    rw [h1] at h2 ⊢
    exact ⟨by omega, rfl⟩
set_option maxHeartbeats 8000000 in
theorem rdiv_pu (a b : Nat) (ha : a < 340282366920938463463374607431768211456) (hb : b < 170141183460469231731687303715884105728) (hb0 : 0 < b) : Pu Tryz.prog 99 [wV a, wV b] [] (.t [wV (a / b), wV (a % b)]) := by
  refine pu_of_ex false [(2, .one 0 (.one 2 (.one 6 (.one 8 (.alt [(1, .alt [(3, .one 4 (.one 5 (.alt [(7, .alt [(9, .one 10 (.one 11 (.one 12 (.one 13 .fin)))), (12, .one 9 (.one 10 (.one 11 (.one 13 .fin))))]), (9, .alt [(7, .one 10 (.one 11 (.one 12 (.one 13 .fin)))), (12, .one 7 (.one 10 (.one 11 (.one 13 .fin))))]), (12, .alt [(7, .one 9 (.one 10 (.one 11 (.one 13 .fin)))), (9, .one 7 (.one 10 (.one 11 (.one 13 .fin))))])]))), (7, .alt [(3, .one 4 (.one 5 (.alt [(9, .one 10 (.one 11 (.one 12 (.one 13 .fin)))), (12, .one 9 (.one 10 (.one 11 (.one 13 .fin))))]))), (9, .one 10 (.one 11 (.one 3 (.one 4 (.one 5 (.one 12 (.one 13 .fin)))))))]), (9, .alt [(3, .one 4 (.one 5 (.alt [(7, .one 10 (.one 11 (.one 12 (.one 13 .fin)))), (12, .one 7 (.one 10 (.one 11 (.one 13 .fin))))]))), (7, .one 10 (.one 11 (.one 3 (.one 4 (.one 5 (.one 12 (.one 13 .fin)))))))])]), (3, .alt [(1, .one 4 (.one 5 (.alt [(7, .alt [(9, .one 10 (.one 11 (.one 12 (.one 13 .fin)))), (12, .one 9 (.one 10 (.one 11 (.one 13 .fin))))]), (9, .alt [(7, .one 10 (.one 11 (.one 12 (.one 13 .fin)))), (12, .one 7 (.one 10 (.one 11 (.one 13 .fin))))]), (12, .alt [(7, .one 9 (.one 10 (.one 11 (.one 13 .fin)))), (9, .one 7 (.one 10 (.one 11 (.one 13 .fin))))])]))), (7, .alt [(1, .one 4 (.one 5 (.alt [(9, .one 10 (.one 11 (.one 12 (.one 13 .fin)))), (12, .one 9 (.one 10 (.one 11 (.one 13 .fin))))]))), (9, .one 10 (.one 11 (.one 1 (.one 4 (.one 5 (.one 12 (.one 13 .fin)))))))]), (9, .alt [(1, .one 4 (.one 5 (.alt [(7, .one 10 (.one 11 (.one 12 (.one 13 .fin)))), (12, .one 7 (.one 10 (.one 11 (.one 13 .fin))))]))), (7, .one 10 (.one 11 (.one 1 (.one 4 (.one 5 (.one 12 (.one 13 .fin)))))))])]), (7, .alt [(1, .alt [(3, .one 4 (.one 5 (.alt [(9, .one 10 (.one 11 (.one 12 (.one 13 .fin)))), (12, .one 9 (.one 10 (.one 11 (.one 13 .fin))))]))), (9, .one 10 (.one 11 (.one 3 (.one 4 (.one 5 (.one 12 (.one 13 .fin)))))))]), (3, .alt [(1, .one 4 (.one 5 (.alt [(9, .one 10 (.one 11 (.one 12 (.one 13 .fin)))), (12, .one 9 (.one 10 (.one 11 (.one 13 .fin))))]))), (9, .one 10 (.one 11 (.one 1 (.one 4 (.one 5 (.one 12 (.one 13 .fin)))))))]), (9, .one 10 (.one 11 (.alt [(1, .one 3 (.one 4 (.one 5 (.one 12 (.one 13 .fin))))), (3, .one 1 (.one 4 (.one 5 (.one 12 (.one 13 .fin)))))])))]), (9, .alt [(1, .alt [(3, .one 4 (.one 5 (.alt [(7, .one 10 (.one 11 (.one 12 (.one 13 .fin)))), (12, .one 7 (.one 10 (.one 11 (.one 13 .fin))))]))), (7, .one 10 (.one 11 (.one 3 (.one 4 (.one 5 (.one 12 (.one 13 .fin)))))))]), (3, .alt [(1, .one 4 (.one 5 (.alt [(7, .one 10 (.one 11 (.one 12 (.one 13 .fin)))), (12, .one 7 (.one 10 (.one 11 (.one 13 .fin))))]))), (7, .one 10 (.one 11 (.one 1 (.one 4 (.one 5 (.one 12 (.one 13 .fin)))))))]), (7, .one 10 (.one 11 (.alt [(1, .one 3 (.one 4 (.one 5 (.one 12 (.one 13 .fin))))), (3, .one 1 (.one 4 (.one 5 (.one 12 (.one 13 .fin)))))])))])]))))), (14, .alt [(0, .alt [(1, .one 2 (.one 3 .fin)), (2, .one 1 (.one 3 .fin))]), (1, .one 0 (.one 2 (.one 3 .fin)))])] mixed Tryz.call99 Tryz.func99 rfl Tryz.ntmps99 Tryz.results99 (by decide +kernel) rfl rfl rfl ?_
  refine sxq ?_
  try with_reducible exact trivial
  have la := lN_lt a
  have fast : (hN a : Int) = 0 → (hN b : Int) = 0 → SV.t [SV.a [SV.v (.int .u64 0), SV.v (.int .u64 (IntKind.u64.wrap ((lN a : Int).tdiv (lN b : Int))))], SV.a [SV.v (.int .u64 0), SV.v (.int .u64 ((lN a : Int).tmod (lN b : Int)))]] = SV.t [SV.a [SV.v (.int .u64 (hN (a / b) : Nat)), SV.v (.int .u64 (lN (a / b) : Nat))], SV.a [SV.v (.int .u64 (hN (a % b) : Nat)), SV.v (.int .u64 (lN (a % b) : Nat))]] := fun q1 q2 => by
    have ea := hl a
    have eb := hl b
    rw [u64_div la, ← Int.ofNat_tmod, show lN a = a by omega, show lN b = b by omega]
    have k1 : a / b < 18446744073709551616 := Nat.lt_of_le_of_lt (Nat.div_le_self _ _) (by omega)
    have k2 : a % b < 18446744073709551616 := Nat.lt_of_le_of_lt (Nat.mod_le _ _) (by omega)
    generalize a / b = A at *
    generalize a % b = B at *
    rw [show hN A = 0 by unfold hN; omega, show lN A = A by unfold lN; omega, show hN B = 0 by unfold hN; omega, show lN B = B by unfold lN; omega]
    rfl
  refine ⟨fun h1 => ⟨fun h2 => ?_, fun h2 => ?_⟩, fun h1 => ?_⟩
  · have hb1 := hl b
    have hlb : ¬ (lN b : Int) = 0 := by omega
    have hf := fast h1 h2
    repeat' (first
      | (with_reducible apply And.intro)
      | exact hlb
      | exact hf)
  all_goals
    clear fast la
    refine tr_loop mixed (by kernel_rfl) (fun (i : Nat) => [(8, .v (.int .i64 i)), (2, .p 0 0 0), (3, .p 1 0 0), (4, .p 2 0 0), (5, .p 3 0 0), (6, .p 4 0 0), (7, .p 5 0 0)]) (fun i => [oZ (dC a i), ⟨112, true, .st [.v (.int .u64 (hN b : Nat)), .v (.int .u64 (lN b : Nat))]⟩, oZ 0, oZ 0, oZ (dQ a b i), oZ (dM a b i)]) (fun i => i ≤ 128) (fun i => 128 - i) 0 (by decide) (Mt.wk (rl := [0, 1, 2, 3, 4, 5]) ⟨by kernel_rfl, ?_, ?_⟩) ?_
    · refine sxq ?_
      try with_reducible exact trivial
      try trivial
    · have z0 : (((hN 0 : Nat) : Int) = 0) ∧ ((lN 0 : Nat) : Int) = 0 := ⟨rfl, rfl⟩
      have z1 : dC a 0 = a := by unfold dC; rw [Nat.pow_zero, Nat.mul_one, Nat.sub_zero, Nat.mod_eq_of_lt (by omega)]
      have z2 : dQ a b 0 = 0 := by unfold dQ; rw [Nat.sub_zero, Nat.div_eq_of_lt (by omega)]; try exact Nat.zero_div _
      have z3 : dM a b 0 = 0 := by unfold dM; rw [Nat.sub_zero, Nat.div_eq_of_lt (by omega)]; try exact Nat.zero_mod _
      simp only [push_cast, ↓branch_true, ↓branch_false, Nat.reduceBEq, Nat.reduceAdd, Nat.reduceMul, Nat.reduceSub, Int.reduceToNat, reduceCtorEq, Int.reduceAdd, Int.reduceEq, Int.reduceLE, Int.reduceLT, Nat.reduceLT, Nat.reduceLeDiff, z1, z2, z3, z0.1, z0.2]
    intro i hi
    by_cases hi2 : i < 128
    · obtain ⟨s1, s2, s3, s4, s5, s6, s7⟩ := div_step hi2 ha hb hb0
      obtain ⟨c1, c2⟩ := dbl_words (x := dC a i) (c := 0) s1 (by decide)
      obtain ⟨q1, q2⟩ := dbl_words (x := dQ a b i) (c := 0) (by omega) (by decide)
      obtain ⟨m1, m2⟩ := dbl_words (x := dM a b i) (c := hN (dC a i) / 9223372036854775808) (by omega) s4
      have hX : dblW (dM a b i) (hN (dC a i) / 9223372036854775808) < 340282366920938463463374607431768211456 := Nat.mod_lt _ (by decide)
      rw [← u64_dbl, ← u64_top] at c1 q1 m1
      rw [← u64_dbl, ← u64_top] at m2
      have cl := u64_dbl (lN (dC a i))
      have ql := u64_dbl (lN (dQ a b i))
      rw [dbl_low] at cl ql
      have hmt : (((hN (dM a b i) : Nat) : Int)).fdiv (2 ^ min 63 IntKind.u64.bits) = 0 := by
        rw [u64_top]
        have : hN (dM a b i) / 9223372036854775808 = 0 := by unfold hN; omega
        rw [this]
        rfl
      obtain ⟨n1, n2⟩ := dbl_inc (x := dQ a b i)
      generalize dblW (dM a b i) (hN (dC a i) / 9223372036854775808) = X at *
      generalize dC a i = c at *
      generalize dM a b i = m at *
      generalize dQ a b i = q at *
      have hI : IntKind.i64.wrap ((i : Int) + 1) = ((i + 1 : Nat) : Int) := by rw [IntKind.wrap_i64]; omega
      have h128 : ((i : Int) < 128) := by omega
      have hle := rless_pu X b
      simp only [push_cast, ↓branch_true, ↓branch_false, Nat.reduceBEq, Nat.reduceAdd, Nat.reduceMul, Nat.reduceSub, Int.reduceToNat, reduceCtorEq, Int.reduceAdd, Int.reduceEq, Int.reduceLE, Int.reduceLT, Nat.reduceLT, Nat.reduceLeDiff, c1, q1, m1, m2, cl, ql, hmt, h128]
      refine sp_c hle rfl [] ?_
      refine sxq ?_
      try with_reducible exact trivial
      refine ⟨fun hxb => ?_, fun hxb => ?_⟩
      · obtain ⟨f1, f2⟩ := s6 hxb
        rw [hI]
        refine lpK_normal (i + 1) [0, 1, 2, 3, 4, 5] (by omega) (by omega) (by kernel_rfl) ?_ ?_
        · refine sxq ?_
          try with_reducible exact trivial
          try trivial
        · simp only [push_cast, ↓branch_true, ↓branch_false, Nat.reduceBEq, Nat.reduceAdd, Nat.reduceMul, Nat.reduceSub, Int.reduceToNat, reduceCtorEq, Int.reduceAdd, Int.reduceEq, Int.reduceLE, Int.reduceLT, Nat.reduceLT, Nat.reduceLeDiff, s5, f1, f2]
      · obtain ⟨f1, f2⟩ := s7 hxb
        have hmi := rminus_pu X b (by omega) hX
        refine sp_c hmi rfl [] ?_
        simp only [push_cast, ↓branch_true, ↓branch_false, Nat.reduceBEq, Nat.reduceAdd, Nat.reduceMul, Nat.reduceSub, Int.reduceToNat, reduceCtorEq, Int.reduceAdd, Int.reduceEq, Int.reduceLE, Int.reduceLT, Nat.reduceLT, Nat.reduceLeDiff, n1]
        rw [hI]
        refine lpK_normal (i + 1) [0, 1, 2, 3, 4, 5] (by omega) (by omega) (by kernel_rfl) ?_ ?_
        · refine sxq ?_
          try with_reducible exact trivial
          try trivial
        · simp only [push_cast, ↓branch_true, ↓branch_false, Nat.reduceBEq, Nat.reduceAdd, Nat.reduceMul, Nat.reduceSub, Int.reduceToNat, reduceCtorEq, Int.reduceAdd, Int.reduceEq, Int.reduceLE, Int.reduceLT, Nat.reduceLT, Nat.reduceLeDiff, s5, f1, f2, ← n2]
    · obtain rfl : i = 128 := by omega
      have z2 : dQ a b 128 = a / b := by unfold dQ; rw [Nat.sub_self, Nat.pow_zero, Nat.div_one]
      have z3 : dM a b 128 = a % b := by unfold dM; rw [Nat.sub_self, Nat.pow_zero, Nat.div_one]
      refine sxq ?_
      try with_reducible exact trivial
      rw [z2, z3]
      exact ⟨⟨rfl, rfl⟩, rfl⟩
end Go.Proofs.YtdeaaonppokgkaaGreat
