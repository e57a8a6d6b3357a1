/- Contracts: bits.Mul, slices.Repeat. -/
import Derived.Test.YtdeaaonppokgkaaGreatGF
set_option maxRecDepth 100000
set_option linter.unusedSimpArgs false
set_option linter.unusedVariables false
-- 
namespace Go.Proofs.YtdeaaonppokgkaaGreat.Pat
open Go.RowKit
theorem and32 {y : Int} (h0 : 0 ≤ y) (h1 : y ≤ 4294967295) : (BitVec.ofInt 64 y &&& BitVec.ofInt 64 4294967295).toNat = y.toNat := by
  obtain ⟨n, rfl⟩ : ∃ n : Nat, y = n := ⟨y.toNat, by omega⟩
  rw [BitVec.toNat_and]
  simp only [BitVec.toNat_ofInt]
  have e1 : ((n : Int) % ((2 ^ 64 : Nat) : Int)).toNat = n := by omega
  have e2 : ((4294967295 : Int) % ((2 ^ 64 : Nat) : Int)).toNat = 2 ^ 32 - 1 := by decide
  rw [e1, e2, Nat.and_two_pow_sub_one_eq_mod, Nat.mod_eq_of_lt (by omega)]
  rfl
set_option maxHeartbeats 1000000 in
theorem mul64_pu (y : Int) (h0 : 0 ≤ y) (h1 : y ≤ 4294967295) : Pu Tryz.prog 83 [.v (.int .u64 1), .v (.int .u64 y)] [] (.t [.v (.int .u64 0), .v (.int .u64 y)]) := by
  have hb : IntKind.u64.bits = 64 := rfl
  have hw : ∀ z : Int, 0 ≤ z → z ≤ 4294967295 → IntKind.u64.wrap z = z := fun z z0 z1 => by
    refine wrap_inr ?_
    exact ⟨z0, by omega⟩
  have e1 : IntKind.u64.wrap ((BitVec.ofInt IntKind.u64.bits 1 &&& BitVec.ofInt IntKind.u64.bits 4294967295).toNat : Int) = 1 := by decide +kernel
  have e2 : ∀ z : Int, 0 ≤ z → z ≤ 4294967295 → IntKind.u64.wrap ((BitVec.ofInt IntKind.u64.bits z &&& BitVec.ofInt IntKind.u64.bits 4294967295).toNat : Int) = z := fun z z0 z1 => by
    rw [hb, and32 z0 z1, Int.toNat_of_nonneg z0, hw z z0 z1]
  have e3 : Int.fdiv 1 (2 ^ min 32 IntKind.u64.bits) = 0 := by decide +kernel
  have e4 : y.fdiv (2 ^ min 32 IntKind.u64.bits) = 0 := by
    rw [hb]
    show y.fdiv 4294967296 = 0
    rw [Int.fdiv_eq_ediv_of_nonneg _ (by decide)]
    omega
  have e5 : Int.fdiv 0 (2 ^ min 32 IntKind.u64.bits) = 0 := by decide +kernel
  refine pu_of_ex true [] mixed Tryz.call83 Tryz.func83 rfl Tryz.ntmps83 Tryz.results83 (by decide +kernel) rfl rfl rfl ?_
  refine sxo ?_
  try with_reducible exact trivial
  simp only [e1, e2 y h0 h1, e3, e4, e5, Int.one_mul, Int.zero_mul, Int.zero_add, Int.add_zero, Int.mul_zero, e2 0 (by decide) (by decide)]
  repeat' (first | apply And.intro | trivial | omega)
theorem mul_pu (y : Int) (h0 : 0 ≤ y) (h1 : y ≤ 4294967295) : Pu Tryz.prog 52 [.v (.int .u64 1), .v (.int .u64 y)] [] (.t [.v (.int .u64 0), .v (.int .u64 y)]) := by
  refine pu_of_ex true [] mixed Tryz.call52 Tryz.func52 rfl Tryz.ntmps52 Tryz.results52 (by decide +kernel) rfl rfl rfl ?_
  refine sxo ?_
  try with_reducible exact trivial
  refine sp_call (mul64_pu y h0 h1) rfl [] rfl (by simp only [push_cast, ↓branch_true, ↓branch_false, Nat.reduceBEq, Nat.reduceAdd, Nat.reduceMul, Nat.reduceSub, Int.reduceToNat, reduceCtorEq, branch_decide, branch_not, branch_beq, branch_bne]) (by simp only [push_cast, ↓branch_true, ↓branch_false, Nat.reduceBEq, Nat.reduceAdd, Nat.reduceMul, Nat.reduceSub, Int.reduceToNat, reduceCtorEq, branch_decide, branch_not, branch_beq, branch_bne]) ?_
  refine sxo ?_
  try with_reducible exact trivial
theorem src_ints (f : Nat → Int) (n : Nat) : srcOk (fun k => [.v (.int .i64 (f k))]) 1 n := by
  unfold srcOk
  split <;> simp [lenP, lenIs, ones, one1]
def rOne (x : Int) : Ob := ⟨3, true, .row 1 1 (fun _ => 1) (fun _ => 0) (fun _ _ => [.v (.int .i64 x)])⟩
attribute [push_cast] rOne
set_option maxHeartbeats 1000000 in
theorem repeat_sp (x : Int) (n c : Nat) (h1 : 1 ≤ n) (h2 : n ≤ 1000000) : Sp Tryz.prog 21 [.s 0 0 0 1 c 1, .v (.int .i64 n)] [rOne x] (fun r H => ∃ cap, n ≤ cap ∧ r = .s 1 0 0 n cap 1 ∧ H = [rOne x, rOwn 3 n cap (fun _ => x)]) := by
  refine sp_weak ?_
  refine sp_of_ex true [(9, .one 0 (.one 1 (.one 2 (.one 3 (.one 4 (.one 5 (.one 6 (.one 7 (.one 8 (.one 9 .fin))))))))))] mixed Tryz.call21 Tryz.func21 rfl Tryz.ntmps21 Tryz.results21 (by decide +kernel) rfl ?_
  refine sxo ?_
  try with_reducible exact trivial
  refine ⟨fun h => by omega, fun _ => ?_⟩
  repeat (with_reducible refine And.intro (by omega) ?_)
  refine sp_call (mul_pu n (by omega) (by omega)) rfl [] rfl ?_ ?_ ?_
  · simp only [push_cast, ↓branch_true, ↓branch_false, Nat.reduceBEq, Nat.reduceAdd, Nat.reduceMul, Nat.reduceSub, Int.reduceToNat, reduceCtorEq, branch_decide, branch_not, branch_beq, branch_bne, Int.zero_add]
  · refine sxo ?_
    try with_reducible exact trivial
  refine sxo ?_
  try with_reducible exact trivial
  refine ⟨fun h => absurd h (by decide), fun _ => ⟨fun h => by omega, fun _ => ?_⟩⟩
  repeat (with_reducible refine And.intro (by omega) ?_)
  refine ⟨src_ints (fun _ => x) _, ?_⟩
  rw [show min 1 n = 1 by omega]
  refine tr_loop mixed (by kernel_rfl) (fun (y : Nat × (Nat → Int)) => [(8, .v (.int .i64 y.1)), (7, .s 1 0 0 n n 1)])
    (fun y => [rOne x, rOwn 3 n n y.2]) (fun y => 1 ≤ y.1 ∧ y.1 ≤ n ∧ ∀ q, q < y.1 → y.2 q = x) (fun y => n - y.1) (1, fun q => bif decide (q < 1) then x else 0) ⟨Nat.le_refl _, h1, fun q hq => by simp [show q = 0 by omega]⟩ (Mt.wk (rl := [0, 1]) ⟨by kernel_rfl, ?_, ?_⟩) ?_
  · refine sxo ?_
    try with_reducible exact trivial
  · refine sxo ?_
    try with_reducible exact trivial
    intro i hi q hq
    obtain rfl : i = 0 := by omega
    simp [mtL]
  rintro ⟨k, f⟩ ⟨g1, g2, g3⟩
  simp only at g1 g2 g3
  refine sxo ?_
  try with_reducible exact trivial
  refine ⟨fun h3 => ?_, fun h3 => ?_⟩
  · repeat' (with_reducible (first | apply And.intro | intro _))
    all_goals try omega
    · exact src_ints f _
    · obtain ⟨m, hm⟩ : ∃ m, m = min (k - 0) (n - k) := ⟨_, rfl⟩
      rw [← hm]
      refine lpK_normal (k + m, fun q => bif (decide (k ≤ q) && decide (q < k + m)) then f (0 + (q - k)) else f q) [0, 1] ⟨by simp only; omega, by simp only; omega, fun q hq => ?_⟩ (by simp only; omega) (by kernel_rfl) ?_ ?_
      · simp only at hq ⊢
        by_cases e : k ≤ q
        · rw [show (decide (k ≤ q) && decide (q < k + m)) = true by simp; omega]
          exact g3 _ (by omega)
        · rw [show (decide (k ≤ q) && decide (q < k + m)) = false by simp; omega]
          exact g3 q (by omega)
      · refine sxo ?_
        try with_reducible exact trivial
      · refine sxo ?_
        try with_reducible exact trivial
        intro i hi q hq
        obtain rfl : i = 0 := by omega
        exact ⟨rfl, by cases (0 == 0 && (decide (k ≤ q) && decide (q < k + m))) <;> simp [mrgL, mtL]⟩
  · obtain rfl : k = n := by omega
    refine ⟨_, _, [0, 1], ?_, by kernel_rfl, ?_, k, Nat.le_refl _, rfl, rfl⟩
    · refine sxo ?_
      try with_reducible exact trivial
    · refine sxo ?_
      try with_reducible exact trivial
      intro i hi q hq
      rw [g3 q hq]
end Go.Proofs.YtdeaaonppokgkaaGreat.Pat
