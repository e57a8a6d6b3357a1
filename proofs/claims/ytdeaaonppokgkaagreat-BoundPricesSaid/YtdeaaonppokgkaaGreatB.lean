/- Plain: digits of a quotient; contract: Div64. -/
import Derived.Test.YtdeaaonppokgkaaGreatA
import Derived.Lib.ItoaNum
set_option maxRecDepth 100000
set_option linter.unusedSimpArgs false
set_option linter.unusedVariables false
namespace Go.Proofs.YtdeaaonppokgkaaGreat
open Go.RowKit
theorem dig_lt {B a b u d : Nat} (h : u < a * B + b) (hd : d < B) : (u * B + d) / (a * B + b) < B := by
  rw [Nat.div_lt_iff_lt_mul (by omega)]
  have : (u + 1) * B ≤ (a * B + b) * B := Nat.mul_le_mul_right _ h
  rw [Nat.mul_comm B _]
  rw [Nat.succ_mul] at this
  omega
theorem dig_le {B a b u d : Nat} (ha : 0 < a) (hd : d < B) : (u * B + d) / (a * B + b) ≤ u / a := by
  rw [Nat.le_div_iff_mul_le ha]
  have h := Nat.div_mul_le_self (u * B + d) (a * B + b)
  generalize (u * B + d) / (a * B + b) = q at *
  rw [Nat.mul_add, ← Nat.mul_assoc] at h
  have h2 : q * a * B < (u + 1) * B := by rw [Nat.succ_mul]; omega
  exact Nat.le_of_lt_succ (Nat.lt_of_mul_lt_mul_right h2)
/-- A digit that is too great. -/
theorem dig_step {B a b u d q r : Nat} (h : u < a * B + b) (hd : d < B) (hq : q * a + r = u) (hs : (u * B + d) / (a * B + b) ≤ q) (hc : B ≤ q ∨ B * r + d < q * b) :
    0 < q ∧ (u * B + d) / (a * B + b) ≤ q - 1 ∧ (q - 1) * a + (r + a) = u := by
  have h0 := dig_lt h hd
  have h1 := Nat.div_mul_le_self (u * B + d) (a * B + b)
  generalize (u * B + d) / (a * B + b) = qs at *
  have hlt : qs < q := by
    rcases hc with hc | hc
    · omega
    · refine Nat.lt_of_le_of_ne hs fun e => ?_
      rw [e] at h1
      rw [Nat.mul_add, ← Nat.mul_assoc] at h1
      subst hq
      rw [Nat.add_mul, Nat.mul_comm r B] at h1
      generalize q * a * B = z at *
      generalize q * b = t at *
      generalize B * r = s at *
      omega
  obtain ⟨p, rfl⟩ : ∃ p, q = p + 1 := ⟨q - 1, by omega⟩
  refine ⟨by omega, by omega, ?_⟩
  rw [Nat.add_sub_cancel]
  rw [Nat.succ_mul] at hq
  omega
/-- A digit that is right. -/
theorem dig_end {B a b u d q r : Nat} (hb : b < B) (h : u < a * B + b) (hd : d < B) (hq : q * a + r = u) (hs : (u * B + d) / (a * B + b) ≤ q) (hc : (q < B ∧ q * b ≤ B * r + d) ∨ B ≤ r) :
    q = (u * B + d) / (a * B + b) := by
  refine Nat.le_antisymm ?_ hs
  have hy : 0 < a * B + b := by omega
  rw [Nat.le_div_iff_mul_le hy, Nat.mul_add, ← Nat.mul_assoc]
  have hb2 : q * b ≤ B * r + d := by
    rcases hc with hc | hc
    · exact hc.2
    · have hqB : q ≤ B := by
        refine Nat.le_of_not_lt fun hge => ?_
        have := Nat.mul_le_mul_right a hge
        rw [Nat.succ_mul, Nat.mul_comm B a] at this
        generalize a * B = z at *
        omega
      have h1 : q * b ≤ B * B := Nat.mul_le_mul hqB (Nat.le_of_lt hb)
      have h2 : B * B ≤ B * r := Nat.mul_le_mul_left _ hc
      omega
  subst hq
  rw [Nat.add_mul, Nat.mul_comm r B]
  generalize q * a * B = z at *
  generalize q * b = t at *
  generalize B * r = s at *
  omega

/-- A number of two words. -/
def wd (hi lo : Nat) : Nat := hi * 18446744073709551616 + lo
def qN (hi lo y : Nat) : Nat := wd hi lo / y
def rN (hi lo y : Nat) : Nat := wd hi lo % y
theorem u64n {x : Nat} (h : x < 18446744073709551616) : IntKind.u64.wrap (x : Int) = x := by rw [IntKind.wrap_u64]; omega
theorem u64_shl {x n : Nat} (hn : n ≤ 64) (h : x * 2 ^ n < 18446744073709551616) : IntKind.u64.wrap ((x : Int) * 2 ^ min n IntKind.u64.bits) = ((x * 2 ^ n : Nat) : Int) := by
  rw [show min n IntKind.u64.bits = n from Nat.min_eq_left hn, show (x : Int) * 2 ^ n = ((x * 2 ^ n : Nat) : Int) by norm_cast]
  exact u64n h
theorem u64_shlm {x n : Nat} (hn : n ≤ 64) : IntKind.u64.wrap ((x : Int) * 2 ^ min n IntKind.u64.bits) = ((x * 2 ^ n % 18446744073709551616 : Nat) : Int) := by
  rw [show min n IntKind.u64.bits = n from Nat.min_eq_left hn, show (x : Int) * 2 ^ n = ((x * 2 ^ n : Nat) : Int) by norm_cast, IntKind.wrap_u64]
  omega
theorem u64_shr {x n : Nat} (hn : n ≤ 64) : (x : Int).fdiv (2 ^ min n IntKind.u64.bits) = ((x / 2 ^ n : Nat) : Int) := by
  rw [show min n IntKind.u64.bits = n from Nat.min_eq_left hn, Int.fdiv_eq_ediv_of_nonneg _ (by exact Int.pow_nonneg (by decide))]
  norm_cast
theorem u64_or {a b s : Nat} (ha : a * 2 ^ s + b < 18446744073709551616) (hb : b < 2 ^ s) : IntKind.u64.wrap (((BitVec.ofInt IntKind.u64.bits ((a * 2 ^ s : Nat) : Int) ||| BitVec.ofInt IntKind.u64.bits (b : Int)).toNat : Nat) : Int) = ((a * 2 ^ s + b : Nat) : Int) := by
  show IntKind.u64.wrap (((BitVec.ofInt 64 ((a * 2 ^ s : Nat) : Int) ||| BitVec.ofInt 64 (b : Int)).toNat : Nat) : Int) = ((a * 2 ^ s + b : Nat) : Int)
  rw [BitVec.toNat_or, BitVec.ofInt_natCast, BitVec.ofInt_natCast, BitVec.toNat_ofNat, BitVec.toNat_ofNat, Nat.mod_eq_of_lt (by omega), Nat.mod_eq_of_lt (by omega), Nat.mul_comm a, ← Nat.two_pow_add_eq_or_of_lt hb, Nat.mul_comm (2 ^ s)]
  exact u64n ha
theorem u64_mask {x : Nat} (h : x < 18446744073709551616) : IntKind.u64.wrap (((BitVec.ofInt IntKind.u64.bits (x : Int) &&& BitVec.ofInt IntKind.u64.bits 4294967295).toNat : Nat) : Int) = ((x % 4294967296 : Nat) : Int) := by
  show IntKind.u64.wrap (((BitVec.ofInt 64 (x : Int) &&& BitVec.ofInt 64 ((4294967295 : Nat) : Int)).toNat : Nat) : Int) = ((x % 4294967296 : Nat) : Int)
  rw [BitVec.toNat_and, BitVec.ofInt_natCast, BitVec.ofInt_natCast, BitVec.toNat_ofNat, BitVec.toNat_ofNat, Nat.mod_eq_of_lt (by omega), Nat.mod_eq_of_lt (by omega), show x &&& 4294967295 = x % 4294967296 from Nat.and_two_pow_sub_one_eq_mod x 32]
  exact u64n (by omega)
theorem u64_div {x y : Nat} (h : x < 18446744073709551616) : IntKind.u64.wrap ((x : Int).tdiv (y : Int)) = ((x / y : Nat) : Int) := by
  rw [← Int.ofNat_tdiv]
  exact u64n (Nat.lt_of_le_of_lt (Nat.div_le_self _ _) h)
theorem u64_rest {x y : Nat} (h : x < 18446744073709551616) : IntKind.u64.wrap ((x : Int) - IntKind.u64.wrap (((x / y : Nat) : Int) * (y : Int))) = ((x % y : Nat) : Int) := by
  have h1 : x / y * y ≤ x := Nat.div_mul_le_self x y
  have h2 : x % y = x - x / y * y := by have := Nat.div_add_mod' x y; omega
  rw [show ((x / y : Nat) : Int) * (y : Int) = ((x / y * y : Nat) : Int) by norm_cast, u64n (by omega), h2]
  generalize x / y * y = z at *
  rw [show (x : Int) - (z : Int) = ((x - z : Nat) : Int) by omega]
  exact u64n (by omega)
/-- Words that wrap: what is left. -/
theorem u64_left {u d q y R : Nat} (h : u * 4294967296 + d = q * y + R) (hR : R < 18446744073709551616) : IntKind.u64.wrap (IntKind.u64.wrap (IntKind.u64.wrap ((u : Int) * 4294967296) + (d : Int)) - IntKind.u64.wrap ((q : Int) * (y : Int))) = (R : Int) := by
  rw [show (u : Int) * 4294967296 = ((u * 4294967296 : Nat) : Int) by rw [Int.natCast_mul]; rfl, show (q : Int) * (y : Int) = ((q * y : Nat) : Int) from (Int.natCast_mul q y).symm]
  generalize u * 4294967296 = X at *
  generalize q * y = Z at *
  rw [IntKind.wrap_u64, IntKind.wrap_u64, IntKind.wrap_u64, IntKind.wrap_u64]
  omega
theorem wd_shift {hi lo p q W : Nat} (h : p * q = W) (hp : 0 < p) (hq : 0 < q) : (hi * W + lo) * p = (hi * p + lo / q) * W + lo * p % W := by
  have h4 := Nat.div_add_mod' (lo * p) W
  have h5 : lo * p / W = lo / q := by rw [← h, Nat.mul_comm lo, Nat.mul_div_mul_left _ _ hp]
  rw [h5] at h4
  rw [Nat.add_mul, Nat.add_mul, Nat.mul_right_comm hi]
  omega
theorem qb_lt {q b : Nat} (h : q < 4294967296) (hb : b < 4294967296) : q * b < 18446744073709551616 := by
  have h1 : q * b ≤ 4294967295 * 4294967295 := Nat.mul_le_mul (Nat.le_of_lt_succ h) (Nat.le_of_lt_succ hb)
  exact Nat.lt_of_le_of_lt h1 (by decide)
theorem two_digits {W B U v1 v0 Y Q1 R1 Q0 R0 : Nat} (h1 : U * B + v1 = Q1 * Y + R1) (h0 : R1 * B + v0 = Q0 * Y + R0) (hR : R0 < Y) (hW : W = B * B) : (U * W + (v1 * B + v0)) / Y = Q1 * B + Q0 ∧ (U * W + (v1 * B + v0)) % Y = R0 := by
  subst hW
  have e : U * (B * B) + (v1 * B + v0) = Y * (Q1 * B + Q0) + R0 := by
    have e1 : (U * B + v1) * B + v0 = (Q1 * Y + R1) * B + v0 := by rw [h1]
    rw [Nat.add_mul, Nat.add_mul, Nat.mul_assoc U] at e1
    rw [Nat.mul_add, Nat.mul_comm Y Q0, ← Nat.mul_assoc Y Q1 B, Nat.mul_comm Y Q1]
    omega
  rw [e]
  have hY : 0 < Y := by omega
  refine ⟨?_, ?_⟩
  · rw [Nat.mul_add_div hY, Nat.div_eq_of_lt hR]; rfl
  · rw [Nat.mul_add_mod, Nat.mod_eq_of_lt hR]
structure Nrm (y s L : Nat) : Prop where
  sL : s + L = 64
  lt : y * 2 ^ s < 18446744073709551616
  ge : 9223372036854775808 ≤ y * 2 ^ s
theorem nrm_of {y : Nat} (h0 : 0 < y) (h : y < 18446744073709551616) : Nrm y (64 - Lib.bitLen y) (Lib.bitLen y) := by
  obtain ⟨h1, h2, h3⟩ := Lib.bitLenAux_bounds 64 y h (by omega)
  have h4 : Lib.bitLen y ≤ 64 := Lib.bitLen_le y 64 (Nat.le_refl _) h
  have e : Lib.bitLenAux 64 y = Lib.bitLen y := rfl
  rw [e] at h1 h2 h3
  generalize Lib.bitLen y = L at *
  refine ⟨by omega, ?_, ?_⟩
  · have : y * 2 ^ (64 - L) < 2 ^ L * 2 ^ (64 - L) := Nat.mul_lt_mul_of_pos_right h3 (Nat.two_pow_pos _)
    rwa [← Nat.pow_add, show L + (64 - L) = 64 by omega] at this
  · have : 2 ^ (L - 1) * 2 ^ (64 - L) ≤ y * 2 ^ (64 - L) := Nat.mul_le_mul_right _ h2
    rwa [← Nat.pow_add, show L - 1 + (64 - L) = 63 by omega] at this
set_option maxHeartbeats 8000000 in
theorem div64_pu (hi lo y : Nat) (h1 : hi < y) (h2 : y < 18446744073709551616) (h3 : lo < 18446744073709551616) : Pu Tryz.prog 113 [.v (.int .u64 hi), .v (.int .u64 lo), .v (.int .u64 y)] [] (.t [.v (.int .u64 (qN hi lo y : Nat)), .v (.int .u64 (rN hi lo y : Nat))]) := by
  refine pu_of_ex false [] mixed Tryz.call113 Tryz.func113 rfl Tryz.ntmps113 Tryz.results113 (by decide +kernel) rfl rfl rfl ?_
  refine sxq ?_
  try with_reducible exact trivial
  refine ⟨fun h => absurd h (by omega), fun _ => ⟨fun h => absurd h (by omega), fun _ => ⟨fun h => ?_, fun h => ?_⟩⟩⟩
  · obtain rfl : hi = 0 := by omega
    refine ⟨by omega, by omega, ?_⟩
    have hw : wd 0 lo = lo := by simp [wd]
    rw [u64_div h3, ← Int.ofNat_tmod, qN, rN, hw]
  refine sp_pu (lz_pu y [] h2) ?_
  have hN := nrm_of (show 0 < y by omega) h2
  generalize hL : Lib.bitLen y = L at *
  generalize hsL : 64 - L = s at *
  obtain ⟨n1, n2, n3⟩ := hN
  have e0 : IntKind.u64.wrap (64 - (L : Int)) = (s : Int) := by rw [IntKind.wrap_u64]; omega
  have e1 : IntKind.u64.wrap (64 - (s : Int)) = (L : Int) := by rw [IntKind.wrap_u64]; omega
  have e2 := u64_shl (x := y) (n := s) (by omega) n2
  have hhs : hi * 2 ^ s < y * 2 ^ s := Nat.mul_lt_mul_of_pos_right h1 (Nat.two_pow_pos _)
  have e3 := u64_shl (x := hi) (n := s) (by omega) (by omega)
  have e4 := u64_shr (x := lo) (n := L) (by omega)
  have e8 := u64_shlm (x := lo) (n := s) (by omega)
  have hpp : 2 ^ s * 2 ^ L = 18446744073709551616 := by rw [← Nat.pow_add, n1]
  have hlb : lo / 2 ^ L < 2 ^ s := by
    rw [Nat.div_lt_iff_lt_mul (Nat.two_pow_pos _), hpp]; exact h3
  have hUlt : hi * 2 ^ s + lo / 2 ^ L < y * 2 ^ s := by
    have : (hi + 1) * 2 ^ s ≤ y * 2 ^ s := Nat.mul_le_mul_right _ h1
    rw [Nat.succ_mul] at this
    omega
  have e5 := u64_or (a := hi) (b := lo / 2 ^ L) (s := s) (by omega) hlb
  have hn : wd hi lo * 2 ^ s = (hi * 2 ^ s + lo / 2 ^ L) * 18446744073709551616 + lo * 2 ^ s % 18446744073709551616 := by
    exact wd_shift hpp (Nat.two_pow_pos _) (Nat.two_pow_pos _)
  have hqr : qN hi lo y = (wd hi lo * 2 ^ s) / (y * 2 ^ s) ∧ rN hi lo y * 2 ^ s = (wd hi lo * 2 ^ s) % (y * 2 ^ s) := by
    unfold qN rN
    rw [Nat.mul_div_mul_right _ _ (Nat.two_pow_pos _), Nat.mul_mod_mul_right]
    exact ⟨rfl, rfl⟩
  have hVlt : lo * 2 ^ s % 18446744073709551616 < 18446744073709551616 := Nat.mod_lt _ (by decide)
  rw [hn] at hqr
  clear hn
  generalize hi * 2 ^ s + lo / 2 ^ L = U at *
  generalize hi * 2 ^ s = hs0 at *
  generalize lo / 2 ^ L = ls0 at *
  generalize lo * 2 ^ s % 18446744073709551616 = V at *
  generalize y * 2 ^ s = Y at *
  have e6 := u64_shr (x := Y) (n := 32) (by decide)
  have e7 := u64_mask (x := Y) n2
  have e9 := u64_shr (x := V) (n := 32) (by decide)
  have e10 := u64_mask (x := V) hVlt
  rw [show (2 : Nat) ^ 32 = 4294967296 from rfl] at e6 e9
  have ha1 : 2147483648 ≤ Y / 4294967296 := by omega
  have ha2 : Y / 4294967296 * 4294967296 + Y % 4294967296 = Y := Nat.div_add_mod' Y 4294967296
  have hb2 : Y % 4294967296 < 4294967296 := Nat.mod_lt _ (by decide)
  have hd : V / 4294967296 * 4294967296 + V % 4294967296 = V := Nat.div_add_mod' V 4294967296
  have hd0 : V % 4294967296 < 4294967296 := Nat.mod_lt _ (by decide)
  have hd1 : V / 4294967296 < 4294967296 := by omega
  generalize Y / 4294967296 = a at *
  generalize Y % 4294967296 = b at *
  generalize V / 4294967296 = v1 at *
  generalize V % 4294967296 = v0 at *
  simp only [push_cast, ↓branch_true, ↓branch_false, Nat.reduceBEq, Nat.reduceAdd, Nat.reduceMul, Nat.reduceSub, Int.reduceToNat, reduceCtorEq, Int.reduceAdd, Int.reduceEq, Int.reduceLE, Int.reduceLT, Nat.reduceLT, Nat.reduceLeDiff, e0]
  simp only [e0, e1, Int.toNat_natCast]
  simp only [e2, e3, e4, e8]
  simp only [e5, e6, e7, e9, e10]
  have hUW : U < 18446744073709551616 := by omega
  have haB : a < 4294967296 := by omega
  have e11 := u64_div (x := U) (y := a) hUW
  have e12 := u64_rest (x := U) (y := a) hUW
  simp only [e11, e12]
  have hUY : U < a * 4294967296 + b := by omega
  have hqa := Nat.div_add_mod' U a
  have hra : U % a < a := Nat.mod_lt _ (by omega)
  have hdl := dig_le (B := 4294967296) (a := a) (b := b) (u := U) (d := v1) (by omega) hd1
  have hqU : U / a ≤ U := Nat.div_le_self _ _
  generalize U / a = q0 at *
  generalize U % a = r0 at *
  repeat (with_reducible refine And.intro (by omega) ?_)
  refine tr_loop0 mixed (by kernel_rfl) (fun (x : Nat × Nat) => [(16, .v (.int .u64 x.2)), (15, .v (.int .u64 x.1)), (14, .v (.int .u64 v0)), (13, .v (.int .u64 v1)), (11, .v (.int .u64 U)), (10, .v (.int .u64 b)), (9, .v (.int .u64 a)), (8, .v (.int .u64 s)), (2, .v (.int .u64 Y))])
    (fun x => x.1 * a + x.2 = U ∧ (U * 4294967296 + v1) / (a * 4294967296 + b) ≤ x.1 ∧ x.2 < 4294967296 ∧ x.1 ≤ U) (fun x => 4294967296 - x.2) (q0, r0) ⟨hqa, hdl, by simp only; omega, hqU⟩ ?_ ?_
  · refine sxq ?_
    try with_reducible exact trivial
    try trivial
  obtain ⟨Q1, R1, f1, f2, f3⟩ : ∃ Q1 R1 : Nat, Q1 = (U * 4294967296 + v1) / (a * 4294967296 + b) ∧ U * 4294967296 + v1 = Q1 * Y + R1 ∧ R1 < Y := by
    refine ⟨_, (U * 4294967296 + v1) % Y, rfl, ?_, Nat.mod_lt _ (by omega)⟩
    rw [ha2]
    exact (Nat.div_add_mod' _ _).symm
  have f4 : Q1 < 4294967296 := by rw [f1]; exact dig_lt hUY hd1
  have eL := u64_left f2 (by omega)
  have e13 := u64_div (x := R1) (y := a) (by omega)
  have e14 := u64_rest (x := R1) (y := a) (by omega)
  have hRY : R1 < a * 4294967296 + b := by omega
  have hqa2 := Nat.div_add_mod' R1 a
  have hra2 : R1 % a < a := Nat.mod_lt _ (by omega)
  have hdl2 := dig_le (B := 4294967296) (a := a) (b := b) (u := R1) (d := v0) (by omega) hd0
  have hqU2 : R1 / a ≤ R1 := Nat.div_le_self _ _
  generalize R1 / a = p0 at *
  generalize R1 % a = t0 at *
  rintro ⟨q, r⟩ ⟨g1, g2, g3, g4⟩
  simp only at g1 g2 g3 g4
  have w1 : IntKind.u64.wrap (IntKind.u64.wrap (4294967296 * (r : Int)) + (v1 : Int)) = 4294967296 * (r : Int) + v1 := by rw [IntKind.wrap_u64, IntKind.wrap_u64]; omega
  obtain ⟨r', hr'⟩ : ∃ r', r' = r + a := ⟨_, rfl⟩
  have w2 : IntKind.u64.wrap ((r : Int) + (a : Int)) = (r' : Int) := by rw [IntKind.wrap_u64]; omega
  have w3 : q < 4294967296 → IntKind.u64.wrap ((q : Int) * (b : Int)) = ((q * b : Nat) : Int) := fun h => by
    rw [← Int.natCast_mul]
    exact u64n (qb_lt h hb2)
  have w4 : 0 < q → IntKind.u64.wrap ((q : Int) - 1) = ((q - 1 : Nat) : Int) := fun h => by rw [IntKind.wrap_u64]; omega
  refine sxq ?_
  try with_reducible exact trivial
  refine ⟨fun c1 => ?_, fun c1 => ⟨fun c2 => ?_, fun c2 => ?_⟩⟩
  all_goals first
    | (have hc : 4294967296 ≤ q ∨ 4294967296 * r + v1 < q * b := by
         first
           | exact .inl (by omega)
           | (rw [w1, w3 (by omega)] at c2
              exact .inr (by omega))
       obtain ⟨s1, s2, s3⟩ := dig_step hUY hd1 g1 g2 hc
       rw [← f1] at s2
       rw [← hr'] at s3
       have w4 := w4 s1
       generalize hq' : q - 1 = q' at *
       simp only [w2, w4]
       refine ⟨fun c3 => ?_, fun c3 => ?_⟩
       rotate_left
       · refine lp0_normal (q', r') ⟨s3, by rw [← f1]; exact s2, by simp only; omega, by simp only; omega⟩ (by simp only; omega) ?_
         refine sxq ?_
         try with_reducible exact trivial
       have hq1 := dig_end hb2 hUY hd1 s3 (by rw [← f1]; exact s2) (.inr (by omega))
       rw [← f1] at hq1
       have hq1 := hq1.symm
       subst hq1
       simp only [eL, e13, e14])
    | (rw [w1, w3 (by omega)] at c2
       have hq1 := dig_end hb2 hUY hd1 g1 g2 (.inl ⟨by omega, by omega⟩)
       rw [← f1] at hq1
       have hq1 := hq1.symm
       subst hq1
       simp only [eL, e13, e14])
  all_goals
    clear w1 w2 w3 w4 g1 g2 g3 g4 c1
    refine ⟨by omega, ?_⟩
    refine tr_loop0 mixed (by kernel_rfl) (fun (x : Nat × Nat) => [(16, .v (.int .u64 x.2)), (18, .v (.int .u64 x.1)), (17, .v (.int .u64 R1)), (15, .v (.int .u64 Q1)), (14, .v (.int .u64 v0)), (10, .v (.int .u64 b)), (9, .v (.int .u64 a)), (8, .v (.int .u64 s)), (2, .v (.int .u64 Y))])
      (fun x => x.1 * a + x.2 = R1 ∧ (R1 * 4294967296 + v0) / (a * 4294967296 + b) ≤ x.1 ∧ x.2 < 4294967296 ∧ x.1 ≤ R1) (fun x => 4294967296 - x.2) (p0, t0) ⟨hqa2, hdl2, by simp only; omega, hqU2⟩ ?_ ?_
    · refine sxq ?_
      try with_reducible exact trivial
      try trivial
    obtain ⟨Q0, R0, k1, k2, k3⟩ : ∃ Q0 R0 : Nat, Q0 = (R1 * 4294967296 + v0) / (a * 4294967296 + b) ∧ R1 * 4294967296 + v0 = Q0 * Y + R0 ∧ R0 < Y := by
      refine ⟨_, (R1 * 4294967296 + v0) % Y, rfl, ?_, Nat.mod_lt _ (by omega)⟩
      rw [ha2]
      exact (Nat.div_add_mod' _ _).symm
    have k4 : Q0 < 4294967296 := by rw [k1]; exact dig_lt hRY hd0
    have eL2 := u64_left k2 (by omega)
    have eQ : IntKind.u64.wrap (IntKind.u64.wrap ((Q1 : Int) * 4294967296) + (Q0 : Int)) = (qN hi lo y : Nat) := by
      have hh := (two_digits f2 k2 k3 (show 18446744073709551616 = 4294967296 * 4294967296 from rfl)).1
      rw [hd] at hh
      rw [hqr.1, hh]
      rw [IntKind.wrap_u64, IntKind.wrap_u64]
      omega
    have eR : (R0 : Int).fdiv (2 ^ min s IntKind.u64.bits) = (rN hi lo y : Nat) := by
      have hh := (two_digits f2 k2 k3 (show 18446744073709551616 = 4294967296 * 4294967296 from rfl)).2
      rw [hd, ← hqr.2] at hh
      rw [u64_shr (by omega), ← hh, Nat.mul_div_cancel _ (Nat.two_pow_pos _)]
    rintro ⟨q, r⟩ ⟨g1, g2, g3, g4⟩
    simp only at g1 g2 g3 g4
    have w1 : IntKind.u64.wrap (IntKind.u64.wrap (4294967296 * (r : Int)) + (v0 : Int)) = 4294967296 * (r : Int) + v0 := by rw [IntKind.wrap_u64, IntKind.wrap_u64]; omega
    obtain ⟨r', hr'⟩ : ∃ r', r' = r + a := ⟨_, rfl⟩
    have w2 : IntKind.u64.wrap ((r : Int) + (a : Int)) = (r' : Int) := by rw [IntKind.wrap_u64]; omega
    have w3 : q < 4294967296 → IntKind.u64.wrap ((q : Int) * (b : Int)) = ((q * b : Nat) : Int) := fun h => by
      rw [← Int.natCast_mul]
      exact u64n (qb_lt h hb2)
    have w4 : 0 < q → IntKind.u64.wrap ((q : Int) - 1) = ((q - 1 : Nat) : Int) := fun h => by rw [IntKind.wrap_u64]; omega
    refine sxq ?_
    try with_reducible exact trivial
    refine ⟨fun c1 => ?_, fun c1 => ⟨fun c2 => ?_, fun c2 => ?_⟩⟩
    all_goals first
      | (have hc : 4294967296 ≤ q ∨ 4294967296 * r + v0 < q * b := by
           first
             | exact .inl (by omega)
             | (rw [w1, w3 (by omega)] at c2
                exact .inr (by omega))
         obtain ⟨s1, s2, s3⟩ := dig_step hRY hd0 g1 g2 hc
         rw [← k1] at s2
         rw [← hr'] at s3
         have w4 := w4 s1
         generalize hq' : q - 1 = q' at *
         simp only [w2, w4]
         refine ⟨fun c3 => ?_, fun c3 => ?_⟩
         rotate_left
         · refine lp0_normal (q', r') ⟨s3, by rw [← k1]; exact s2, by simp only; omega, by simp only; omega⟩ (by simp only; omega) ?_
           refine sxq ?_
           try with_reducible exact trivial
         have hq1 := dig_end hb2 hRY hd0 s3 (by rw [← k1]; exact s2) (.inr (by omega))
         rw [← k1] at hq1
         have hq1 := hq1.symm
         subst hq1
         simp only [eL2, eQ, eR]
         exact ⟨by omega, trivial⟩)
      | (rw [w1, w3 (by omega)] at c2
         have hq1 := dig_end hb2 hRY hd0 g1 g2 (.inl ⟨by omega, by omega⟩)
         rw [← k1] at hq1
         have hq1 := hq1.symm
         subst hq1
         simp only [eL2, eQ, eR]
         exact ⟨by omega, trivial⟩)
end Go.Proofs.YtdeaaonppokgkaaGreat
