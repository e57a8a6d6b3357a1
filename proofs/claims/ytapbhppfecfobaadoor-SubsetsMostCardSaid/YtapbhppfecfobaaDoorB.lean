/- Contracts of small functions: least bits, indices, sizes. -/
import Derived.Test.YtapbhppfecfobaaDoorA
set_option maxRecDepth 100000
set_option linter.unusedSimpArgs false
set_option linter.unusedVariables false
namespace Go.Proofs.YtapbhppfecfobaaDoor
open Go.RowKit
theorem nat_mod {n m : Nat} (h : n < m) : ((n : Int) % (m : Int)).toNat = n := by
  rw [Int.emod_eq_of_lt (by omega) (by omega)]; rfl
theorem k_and {k : IntKind} {a b : Nat} (ha : a < 2 ^ k.bits) (hb : b < 2 ^ k.bits) : (BitVec.ofInt k.bits (a : Int) &&& BitVec.ofInt k.bits (b : Int)).toNat = a &&& b := by
  rw [BitVec.toNat_and, BitVec.toNat_ofInt, BitVec.toNat_ofInt, nat_mod ha, nat_mod hb]
theorem k_xor {k : IntKind} {a b : Nat} (ha : a < 2 ^ k.bits) (hb : b < 2 ^ k.bits) : (BitVec.ofInt k.bits (a : Int) ^^^ BitVec.ofInt k.bits (b : Int)).toNat = a ^^^ b := by
  rw [BitVec.toNat_xor, BitVec.toNat_ofInt, BitVec.toNat_ofInt, nat_mod ha, nat_mod hb]
theorem u32w {n : Nat} (h : n < 4294967296) : IntKind.u32.wrap (n : Int) = n := by rw [IntKind.wrap_u32]; omega
theorem and_lt32 {a b : Nat} (ha : a < 4294967296) : a &&& b < 4294967296 := Nat.lt_of_le_of_lt Nat.and_le_left ha
theorem u32_and {a b : Nat} (ha : a < 4294967296) (hb : b < 4294967296) : IntKind.u32.wrap (((BitVec.ofInt IntKind.u32.bits (a : Int) &&& BitVec.ofInt IntKind.u32.bits (b : Int)).toNat : Nat) : Int) = ((a &&& b : Nat) : Int) := by
  rw [k_and (k := .u32) ha hb, u32w (and_lt32 ha)]
theorem u32_xor {a b : Nat} (ha : a < 4294967296) (hb : b < 4294967296) : IntKind.u32.wrap (((BitVec.ofInt IntKind.u32.bits (a : Int) ^^^ BitVec.ofInt IntKind.u32.bits (b : Int)).toNat : Nat) : Int) = ((a ^^^ b : Nat) : Int) := by
  rw [k_xor (k := .u32) ha hb, u32w (Nat.xor_lt_two_pow (n := 32) ha hb)]
theorem u32_neg {x : Nat} (h0 : 0 < x) (h : x < 4294967296) : IntKind.u32.wrap (0 - (x : Int)) = ((4294967296 - x : Nat) : Int) := by rw [IntKind.wrap_u32]; omega
def gU8 : Option Value → Option Int
  | some (.int .u8 m) => some m
  | _ => none
theorem gU8_some {o : Option Value} {m : Int} (h : gU8 o = some m) : o = some (.int .u8 m) := by
  unfold gU8 at h
  split at h
  · obtain rfl : _ = m := by simpa using h
    rfl
  · cases h
theorem tab32 (k : Nat) (h : k < 32) : (2 ^ k * 125613361) % 4294967296 / 134217728 < 32 ∧ globV 0 ((2 ^ k * 125613361) % 4294967296 / 134217728) = some (.int .u8 k) := by
  have key : (List.range 32).all (fun k => decide ((2 ^ k * 125613361) % 4294967296 / 134217728 < 32) && (gU8 (globV 0 ((2 ^ k * 125613361) % 4294967296 / 134217728)) == some (k : Int))) = true := by decide +kernel
  have := List.all_eq_true.1 key k (List.mem_range.2 h)
  simp only [Bool.and_eq_true, decide_eq_true_eq, beq_iff_eq] at this
  exact ⟨this.1, gU8_some this.2⟩
theorem tz32_pu (x : Nat) (h : x < 4294967296) : Pu Tryd.prog 60 [.v (.int .u32 x)] [] (.v (.int .i64 (if x = 0 then 32 else tzN x : Nat))) := by
  refine pu_of_ex false [] mixed Tryd.call60 Tryd.func60 rfl Tryd.ntmps60 Tryd.results60 (by decide +kernel) rfl rfl rfl ?_
  simp only [push_cast, ↓branch_true, ↓branch_false, Nat.reduceBEq, Nat.reduceAdd, Nat.reduceMul, Nat.reduceSub, Int.reduceToNat, reduceCtorEq, branch_decide, branch_not, branch_beq, branch_bne]
  refine ⟨fun h0 => ?_, fun h0 => ?_⟩
  · rw [if_pos (by omega)]; rfl
  have h1 : 0 < x := by omega
  have hk := tz_lt h1 (n := 32) h (by omega)
  obtain ⟨g1, g2⟩ := tab32 _ hk
  have e1 : IntKind.u32.wrap (((2 ^ tzN x : Nat) : Int) * 125613361) = ((2 ^ tzN x * 125613361 % 4294967296 : Nat) : Int) := by rw [IntKind.wrap_u32]; omega
  have e2 : (((2 ^ tzN x * 125613361 % 4294967296 : Nat) : Int)).fdiv (2 ^ min 27 IntKind.u32.bits) = ((2 ^ tzN x * 125613361 % 4294967296 / 134217728 : Nat) : Int) := by
    rw [Int.fdiv_eq_ediv_of_nonneg _ (by decide)]
    rfl
  rw [u32_neg h1 h, u32_and h (by omega), and_neg (n := 32) h1 h (by omega), e1, e2]
  rw [if_neg (by omega), Int.toNat_natCast, Nat.mul_one, g2]
  refine ⟨by omega, by omega, by omega, rfl, fun v hv => ?_⟩
  obtain rfl : Value.int .u8 (tzN x) = v := by simpa using hv
  clear e1 e2 g1 g2
  generalize 2 ^ tzN x * 125613361 % 4294967296 / 134217728 = a1
  generalize 2 ^ tzN x * 125613361 % 4294967296 = a2
  generalize 2 ^ tzN x = a3
  generalize 4294967296 - x = a4
  generalize tzN x = k at *
  simp only [push_cast, ↓branch_true, ↓branch_false, Nat.reduceBEq, Nat.reduceAdd, Nat.reduceMul, Nat.reduceSub, Int.reduceToNat, reduceCtorEq, branch_decide, branch_not, branch_beq, branch_bne]
  congr 2
  rw [IntKind.wrap_i64]
  omega
def cnt8 (b : Nat) : Nat := ((List.range 8).filter fun i => b.testBit i).length
def popS : ByteArray := ⟨#[0, 1, 1, 2, 1, 2, 2, 3, 1, 2, 2, 3, 2, 3, 3, 4, 1, 2, 2, 3, 2, 3, 3, 4, 2, 3, 3, 4, 3, 4, 4, 5, 1, 2, 2, 3, 2, 3, 3, 4, 2, 3, 3, 4, 3, 4, 4, 5, 2, 3, 3, 4, 3, 4, 4, 5, 3, 4, 4, 5, 4, 5, 5, 6, 1, 2, 2, 3, 2, 3, 3, 4, 2, 3, 3, 4, 3, 4, 4, 5, 2, 3, 3, 4, 3, 4, 4, 5, 3, 4, 4, 5, 4, 5, 5, 6, 2, 3, 3, 4, 3, 4, 4, 5, 3, 4, 4, 5, 4, 5, 5, 6, 3, 4, 4, 5, 4, 5, 5, 6, 4, 5, 5, 6, 5, 6, 6, 7, 1, 2, 2, 3, 2, 3, 3, 4, 2, 3, 3, 4, 3, 4, 4, 5, 2, 3, 3, 4, 3, 4, 4, 5, 3, 4, 4, 5, 4, 5, 5, 6, 2, 3, 3, 4, 3, 4, 4, 5, 3, 4, 4, 5, 4, 5, 5, 6, 3, 4, 4, 5, 4, 5, 5, 6, 4, 5, 5, 6, 5, 6, 6, 7, 2, 3, 3, 4, 3, 4, 4, 5, 3, 4, 4, 5, 4, 5, 5, 6, 3, 4, 4, 5, 4, 5, 5, 6, 4, 5, 5, 6, 5, 6, 6, 7, 3, 4, 4, 5, 4, 5, 5, 6, 4, 5, 5, 6, 5, 6, 6, 7, 4, 5, 5, 6, 5, 6, 6, 7, 5, 6, 6, 7, 6, 7, 7, 8]⟩
theorem pop_get (i : Nat) (h : i < 256) (b : UInt8) (hb : popS[i]? = some b) : b.toNat = cnt8 i := by
  have key : (List.range 256).all (fun i => match popS[i]? with | some b => b.toNat == cnt8 i | none => false) = true := by decide +kernel
  have := List.all_eq_true.1 key i (List.mem_range.2 h)
  simp only [hb, beq_iff_eq] at this
  exact this
theorem pop_size : popS.size = 256 := by decide +kernel
theorem u32_sh {x n : Nat} : ((x : Nat) : Int).fdiv (2 ^ n) = ((x / 2 ^ n : Nat) : Int) := by
  rw [Int.fdiv_eq_ediv_of_nonneg _ (by exact Int.pow_nonneg (by decide))]
  norm_cast
theorem bits_cnt {x : Nat} (h : x < 65536) : (bitsL x).length = cnt8 (x / 2 ^ 8) + cnt8 (x % 256) := by
  have e : List.range 32 = List.range 8 ++ ((List.range 8).map (· + 8) ++ (List.range 16).map (· + 16)) := by decide
  unfold bitsL cnt8
  rw [e, List.filter_append, List.filter_append, List.length_append, List.length_append, List.filter_map, List.filter_map, List.length_map, List.length_map]
  have c1 : (List.range 16).filter ((fun i => x.testBit i) ∘ fun i => i + 16) = [] := by
    rw [List.filter_eq_nil_iff]
    intro i _
    simp only [Function.comp]
    rw [Nat.testBit_lt_two_pow (Nat.lt_of_lt_of_le (show x < 2 ^ 16 from h) (Nat.pow_le_pow_right (by decide) (show 16 ≤ i + 16 by omega)))]
    decide
  have c2 : (List.range 8).filter ((fun i => x.testBit i) ∘ fun i => i + 8) = (List.range 8).filter fun i => (x / 2 ^ 8).testBit i := by
    refine List.filter_congr fun i _ => ?_
    simp only [Function.comp]
    rw [Nat.testBit_div_two_pow]
  have c3 : (List.range 8).filter (fun i => x.testBit i) = (List.range 8).filter fun i => (x % 256).testBit i := by
    refine List.filter_congr fun i hi => ?_
    have := List.mem_range.1 hi
    rw [show 256 = 2 ^ 8 from rfl, Nat.testBit_mod_two_pow]
    simp [this]
  rw [c1, c2, c3]
  simp
  omega
set_option maxHeartbeats 4000000 in
theorem ones_pu (x : Nat) (h : x < 65536) : Pu Tryd.prog 63 [.v (.int .u32 x)] [] (.v (.int .i64 (bitsL x).length)) := by
  refine pu_of_ex false [(1, .one 0 (.one 1 (.one 3 (.one 4 (.one 5 (.one 8 (.one 9 (.one 10 (.one 13 (.one 14 (.alt [(2, .alt [(6, .one 7 (.alt [(11, .one 12 (.one 15 (.one 16 (.one 17 (.one 18 .fin))))), (15, .one 11 (.one 12 (.one 16 (.one 17 (.one 18 .fin)))))])), (11, .alt [(6, .one 7 (.one 12 (.one 15 (.one 16 (.one 17 (.one 18 .fin)))))), (15, .one 6 (.one 7 (.one 12 (.one 16 (.one 17 (.one 18 .fin))))))]), (15, .alt [(6, .one 7 (.one 11 (.one 12 (.one 16 (.one 17 (.one 18 .fin)))))), (11, .one 6 (.one 7 (.one 12 (.one 16 (.one 17 (.one 18 .fin))))))])]), (6, .alt [(2, .one 7 (.alt [(11, .one 12 (.one 15 (.one 16 (.one 17 (.one 18 .fin))))), (15, .one 11 (.one 12 (.one 16 (.one 17 (.one 18 .fin)))))])), (11, .alt [(2, .one 7 (.one 12 (.one 15 (.one 16 (.one 17 (.one 18 .fin)))))), (15, .one 2 (.one 7 (.one 12 (.one 16 (.one 17 (.one 18 .fin))))))]), (15, .alt [(2, .one 7 (.one 11 (.one 12 (.one 16 (.one 17 (.one 18 .fin)))))), (11, .one 2 (.one 7 (.one 12 (.one 16 (.one 17 (.one 18 .fin))))))])]), (11, .alt [(2, .alt [(6, .one 7 (.one 12 (.one 15 (.one 16 (.one 17 (.one 18 .fin)))))), (15, .one 6 (.one 7 (.one 12 (.one 16 (.one 17 (.one 18 .fin))))))]), (6, .alt [(2, .one 7 (.one 12 (.one 15 (.one 16 (.one 17 (.one 18 .fin)))))), (15, .one 2 (.one 7 (.one 12 (.one 16 (.one 17 (.one 18 .fin))))))]), (15, .alt [(2, .one 6 (.one 7 (.one 12 (.one 16 (.one 17 (.one 18 .fin)))))), (6, .one 2 (.one 7 (.one 12 (.one 16 (.one 17 (.one 18 .fin))))))])]), (15, .alt [(2, .alt [(6, .one 7 (.one 11 (.one 12 (.one 16 (.one 17 (.one 18 .fin)))))), (11, .one 6 (.one 7 (.one 12 (.one 16 (.one 17 (.one 18 .fin))))))]), (6, .alt [(2, .one 7 (.one 11 (.one 12 (.one 16 (.one 17 (.one 18 .fin)))))), (11, .one 2 (.one 7 (.one 12 (.one 16 (.one 17 (.one 18 .fin))))))]), (11, .alt [(2, .one 6 (.one 7 (.one 12 (.one 16 (.one 17 (.one 18 .fin)))))), (6, .one 2 (.one 7 (.one 12 (.one 16 (.one 17 (.one 18 .fin))))))])])])))))))))))] mixed Tryd.call63 Tryd.func63 rfl Tryd.ntmps63 Tryd.results63 (by decide +kernel) rfl rfl rfl ?_
  simp only [push_cast, ↓branch_true, ↓branch_false, Nat.reduceBEq, Nat.reduceAdd, Nat.reduceMul, Nat.reduceSub, Int.reduceToNat, reduceCtorEq, branch_decide, branch_not, branch_beq, branch_bne]
  refine ⟨by omega, by omega, by omega, ?_⟩
  rw [show min 24 IntKind.u32.bits = 24 from rfl, show min 16 IntKind.u32.bits = 16 from rfl, show min 8 IntKind.u32.bits = 8 from rfl, u32_sh, u32_sh, u32_sh]
  have a0 : x / 2 ^ 24 = 0 := by omega
  have a1 : x / 2 ^ 16 = 0 := by omega
  have a2 : x / 2 ^ 8 < 256 := by omega
  generalize hA : x / 2 ^ 8 = A at *
  have e1 : IntKind.u32.wrap (((BitVec.ofInt IntKind.u32.bits ((x / 2 ^ 16 : Nat) : Int) &&& BitVec.ofInt IntKind.u32.bits 255).toNat : Nat) : Int) = ((0 : Nat) : Int) := by
    have := u32_and (a := x / 2 ^ 16) (b := 255) (by omega) (by decide)
    rw [a1] at this ⊢
    rw [Nat.zero_and] at this
    exact this
  have e2 : IntKind.u32.wrap (((BitVec.ofInt IntKind.u32.bits (A : Int) &&& BitVec.ofInt IntKind.u32.bits 255).toNat : Nat) : Int) = ((A : Nat) : Int) := by
    have := u32_and (a := A) (b := 255) (by omega) (by decide)
    rw [show A &&& 255 = A % 256 from Nat.and_two_pow_sub_one_eq_mod A 8, Nat.mod_eq_of_lt a2] at this
    exact this
  have e3 : IntKind.u32.wrap (((BitVec.ofInt IntKind.u32.bits (x : Int) &&& BitVec.ofInt IntKind.u32.bits 255).toNat : Nat) : Int) = ((x % 256 : Nat) : Int) := by
    have := u32_and (a := x) (b := 255) (by omega) (by decide)
    rw [show x &&& 255 = x % 256 from Nat.and_two_pow_sub_one_eq_mod x 8] at this
    exact this
  rw [e1, e2, e3, a0]
  have sz : ∀ n : Nat, n < 256 → (n : Int) < ((popS.size : Nat) : Int) := fun n hn => by rw [pop_size]; omega
  have gt : ∀ (n : Nat) (b : UInt8), n < 256 → popS[(n : Int).toNat]? = some b → b.toNat = cnt8 n := fun n b hn hb => pop_get n hn b hb
  have c0 : cnt8 0 = 0 := by decide
  have cl : ∀ n, cnt8 n ≤ 8 := fun n => by
    have := List.length_filter_le (fun i => n.testBit i) (List.range 8)
    simpa [cnt8] using this
  have cA := cl A
  have cx := cl (x % 256)
  have hlen : (bitsL x).length = cnt8 A + cnt8 (x % 256) := by rw [← hA]; exact bits_cnt h
  have h256 : x % 256 < 256 := by omega
  repeat' (first | with_reducible apply And.intro | intro _)
  all_goals first
    | exact Int.natCast_nonneg _
    | exact sz _ (by omega)
    | (rename_i b1 h1 b2 h2 b3 h3 b4 h4
       have q1 := gt _ b1 (by omega) h1
       have q2 := gt _ b2 (by omega) h2
       have q3 := gt _ b3 (by omega) h3
       have q4 := gt _ b4 (by omega) h4
       clear h1 h2 h3 h4 gt sz
       congr 2
       simp only [IntKind.wrap_u8, IntKind.wrap_i64]
       omega)
theorem size_pu (x : Nat) (h : x < 65536) : Pu Tryd.prog 51 [.v (.int .u32 x)] [] (.v (.int .i64 (bitsL x).length)) := by
  refine pu_of_ex true [] mixed Tryd.call51 Tryd.func51 rfl Tryd.ntmps51 Tryd.results51 (by decide +kernel) rfl rfl rfl ?_
  simp only [push_cast, ↓branch_true, ↓branch_false, Nat.reduceBEq, Nat.reduceAdd, Nat.reduceMul, Nat.reduceSub, Int.reduceToNat, reduceCtorEq, branch_decide, branch_not, branch_beq, branch_bne]
  refine sp_call (ones_pu x h) rfl [] rfl (by simp only [push_cast, ↓branch_true, ↓branch_false, Nat.reduceBEq, Nat.reduceAdd, Nat.reduceMul, Nat.reduceSub, Int.reduceToNat, reduceCtorEq, branch_decide, branch_not, branch_beq, branch_bne]) (by simp only [push_cast, ↓branch_true, ↓branch_false, Nat.reduceBEq, Nat.reduceAdd, Nat.reduceMul, Nat.reduceSub, Int.reduceToNat, reduceCtorEq, branch_decide, branch_not, branch_beq, branch_bne]) ?_
  simp only [push_cast, ↓branch_true, ↓branch_false, Nat.reduceBEq, Nat.reduceAdd, Nat.reduceMul, Nat.reduceSub, Int.reduceToNat, reduceCtorEq, branch_decide, branch_not, branch_beq, branch_bne]
/-- Whether a subset comes before another one with as many indices. -/
def bef (s t : Nat) : Bool := (s &&& 2 ^ tzN (s ^^^ t)) != 0
theorem before_pu (s t : Nat) (h : s < 65536) (h2 : t < 65536) (hne : s ≠ t) : Pu Tryd.prog 62 [.v (.int .u32 s), .v (.int .u32 t)] [] (.v (.bool (bef s t))) := by
  refine pu_of_ex false [] mixed Tryd.call62 Tryd.func62 rfl Tryd.ntmps62 Tryd.results62 (by decide +kernel) rfl rfl rfl ?_
  simp only [push_cast, ↓branch_true, ↓branch_false, Nat.reduceBEq, Nat.reduceAdd, Nat.reduceMul, Nat.reduceSub, Int.reduceToNat, reduceCtorEq, branch_decide, branch_not, branch_beq, branch_bne]
  have hx : s ^^^ t < 65536 := Nat.xor_lt_two_pow (n := 16) h h2
  have h0 : 0 < s ^^^ t := Nat.pos_of_ne_zero fun e => hne (Nat.eq_of_testBit_eq fun i => by
    have := congrArg (fun n => n.testBit i) e
    simpa using this)
  rw [u32_xor (by omega) (by omega), u32_neg h0 (by omega), u32_and (by omega) (by omega), u32_and (and_lt32 (by omega)) (by omega)]
  rw [Nat.and_assoc, and_neg (n := 32) h0 (by omega) (by omega)]
  unfold bef
  generalize s &&& 2 ^ tzN (s ^^^ t) = n
  cases n with
  | zero => rfl
  | succ n => congr 2
end Go.Proofs.YtapbhppfecfobaaDoor
