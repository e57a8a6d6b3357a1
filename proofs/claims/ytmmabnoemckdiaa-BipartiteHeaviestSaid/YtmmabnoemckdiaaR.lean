/- Plain: the heaviest matching; bits of small numbers. -/
import Derived.Test.YtmmabnoemckdiaaB
import Derived.Test.YtmmabnoemckdiaaD
set_option maxRecDepth 100000
set_option linter.unusedSimpArgs false
set_option linter.unusedVariables false
namespace Go.Proofs.Ytmmabnoemckdiaa
open Go.RowKit
theorem ti65 : tiOf Try.prog 65 = ⟨.array 256 3 1, 256, 2048, some (List.replicate 256 (.int .i64 0))⟩ := by kernel_rfl
attribute [push_cast] ti65
theorem b_nat_mod {n m : Nat} (h : n < m) : ((n : Int) % (m : Int)).toNat = n := by
  rw [Int.emod_eq_of_lt (by omega) (by omega)]; rfl
theorem i64_and {a b : Nat} (ha : a < 65536) (hb : b < 65536) : IntKind.i64.wrap (((BitVec.ofInt IntKind.i64.bits (a : Int) &&& BitVec.ofInt IntKind.i64.bits (b : Int)).toNat : Nat) : Int) = ((a &&& b : Nat) : Int) := by
  have hab : a &&& b < 65536 := Nat.lt_of_le_of_lt Nat.and_le_left ha
  show IntKind.i64.wrap (((BitVec.ofInt 64 (a : Int) &&& BitVec.ofInt 64 (b : Int)).toNat : Nat) : Int) = ((a &&& b : Nat) : Int)
  rw [BitVec.toNat_and, BitVec.ofInt_natCast, BitVec.ofInt_natCast, BitVec.toNat_ofNat, BitVec.toNat_ofNat, Nat.mod_eq_of_lt (by omega), Nat.mod_eq_of_lt (by omega), IntKind.wrap_i64]
  omega
theorem i64_or {a b : Nat} (ha : a < 65536) (hb : b < 65536) : IntKind.i64.wrap (((BitVec.ofInt IntKind.i64.bits (a : Int) ||| BitVec.ofInt IntKind.i64.bits (b : Int)).toNat : Nat) : Int) = ((a ||| b : Nat) : Int) := by
  have hab : a ||| b < 2 ^ 16 := Nat.or_lt_two_pow ha hb
  show IntKind.i64.wrap (((BitVec.ofInt 64 (a : Int) ||| BitVec.ofInt 64 (b : Int)).toNat : Nat) : Int) = ((a ||| b : Nat) : Int)
  rw [BitVec.toNat_or, BitVec.ofInt_natCast, BitVec.ofInt_natCast, BitVec.toNat_ofNat, BitVec.toNat_ofNat, Nat.mod_eq_of_lt (by omega), Nat.mod_eq_of_lt (by omega), IntKind.wrap_i64]
  omega
theorem fdiv_sh {x n : Nat} : ((x : Nat) : Int).fdiv (2 ^ n) = ((x / 2 ^ n : Nat) : Int) := by
  rw [Int.fdiv_eq_ediv_of_nonneg _ (by exact Int.pow_nonneg (by decide))]
  norm_cast
theorem i64_has {s x : Nat} (hs : s < 65536) (hx : x < 16) : (IntKind.i64.wrap (((BitVec.ofInt IntKind.i64.bits ((s : Int).fdiv (2 ^ min x IntKind.i64.bits)) &&& BitVec.ofInt IntKind.i64.bits 1).toNat : Nat) : Int) = 0) = (s.testBit x = false) := by
  have hq : s / 2 ^ x < 65536 := Nat.lt_of_le_of_lt (Nat.div_le_self _ _) (by omega)
  have e := i64_and hq (show 1 < 65536 by decide)
  rw [show ((1 : Nat) : Int) = 1 from rfl] at e
  rw [show min x IntKind.i64.bits = x from Nat.min_eq_left (by show x ≤ 64; omega), fdiv_sh, e, Nat.and_one_is_mod, Nat.testBit_eq_decide_div_mod_eq, decide_eq_false_iff_not]
  exact propext ⟨fun h => by omega, fun h => by omega⟩
theorem two_shl {n : Nat} (h : n ≤ 16) : (1 : Int) * 2 ^ min n IntKind.i64.bits = ((2 ^ n : Nat) : Int) := by
  rw [show IntKind.i64.bits = 64 from rfl, Nat.min_eq_left (by omega)]
  push_cast
  omega
theorem pow_8 {x : Nat} (hx : x < 8) : 2 ^ x < 256 := Nat.pow_lt_pow_right (n := 8) (by decide) hx
theorem or_lt8 {s x : Nat} (hs : s < 256) (hx : x < 8) : s ||| 2 ^ x < 256 := Nat.or_lt_two_pow (n := 8) hs (pow_8 hx)
theorem i64_bit {s x : Nat} (hs : s < 65536) (hx : x < 16) : (IntKind.i64.wrap (((BitVec.ofInt IntKind.i64.bits (s : Int) &&& BitVec.ofInt IntKind.i64.bits ((2 ^ x : Nat) : Int)).toNat : Nat) : Int) = 0) = (s.testBit x = false) := by
  have h2 : 2 ^ x < 65536 := Nat.pow_lt_pow_right (n := 16) (by decide) hx
  rw [i64_and hs h2]
  refine propext ⟨fun h => ?_, fun h => ?_⟩
  · have h2 : s &&& 2 ^ x = 0 := by omega
    have h3 := congrArg (fun y => y.testBit x) h2
    simpa using h3
  · rw [show s &&& 2 ^ x = 0 from Nat.eq_of_testBit_eq fun i => by
      rw [Nat.testBit_and, Nat.testBit_two_pow, Nat.zero_testBit]
      by_cases e : x = i
      · subst e; simp [h]
      · simp [e]]
    rfl
/-- The best sum when so many columns of a row have been looked at. -/
def rowB (next : Nat → Int) (r : List Int) (s : Nat) : Nat → Int
  | 0 => next s
  | j + 1 => bif decide (0 ≤ ix r j) && !s.testBit j then max (rowB next r s j) (ix r j + next (s ||| 2 ^ j)) else rowB next r s j
/-- The best sum of some rows, with a set of columns that are taken. -/
def bst : List (List Int) → Nat → Int
  | [], _ => 0
  | r :: W, s => rowB (bst W) r s r.length
def Small (W : List (List Int)) : Prop := ∀ r ∈ W, ∀ x ∈ r, x ≤ 1073741824
theorem rowB_bnd {next : Nat → Int} {r : List Int} {s : Nat} {B : Int} (hn : ∀ s, 0 ≤ next s ∧ next s ≤ B) (hr : ∀ x ∈ r, x ≤ 1073741824) : ∀ j, j ≤ r.length → 0 ≤ rowB next r s j ∧ rowB next r s j ≤ B + 1073741824
  | 0, _ => by have := hn s; unfold rowB; omega
  | j + 1, h => by
    have ih := rowB_bnd hn hr j (by omega) (s := s)
    have h1 := hn (s ||| 2 ^ j)
    have h2 := hr _ (ix_mem (show j < r.length by omega))
    unfold rowB
    cases decide (0 ≤ ix r j) && !s.testBit j
    · exact ih
    · simp only [cond_true]
      omega
theorem bst_bnd : ∀ (W : List (List Int)), Small W → ∀ s, 0 ≤ bst W s ∧ bst W s ≤ W.length * 1073741824
  | [], _, s => by simp [bst]
  | r :: W, h, s => by
    have ih := bst_bnd W fun r hr => h r (List.mem_cons_of_mem _ hr)
    have := rowB_bnd (s := s) ih (h r (by simp)) r.length (Nat.le_refl _)
    simp only [bst, List.length_cons]
    omega
theorem bst_drop {W : List (List Int)} {i : Nat} (h : i < W.length) (s : Nat) : bst (W.drop i) s = rowB (bst (W.drop (i + 1))) (ix W i) s (ix W i).length := by
  rw [List.drop_eq_getElem_cons h, bst, ix_eq h]
/-- Whether a column is the row's partner. -/
def okW (W : List (List Int)) (r : List Int) (t : Int) (s j : Nat) : Bool := decide (0 ≤ ix r j) && (!s.testBit j && decide (t = ix r j + bst W (s ||| 2 ^ j)))
/-- The least heaviest matching. -/
def hpick : List (List Int) → Nat → List Int
  | [], _ => []
  | r :: W, s => match (List.range r.length).find? (okW W r (bst (r :: W) s) s) with
    | some j => (j : Int) :: hpick W (s ||| 2 ^ j)
    | none => -1 :: hpick W s
theorem find_rng {p : Nat → Bool} {n k : Nat} (hk : k < n) (hn : ∀ q, q < k → p q = false) (hp : p k = true) : (List.range n).find? p = some k := by
  rw [List.find?_eq_some_iff_getElem]
  refine ⟨hp, k, by simpa using hk, by simp, fun j hj => ?_⟩
  simp [hn j hj]
theorem find_rno {p : Nat → Bool} {n : Nat} (hn : ∀ q, q < n → p q = false) : (List.range n).find? p = none := by
  rw [List.find?_eq_none]
  intro x hx
  rw [hn x (List.mem_range.1 hx)]
  decide
theorem hpick_some {W : List (List Int)} {i s k : Nat} (h : i < W.length) (hk : k < (ix W i).length) (hn : ∀ q, q < k → okW (W.drop (i + 1)) (ix W i) (bst (W.drop i) s) s q = false) (hp : okW (W.drop (i + 1)) (ix W i) (bst (W.drop i) s) s k = true) (out : List Int) :
    out ++ hpick (W.drop i) s = (out ++ [(k : Int)]) ++ hpick (W.drop (i + 1)) (s ||| 2 ^ k) := by
  rw [ix_eq h] at *
  rw [List.drop_eq_getElem_cons h] at *
  rw [hpick, find_rng hk hn hp]
  simp
theorem hpick_none {W : List (List Int)} {i s : Nat} (h : i < W.length) (hn : ∀ q, q < (ix W i).length → okW (W.drop (i + 1)) (ix W i) (bst (W.drop i) s) s q = false) (out : List Int) :
    out ++ hpick (W.drop i) s = (out ++ [-1]) ++ hpick (W.drop (i + 1)) s := by
  rw [ix_eq h] at *
  rw [List.drop_eq_getElem_cons h] at *
  rw [hpick, find_rno hn]
  simp
/-- The error of weights. -/
def wErr (W : List (List Int)) : Int :=
  if W.length > 8 ∨ (W.any fun r => decide (r.length > 8)) = true then 4 else
  if (W.any fun r => decide (r.length ≠ (ix W 0).length)) = true then 3 else
  if (W.any fun r => r.any fun x => decide (x < -1) || decide (x > 1073741824)) = true then 2 else 0
def wSum (W : List (List Int)) : Int := if wErr W = 0 then bst W 0 else 0
def wOut (W : List (List Int)) : List Int := if wErr W = 0 then hpick W 0 else []
structure WOk (W : List (List Int)) : Prop where
  len : W.length ≤ 8
  rows : ∀ r ∈ W, r.length ≤ 8
  same : ∀ r ∈ W, r.length = (ix W 0).length
  small : Small W
  least : ∀ r ∈ W, ∀ x ∈ r, -1 ≤ x
theorem wok_of {W : List (List Int)} (h : wErr W = 0) : WOk W := by
  unfold wErr at h
  split at h
  · cases h
  rename_i h1
  split at h
  · cases h
  rename_i h2
  split at h
  · cases h
  rename_i h3
  simp only [not_or, List.any_eq_true, decide_eq_true_eq, not_exists, not_and, Bool.or_eq_true] at h1 h2 h3
  exact ⟨by omega, fun r hr => by have := h1.2 r hr; omega, fun r hr => by have := h2 r hr; omega, fun r hr x hx => by have := (h3 r hr x hx).2; omega, fun r hr x hx => by have := (h3 r hr x hx).1; omega⟩
end Go.Proofs.Ytmmabnoemckdiaa
