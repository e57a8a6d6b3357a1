/- Contracts: shapes of bars. -/
import Derived.Test.YtgbldceimdjblaaV
set_option maxRecDepth 100000
set_option linter.unusedSimpArgs false
set_option linter.unusedVariables false
namespace Go.Proofs.Ytgbldceimdjblaa
open Go.RowKit
def rLg (l : List (Int × Int)) : Ob := ⟨84, true, .row 2 1 (fun _ => l.length) (fun _ => 0) (fun _ k => [.v (.int .i64 (ix l k).1), .v (.int .u8 (ix l k).2)])⟩
attribute [push_cast] rLg
/-- The legs of a code. -/
def legsE (c : Int) : List (Int × Int) :=
  if c = 0 then [(0, 120)] else if c = 11 then [(0, 120), (1, 121)] else if c = 21 then [(0, 89), (1, 120), (2, 121)] else if c = 26 then [(0, 120), (1, 121), (2, 120)] else if c = 31 then [(0, 120), (1, 121), (2, 122)]
  else if c = 41 then [(0, 120), (1, 121), (2, 120), (3, 89), (4, 120)] else if c = 51 then [(2, 89), (0, 120), (1, 121), (0, 88), (1, 89), (2, 120)] else if c = 98 then [(0, 122), (1, 89), (2, 120), (1, 121), (0, 122)] else []
/-- The cells of a list of legs. -/
def lgC : List (Int × Int) → List SV
  | [] => []
  | x :: l => .v (.int .i64 x.1) :: .v (.int .u8 x.2) :: lgC l
theorem leg_row {rl : List Nat} : ∀ {l : List (Int × Int)} {k : Nat}, k < l.length → mtL rl [.v (.int .i64 (ix l k).1), .v (.int .u8 (ix l k).2)] (List.take 2 (List.drop (k * 2) (lgC l)))
  | [], k, h => by simp at h
  | x :: l, 0, _ => by simp [ix, lgC, mtL, mt]
  | x :: l, k + 1, h => by
    have e : ix (x :: l) (k + 1) = ix l k := by unfold ix; simp
    rw [e, show (k + 1) * 2 = k * 2 + 1 + 1 by omega, lgC, List.drop_succ_cons, List.drop_succ_cons]
    exact leg_row (by simpa using h)
theorem legs_sp (c : Int) : Sp Try.prog 63 [.v (.int .i64 c)] [] (fun r H => r = .s 0 0 0 (legsE c).length (legsE c).length 2 ∧ H = [rLg (legsE c)]) := by
  refine sp_weak ?_
  refine sp_of_ex true [] mixed Try.call63 Try.func63 rfl Try.ntmps63 Try.results63 (by decide +kernel) rfl ?_
  simp only [push_cast, ↓branch_true, ↓branch_false, Nat.reduceBEq, Nat.reduceAdd, Nat.reduceMul, Nat.reduceSub, Int.reduceToNat, reduceCtorEq, branch_decide, branch_not, branch_beq, branch_bne]
  refine ⟨fun h0 => ?_, fun h0 => ?_⟩
  · have e : legsE c = [(0, 120)] := by simp [legsE, h0]
    rw [e]
    refine ⟨by omega, _, _, [0], ?_, ?_, ?_, rfl, rfl⟩
    · simp only [push_cast, ↓branch_true, ↓branch_false, Nat.reduceBEq, Nat.reduceAdd, Nat.reduceMul, Nat.reduceSub, Int.reduceToNat, reduceCtorEq, branch_decide, branch_not, branch_beq, branch_bne]
    · kernel_rfl
    · simp only [push_cast, ↓branch_true, ↓branch_false, Nat.reduceBEq, Nat.reduceAdd, Nat.reduceMul, Nat.reduceSub, Int.reduceToNat, reduceCtorEq, branch_decide, branch_not, branch_beq, branch_bne]
      intro i hi k hk
      obtain rfl : k = 0 := by simp at hk; omega
      exact ⟨rfl, by ((simp only [push_cast, ↓branch_true, ↓branch_false, Nat.reduceBEq, Nat.reduceAdd, Nat.reduceMul, Nat.reduceSub, Int.reduceToNat, reduceCtorEq, branch_decide, branch_not, branch_beq, branch_bne]); try rfl)⟩
  refine ⟨fun h1 => ?_, fun h1 => ?_⟩
  · have e : legsE c = [(0, 120), (1, 121)] := by simp [legsE, h1]
    rw [e]
    refine ⟨by omega, _, _, [0], ?_, ?_, ?_, rfl, rfl⟩
    · simp only [push_cast, ↓branch_true, ↓branch_false, Nat.reduceBEq, Nat.reduceAdd, Nat.reduceMul, Nat.reduceSub, Int.reduceToNat, reduceCtorEq, branch_decide, branch_not, branch_beq, branch_bne]
    · kernel_rfl
    · simp only [push_cast, ↓branch_true, ↓branch_false, Nat.reduceBEq, Nat.reduceAdd, Nat.reduceMul, Nat.reduceSub, Int.reduceToNat, reduceCtorEq, branch_decide, branch_not, branch_beq, branch_bne]
      refine fun i hi k hk => (leg_row (l := [(0, 120), (1, 121)]) hk)
  refine ⟨fun h2 => ?_, fun h2 => ?_⟩
  · have e : legsE c = [(0, 89), (1, 120), (2, 121)] := by simp [legsE, h2]
    rw [e]
    refine ⟨by omega, _, _, [0], ?_, ?_, ?_, rfl, rfl⟩
    · simp only [push_cast, ↓branch_true, ↓branch_false, Nat.reduceBEq, Nat.reduceAdd, Nat.reduceMul, Nat.reduceSub, Int.reduceToNat, reduceCtorEq, branch_decide, branch_not, branch_beq, branch_bne]
    · kernel_rfl
    · simp only [push_cast, ↓branch_true, ↓branch_false, Nat.reduceBEq, Nat.reduceAdd, Nat.reduceMul, Nat.reduceSub, Int.reduceToNat, reduceCtorEq, branch_decide, branch_not, branch_beq, branch_bne]
      refine fun i hi k hk => (leg_row (l := [(0, 89), (1, 120), (2, 121)]) hk)
  refine ⟨fun h3 => ?_, fun h3 => ?_⟩
  · have e : legsE c = [(0, 120), (1, 121), (2, 120)] := by simp [legsE, h3]
    rw [e]
    refine ⟨by omega, _, _, [0], ?_, ?_, ?_, rfl, rfl⟩
    · simp only [push_cast, ↓branch_true, ↓branch_false, Nat.reduceBEq, Nat.reduceAdd, Nat.reduceMul, Nat.reduceSub, Int.reduceToNat, reduceCtorEq, branch_decide, branch_not, branch_beq, branch_bne]
    · kernel_rfl
    · simp only [push_cast, ↓branch_true, ↓branch_false, Nat.reduceBEq, Nat.reduceAdd, Nat.reduceMul, Nat.reduceSub, Int.reduceToNat, reduceCtorEq, branch_decide, branch_not, branch_beq, branch_bne]
      refine fun i hi k hk => (leg_row (l := [(0, 120), (1, 121), (2, 120)]) hk)
  refine ⟨fun h4 => ?_, fun h4 => ?_⟩
  · have e : legsE c = [(0, 120), (1, 121), (2, 122)] := by simp [legsE, h4]
    rw [e]
    refine ⟨by omega, _, _, [0], ?_, ?_, ?_, rfl, rfl⟩
    · simp only [push_cast, ↓branch_true, ↓branch_false, Nat.reduceBEq, Nat.reduceAdd, Nat.reduceMul, Nat.reduceSub, Int.reduceToNat, reduceCtorEq, branch_decide, branch_not, branch_beq, branch_bne]
    · kernel_rfl
    · simp only [push_cast, ↓branch_true, ↓branch_false, Nat.reduceBEq, Nat.reduceAdd, Nat.reduceMul, Nat.reduceSub, Int.reduceToNat, reduceCtorEq, branch_decide, branch_not, branch_beq, branch_bne]
      refine fun i hi k hk => (leg_row (l := [(0, 120), (1, 121), (2, 122)]) hk)
  refine ⟨fun h5 => ?_, fun h5 => ?_⟩
  · have e : legsE c = [(0, 120), (1, 121), (2, 120), (3, 89), (4, 120)] := by simp [legsE, h5]
    rw [e]
    refine ⟨by omega, _, _, [0], ?_, ?_, ?_, rfl, rfl⟩
    · simp only [push_cast, ↓branch_true, ↓branch_false, Nat.reduceBEq, Nat.reduceAdd, Nat.reduceMul, Nat.reduceSub, Int.reduceToNat, reduceCtorEq, branch_decide, branch_not, branch_beq, branch_bne]
    · kernel_rfl
    · simp only [push_cast, ↓branch_true, ↓branch_false, Nat.reduceBEq, Nat.reduceAdd, Nat.reduceMul, Nat.reduceSub, Int.reduceToNat, reduceCtorEq, branch_decide, branch_not, branch_beq, branch_bne]
      refine fun i hi k hk => (leg_row (l := [(0, 120), (1, 121), (2, 120), (3, 89), (4, 120)]) hk)
  refine ⟨fun h6 => ?_, fun h6 => ?_⟩
  · have e : legsE c = [(2, 89), (0, 120), (1, 121), (0, 88), (1, 89), (2, 120)] := by simp [legsE, h6]
    rw [e]
    refine ⟨by omega, _, _, [0], ?_, ?_, ?_, rfl, rfl⟩
    · simp only [push_cast, ↓branch_true, ↓branch_false, Nat.reduceBEq, Nat.reduceAdd, Nat.reduceMul, Nat.reduceSub, Int.reduceToNat, reduceCtorEq, branch_decide, branch_not, branch_beq, branch_bne]
    · kernel_rfl
    · simp only [push_cast, ↓branch_true, ↓branch_false, Nat.reduceBEq, Nat.reduceAdd, Nat.reduceMul, Nat.reduceSub, Int.reduceToNat, reduceCtorEq, branch_decide, branch_not, branch_beq, branch_bne]
      refine fun i hi k hk => (leg_row (l := [(2, 89), (0, 120), (1, 121), (0, 88), (1, 89), (2, 120)]) hk)
  refine ⟨fun h7 => ?_, fun h7 => ?_⟩
  · have e : legsE c = [(0, 122), (1, 89), (2, 120), (1, 121), (0, 122)] := by simp [legsE, h7]
    rw [e]
    refine ⟨by omega, _, _, [0], ?_, ?_, ?_, rfl, rfl⟩
    · simp only [push_cast, ↓branch_true, ↓branch_false, Nat.reduceBEq, Nat.reduceAdd, Nat.reduceMul, Nat.reduceSub, Int.reduceToNat, reduceCtorEq, branch_decide, branch_not, branch_beq, branch_bne]
    · kernel_rfl
    · simp only [push_cast, ↓branch_true, ↓branch_false, Nat.reduceBEq, Nat.reduceAdd, Nat.reduceMul, Nat.reduceSub, Int.reduceToNat, reduceCtorEq, branch_decide, branch_not, branch_beq, branch_bne]
      refine fun i hi k hk => (leg_row (l := [(0, 122), (1, 89), (2, 120), (1, 121), (0, 122)]) hk)
  have e : legsE c = [] := by simp [legsE, h0, h1, h2, h3, h4, h5, h6, h7]
  rw [e]
  refine ⟨_, _, [0], ?_, ?_, ?_, rfl, rfl⟩
  · simp only [push_cast, ↓branch_true, ↓branch_false, Nat.reduceBEq, Nat.reduceAdd, Nat.reduceMul, Nat.reduceSub, Int.reduceToNat, reduceCtorEq, branch_decide, branch_not, branch_beq, branch_bne]
  · kernel_rfl
  · simp only [push_cast, ↓branch_true, ↓branch_false, Nat.reduceBEq, Nat.reduceAdd, Nat.reduceMul, Nat.reduceSub, Int.reduceToNat, reduceCtorEq, branch_decide, branch_not, branch_beq, branch_bne]
theorem legs_dim (c : Int) : ∀ k, k < (legsE c).length → 0 ≤ (ix (legsE c) k).1 ∧ (ix (legsE c) k).1 ≤ 4 := by
  unfold legsE
  repeat' split
  all_goals decide
theorem legs_len (c : Int) : (legsE c).length ≤ 6 := by
  unfold legsE
  repeat' split
  all_goals decide
/-- The greatest dimension of some legs. -/
def mostE (l : List (Int × Int)) : Nat → Int
  | 0 => -1
  | k + 1 => max (mostE l k) (ix l k).1
theorem mostE_in (c : Int) : ∀ k, k ≤ (legsE c).length → -1 ≤ mostE (legsE c) k ∧ mostE (legsE c) k ≤ 4
  | 0, _ => by simp [mostE]
  | k + 1, h => by
    have h1 := mostE_in c k (by omega)
    have h2 := legs_dim c k (by omega)
    simp only [mostE]
    omega
theorem mostE_ge (l : List (Int × Int)) : ∀ n k, k < n → (ix l k).1 ≤ mostE l n
  | n + 1, k, h => by
    simp only [mostE]
    by_cases e : k = n
    · subst e; omega
    · have := mostE_ge l n k (by omega)
      omega
def mostC (c : Int) : Int := mostE (legsE c) (legsE c).length
theorem dims_pu (c : Int) : Pu Try.prog 51 [.v (.int .i64 c)] [] (.t [.v (.int .i64 (if mostC c < 0 then 0 else mostC c + 1)), .v (.int .i64 (if mostC c < 0 then 11 else 0))]) := by
  refine pu_of_ex true [] mixed Try.call51 Try.func51 rfl Try.ntmps51 Try.results51 (by decide +kernel) rfl rfl rfl ?_
  simp only [push_cast, ↓branch_true, ↓branch_false, Nat.reduceBEq, Nat.reduceAdd, Nat.reduceMul, Nat.reduceSub, Int.reduceToNat, reduceCtorEq, branch_decide, branch_not, branch_beq, branch_bne]
  refine sp_at (legs_sp c) [] rfl ?_ ?_ ?_
  · simp only [push_cast, ↓branch_true, ↓branch_false, Nat.reduceBEq, Nat.reduceAdd, Nat.reduceMul, Nat.reduceSub, Int.reduceToNat, reduceCtorEq, branch_decide, branch_not, branch_beq, branch_bne]
  · simp only [push_cast, ↓branch_true, ↓branch_false, Nat.reduceBEq, Nat.reduceAdd, Nat.reduceMul, Nat.reduceSub, Int.reduceToNat, reduceCtorEq, branch_decide, branch_not, branch_beq, branch_bne]
  rintro r0 H1 ⟨rfl, rfl⟩
  simp only [push_cast, ↓branch_true, ↓branch_false, Nat.reduceBEq, Nat.reduceAdd, Nat.reduceMul, Nat.reduceSub, Int.reduceToNat, reduceCtorEq, branch_decide, branch_not, branch_beq, branch_bne]
  have h6 := legs_len c
  refine tr_loop mixed (by kernel_rfl) (fun (k : Nat) => [(10, .v (.int .i64 k)), (9, .v (.int .i64 (legsE c).length)), (8, .s 0 0 0 (legsE c).length (legsE c).length 2), (4, .v (.int .i64 (mostE (legsE c) k)))])
    (fun _ => [rLg (legsE c)]) (fun k => k ≤ (legsE c).length) (fun k => (legsE c).length - k) 0 (Nat.zero_le _) (Mt.wk (rl := [0]) ⟨by kernel_rfl, ?_, ?_⟩) ?_
  · simp only [push_cast, ↓branch_true, ↓branch_false, Nat.reduceBEq, Nat.reduceAdd, Nat.reduceMul, Nat.reduceSub, Int.reduceToNat, reduceCtorEq, branch_decide, branch_not, branch_beq, branch_bne]
    rfl
  · simp only [push_cast, ↓branch_true, ↓branch_false, Nat.reduceBEq, Nat.reduceAdd, Nat.reduceMul, Nat.reduceSub, Int.reduceToNat, reduceCtorEq, branch_decide, branch_not, branch_beq, branch_bne]
  intro k hk
  have hm := mostE_in c k hk
  simp only [push_cast, ↓branch_true, ↓branch_false, Nat.reduceBEq, Nat.reduceAdd, Nat.reduceMul, Nat.reduceSub, Int.reduceToNat, reduceCtorEq, branch_decide, branch_not, branch_beq, branch_bne]
  refine ⟨fun h => ?_, fun h => ?_⟩
  · have hd := legs_dim c k (by omega)
    repeat (with_reducible refine And.intro (by omega) ?_)
    refine lpK_normal (k + 1) [0] (by omega) (by omega) (by kernel_rfl) ?_ ?_
    · simp only [push_cast, ↓branch_true, ↓branch_false, Nat.reduceBEq, Nat.reduceAdd, Nat.reduceMul, Nat.reduceSub, Int.reduceToNat, reduceCtorEq, branch_decide, branch_not, branch_beq, branch_bne]
      rfl
    · simp only [push_cast, ↓branch_true, ↓branch_false, Nat.reduceBEq, Nat.reduceAdd, Nat.reduceMul, Nat.reduceSub, Int.reduceToNat, reduceCtorEq, branch_decide, branch_not, branch_beq, branch_bne]
  · obtain rfl : k = (legsE c).length := by omega
    have e : mostE (legsE c) (legsE c).length = mostC c := rfl
    rw [e] at hm ⊢
    refine ⟨fun h2 => by simp [h2], fun h2 => ?_⟩
    repeat (with_reducible refine And.intro (by omega) ?_)
    simp [h2]
def sizesL : List Int := [6, 8, 10, 12, 16, 20, 25, 32, 40]
def sizeB (d : Int) : Bool := sizesL.any fun y => decide (d = y)
def intC : List Int → List SV
  | [] => []
  | x :: l => .v (.int .i64 x) :: intC l
theorem int_row {rl : List Nat} : ∀ {l : List Int} {k : Nat}, k < l.length → mtL rl [.v (.int .i64 (ix l k))] (List.take 1 (List.drop (k * 1) (intC l)))
  | [], k, h => by simp at h
  | x :: l, 0, _ => by simp [ix, intC, mtL, mt]
  | x :: l, k + 1, h => by
    have e : ix (x :: l) (k + 1) = ix l k := by unfold ix; simp
    rw [e, show (k + 1) * 1 = k * 1 + 1 by omega, intC, List.drop_succ_cons]
    exact int_row (by simpa using h)
theorem sizes_sp : Sp Try.prog 64 [] [] (fun r H => r = .s 0 0 0 9 9 1 ∧ H = [rInt 3 sizesL]) := by
  refine sp_weak ?_
  refine sp_of_ex true [] mixed Try.call64 Try.func64 rfl Try.ntmps64 Try.results64 (by decide +kernel) rfl ?_
  simp only [push_cast, ↓branch_true, ↓branch_false, Nat.reduceBEq, Nat.reduceAdd, Nat.reduceMul, Nat.reduceSub, Int.reduceToNat, reduceCtorEq, branch_decide, branch_not, branch_beq, branch_bne]
  refine ⟨by omega, _, _, [0], ?_, ?_, ?_, rfl, rfl⟩
  · simp only [push_cast, ↓branch_true, ↓branch_false, Nat.reduceBEq, Nat.reduceAdd, Nat.reduceMul, Nat.reduceSub, Int.reduceToNat, reduceCtorEq, branch_decide, branch_not, branch_beq, branch_bne]
  · kernel_rfl
  · simp only [push_cast, ↓branch_true, ↓branch_false, Nat.reduceBEq, Nat.reduceAdd, Nat.reduceMul, Nat.reduceSub, Int.reduceToNat, reduceCtorEq, branch_decide, branch_not, branch_beq, branch_bne]
    exact fun i hi => ⟨by decide, fun k hk => int_row (l := sizesL) hk⟩
theorem size_pu (d : Int) : Pu Try.prog 52 [.v (.int .i64 d)] [] (.v (.bool (sizeB d))) := by
  refine pu_of_ex true [] mixed Try.call52 Try.func52 rfl Try.ntmps52 Try.results52 (by decide +kernel) rfl rfl rfl ?_
  simp only [push_cast, ↓branch_true, ↓branch_false, Nat.reduceBEq, Nat.reduceAdd, Nat.reduceMul, Nat.reduceSub, Int.reduceToNat, reduceCtorEq, branch_decide, branch_not, branch_beq, branch_bne]
  refine sp_at sizes_sp [] rfl ?_ ?_ ?_
  · simp only [push_cast, ↓branch_true, ↓branch_false, Nat.reduceBEq, Nat.reduceAdd, Nat.reduceMul, Nat.reduceSub, Int.reduceToNat, reduceCtorEq, branch_decide, branch_not, branch_beq, branch_bne]
  · simp only [push_cast, ↓branch_true, ↓branch_false, Nat.reduceBEq, Nat.reduceAdd, Nat.reduceMul, Nat.reduceSub, Int.reduceToNat, reduceCtorEq, branch_decide, branch_not, branch_beq, branch_bne]
  rintro r0 H1 ⟨rfl, rfl⟩
  simp only [push_cast, ↓branch_true, ↓branch_false, Nat.reduceBEq, Nat.reduceAdd, Nat.reduceMul, Nat.reduceSub, Int.reduceToNat, reduceCtorEq, branch_decide, branch_not, branch_beq, branch_bne]
  refine sp_call (containsV_pu sizesL d 9 (by decide)) rfl [0] rfl ?_ ?_ ?_
  · simp only [push_cast, ↓branch_true, ↓branch_false, Nat.reduceBEq, Nat.reduceAdd, Nat.reduceMul, Nat.reduceSub, Int.reduceToNat, reduceCtorEq, branch_decide, branch_not, branch_beq, branch_bne]
    rfl
  · simp only [push_cast, ↓branch_true, ↓branch_false, Nat.reduceBEq, Nat.reduceAdd, Nat.reduceMul, Nat.reduceSub, Int.reduceToNat, reduceCtorEq, branch_decide, branch_not, branch_beq, branch_bne]
  simp only [push_cast, ↓branch_true, ↓branch_false, Nat.reduceBEq, Nat.reduceAdd, Nat.reduceMul, Nat.reduceSub, Int.reduceToNat, reduceCtorEq, branch_decide, branch_not, branch_beq, branch_bne]
  rfl
structure Br where
  mark : ByteArray
  size : Int
  count : Int
  code : Int
  dims : List Int
  cap : Nat
instance : Inhabited Br := ⟨⟨⟨#[]⟩, 0, 0, 0, [], 0⟩⟩
def cBr (j i : Nat) (b : Br) : List SV := [.v (.string b.mark), .v (.int .i64 b.size), .v (.int .i64 b.count), .v (.int .i64 b.code), .s j i 0 b.dims.length b.cap 1]
attribute [push_cast] cBr
def dimsOk : List Int → Int → Bool
  | [], _ => true
  | n :: l, r => decide (1 ≤ n) && decide (n ≤ r) && dimsOk l (r - n)
def vBar (b : Br) : Bool := decide (0 ≤ mostC b.code) && nameB b.mark && sizeB b.size && decide (1 ≤ b.count) && decide (b.count ≤ 1000) && decide ((b.dims.length : Int) = mostC b.code + 1) && dimsOk b.dims 262144
end Go.Proofs.Ytgbldceimdjblaa
