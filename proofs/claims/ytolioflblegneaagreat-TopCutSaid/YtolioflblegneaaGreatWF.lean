/- Contracts: boxes. The example's legs: nearest points. -/
import Derived.Test.YtolioflblegneaaGreatWA
set_option maxRecDepth 100000
set_option linter.unusedSimpArgs false
set_option linter.unusedVariables false
namespace Go.Proofs.YtolioflblegneaaGreat
open Go.RowKit
theorem arr30 (K : Nat → Prop) : arrK 0 K 3 = K 0 := by simp [arrK]
theorem arr31 (K : Nat → Prop) : arrK 1 K 3 = K 1 := by simp [arrK]
theorem arr32 (K : Nat → Prop) : arrK 2 K 3 = K 2 := by simp [arrK]
theorem sxg {P Q : Prop} (h : Q) (e : P = Q := by (conv => lhs; simp only [push_cast, ↓branch_true, ↓branch_false, Nat.reduceBEq, Nat.reduceAdd, Nat.reduceMul, Nat.reduceSub, Int.reduceToNat, reduceCtorEq, Int.reduceAdd, Int.reduceEq, Int.reduceLE, Int.reduceLT, Nat.reduceLT, Nat.reduceLeDiff, ↓arr30, ↓arr31, ↓arr32, Int.reduceSub, Int.reduceMul, Int.reduceNeg, Int.reduceBEq, Int.reduceBNe, Int.reduceTDiv, decide_true, decide_false, decide_not, Int.max_def, Int.min_def, ↓reduceIte, ne_eq, Bool.not_true, Bool.not_false])) : P := Eq.mpr e h
structure P3 where
  x : Int
  y : Int
  z : Int
  deriving DecidableEq
instance : Inhabited P3 := ⟨⟨0, 0, 0⟩⟩
structure Bx where
  lo : P3
  hi : P3
  deriving DecidableEq
instance : Inhabited Bx := ⟨⟨⟨0, 0, 0⟩, ⟨0, 0, 0⟩⟩⟩
def cP (p : P3) : List SV := [.v (.int .i64 p.x), .v (.int .i64 p.y), .v (.int .i64 p.z)]
def cX (b : Bx) : List SV := [.v (.int .i64 b.lo.x), .v (.int .i64 b.lo.y), .v (.int .i64 b.lo.z), .v (.int .i64 b.hi.x), .v (.int .i64 b.hi.y), .v (.int .i64 b.hi.z)]
def P3.at (p : P3) : Nat → Int
  | 0 => p.x
  | 1 => p.y
  | _ => p.z
@[push_cast] theorem at0 (p : P3) : p.at 0 = p.x := rfl
@[push_cast] theorem at1 (p : P3) : p.at 1 = p.y := rfl
@[push_cast] theorem at2 (p : P3) : p.at 2 = p.z := rfl
attribute [push_cast] cP cX
theorem coords_pu (p : P3) : Pu Tryz.prog 213 [.a (cP p)] [] (.a (cP p)) := by
  refine pu_of_ex true [] mixed Tryz.call213 Tryz.func213 rfl Tryz.ntmps213 Tryz.results213 (by decide +kernel) rfl rfl rfl ?_
  refine sxq ?_
  try with_reducible exact trivial
theorem ends0_pu (b : Bx) : Pu Tryz.prog 192 [.a (cX b), .v (.int .i64 0)] [] (.t [.v (.int .i64 b.lo.x), .v (.int .i64 b.hi.x)]) := by
  refine pu_of_ex true [] mixed Tryz.call192 Tryz.func192 rfl Tryz.ntmps192 Tryz.results192 (by decide +kernel) rfl rfl rfl ?_
  refine sxq ?_
  try with_reducible exact trivial
  refine qc_c (coords_pu b.lo) rfl [] ?_
  refine sxq ?_
  try with_reducible exact trivial
  refine qc_c (coords_pu b.hi) rfl [] ?_
  refine sxq ?_
  try with_reducible exact trivial
theorem ends1_pu (b : Bx) : Pu Tryz.prog 192 [.a (cX b), .v (.int .i64 1)] [] (.t [.v (.int .i64 b.lo.y), .v (.int .i64 b.hi.y)]) := by
  refine pu_of_ex true [] mixed Tryz.call192 Tryz.func192 rfl Tryz.ntmps192 Tryz.results192 (by decide +kernel) rfl rfl rfl ?_
  refine sxq ?_
  try with_reducible exact trivial
  refine qc_c (coords_pu b.lo) rfl [] ?_
  refine sxq ?_
  try with_reducible exact trivial
  refine qc_c (coords_pu b.hi) rfl [] ?_
  refine sxq ?_
  try with_reducible exact trivial
theorem ends2_pu (b : Bx) : Pu Tryz.prog 192 [.a (cX b), .v (.int .i64 2)] [] (.t [.v (.int .i64 b.lo.z), .v (.int .i64 b.hi.z)]) := by
  refine pu_of_ex true [] mixed Tryz.call192 Tryz.func192 rfl Tryz.ntmps192 Tryz.results192 (by decide +kernel) rfl rfl rfl ?_
  refine sxq ?_
  try with_reducible exact trivial
  refine qc_c (coords_pu b.lo) rfl [] ?_
  refine sxq ?_
  try with_reducible exact trivial
  refine qc_c (coords_pu b.hi) rfl [] ?_
  refine sxq ?_
  try with_reducible exact trivial
def okA (lo hi : Int) : Bool := decide (lo ≤ hi) && decide (-1048576 ≤ lo) && decide (hi ≤ 1048576)
def vxB (b : Bx) : Bool := okA b.lo.x b.hi.x && okA b.lo.y b.hi.y && okA b.lo.z b.hi.z
theorem vx_iff (b : Bx) : vxB b = true ↔ ((b.lo.x ≤ b.hi.x ∧ -1048576 ≤ b.lo.x) ∧ b.hi.x ≤ 1048576) ∧ ((b.lo.y ≤ b.hi.y ∧ -1048576 ≤ b.lo.y) ∧ b.hi.y ≤ 1048576) ∧ (b.lo.z ≤ b.hi.z ∧ -1048576 ≤ b.lo.z) ∧ b.hi.z ≤ 1048576 := by
  simp only [vxB, okA, Bool.and_eq_true, decide_eq_true_eq, and_assoc]
theorem vx_no {b : Bx} (h : ¬ (((b.lo.x ≤ b.hi.x ∧ -1048576 ≤ b.lo.x) ∧ b.hi.x ≤ 1048576) ∧ ((b.lo.y ≤ b.hi.y ∧ -1048576 ≤ b.lo.y) ∧ b.hi.y ≤ 1048576) ∧ (b.lo.z ≤ b.hi.z ∧ -1048576 ≤ b.lo.z) ∧ b.hi.z ≤ 1048576)) : vxB b = false := by
  cases e : vxB b with
  | false => rfl
  | true => exact absurd ((vx_iff b).1 e) h
set_option maxHeartbeats 4000000 in
theorem bvalid_pu (b : Bx) : Pu Tryz.prog 190 [.a (cX b)] [] (.v (.bool (vxB b))) := by
  refine pu_of_ex true [] mixed Tryz.call190 Tryz.func190 rfl Tryz.ntmps190 Tryz.results190 (by decide +kernel) rfl rfl rfl ?_
  refine sxq ?_
  try with_reducible exact trivial
  refine tr_un mixed (by kernel_rfl) ?_
  refine sxq ?_
  try with_reducible exact trivial
  refine sp_c (ends0_pu b) rfl [] ?_
  refine sxq ?_
  try with_reducible exact trivial
  refine ⟨fun h => by rw [vx_no (by omega)], fun h0 => ⟨fun h => by rw [vx_no (by omega)], fun g0 => ⟨fun h => by rw [vx_no (by omega)], fun f0 => ?_⟩⟩⟩
  refine tl_un mixed (by kernel_rfl) ?_
  refine sxq ?_
  try with_reducible exact trivial
  refine sp_c (ends1_pu b) rfl [] ?_
  refine sxq ?_
  try with_reducible exact trivial
  refine ⟨fun h => by rw [vx_no (by omega)], fun h1 => ⟨fun h => by rw [vx_no (by omega)], fun g1 => ⟨fun h => by rw [vx_no (by omega)], fun f1 => ?_⟩⟩⟩
  refine tl_un mixed (by kernel_rfl) ?_
  refine sxq ?_
  try with_reducible exact trivial
  refine sp_c (ends2_pu b) rfl [] ?_
  refine sxq ?_
  try with_reducible exact trivial
  refine ⟨fun h => by rw [vx_no (by omega)], fun h2 => ⟨fun h => by rw [vx_no (by omega)], fun g2 => ⟨fun h => by rw [vx_no (by omega)], fun f2 => ?_⟩⟩⟩
  refine tl_un mixed (by kernel_rfl) ?_
  refine sxq ?_
  try with_reducible exact trivial
  rw [(vx_iff b).2 (by omega)]
def gpA (a b c d : Int) : Int := max (c - b) (a - d)
theorem along0_pu (a b : Bx) (ha : vxB a = true) (hb : vxB b = true) : Pu Tryz.prog 191 [.a (cX a), .a (cX b), .v (.int .i64 0)] [] (.v (.int .i64 (gpA a.lo.x a.hi.x b.lo.x b.hi.x))) := by
  rw [vx_iff] at ha hb
  refine pu_of_ex true [] mixed Tryz.call191 Tryz.func191 rfl Tryz.ntmps191 Tryz.results191 (by decide +kernel) rfl rfl rfl ?_
  refine sxq ?_
  try with_reducible exact trivial
  refine sp_c (ends0_pu a) rfl [] ?_
  refine sxq ?_
  try with_reducible exact trivial
  refine sp_c (ends0_pu b) rfl [] ?_
  refine sxq ?_
  try with_reducible exact trivial
  repeat (with_reducible refine And.intro (by omega) ?_)
  rfl
theorem along1_pu (a b : Bx) (ha : vxB a = true) (hb : vxB b = true) : Pu Tryz.prog 191 [.a (cX a), .a (cX b), .v (.int .i64 1)] [] (.v (.int .i64 (gpA a.lo.y a.hi.y b.lo.y b.hi.y))) := by
  rw [vx_iff] at ha hb
  refine pu_of_ex true [] mixed Tryz.call191 Tryz.func191 rfl Tryz.ntmps191 Tryz.results191 (by decide +kernel) rfl rfl rfl ?_
  refine sxq ?_
  try with_reducible exact trivial
  refine sp_c (ends1_pu a) rfl [] ?_
  refine sxq ?_
  try with_reducible exact trivial
  refine sp_c (ends1_pu b) rfl [] ?_
  refine sxq ?_
  try with_reducible exact trivial
  repeat (with_reducible refine And.intro (by omega) ?_)
  rfl
theorem along2_pu (a b : Bx) (ha : vxB a = true) (hb : vxB b = true) : Pu Tryz.prog 191 [.a (cX a), .a (cX b), .v (.int .i64 2)] [] (.v (.int .i64 (gpA a.lo.z a.hi.z b.lo.z b.hi.z))) := by
  rw [vx_iff] at ha hb
  refine pu_of_ex true [] mixed Tryz.call191 Tryz.func191 rfl Tryz.ntmps191 Tryz.results191 (by decide +kernel) rfl rfl rfl ?_
  refine sxq ?_
  try with_reducible exact trivial
  refine sp_c (ends2_pu a) rfl [] ?_
  refine sxq ?_
  try with_reducible exact trivial
  refine sp_c (ends2_pu b) rfl [] ?_
  refine sxq ?_
  try with_reducible exact trivial
  repeat (with_reducible refine And.intro (by omega) ?_)
  rfl
theorem gpA_range {a b c d : Int} (h1 : -1048576 ≤ a ∧ a ≤ 1048576) (h2 : -1048576 ≤ b ∧ b ≤ 1048576) (h3 : -1048576 ≤ c ∧ c ≤ 1048576) (h4 : -1048576 ≤ d ∧ d ≤ 1048576) : gpA a b c d ≤ 2097152 := by
  unfold gpA; omega
theorem sq_le {n : Int} (h : n ≤ 2097152) : 0 ≤ max 0 n * max 0 n ∧ max 0 n * max 0 n ≤ 4398046511104 := by
  have h0 : 0 ≤ max 0 n := by omega
  have h1 : max 0 n ≤ 2097152 := by omega
  generalize max 0 n = m at *
  have := Int.mul_le_mul h1 h1 h0 (by decide)
  exact ⟨Int.mul_nonneg h0 h0, this⟩
def gx (a b : Bx) : Int := gpA a.lo.x a.hi.x b.lo.x b.hi.x
def gy (a b : Bx) : Int := gpA a.lo.y a.hi.y b.lo.y b.hi.y
def gz (a b : Bx) : Int := gpA a.lo.z a.hi.z b.lo.z b.hi.z
def sqB (a b : Bx) : Int := max 0 (gx a b) * max 0 (gx a b) + max 0 (gy a b) * max 0 (gy a b) + max 0 (gz a b) * max 0 (gz a b)
set_option maxHeartbeats 4000000 in
theorem square_pu (a b : Bx) (ha : vxB a = true) (hb : vxB b = true) : Pu Tryz.prog 156 [.a (cX a), .a (cX b)] [] (.t [.v (.int .i64 (sqB a b)), .v (.int .i64 0)]) := by
  have h0 := along0_pu a b ha hb
  have h1 := along1_pu a b ha hb
  have h2 := along2_pu a b ha hb
  have va := bvalid_pu a
  have vb := bvalid_pu b
  rw [ha] at va
  rw [hb] at vb
  rw [vx_iff] at ha hb
  have sx := sq_le (n := gx a b) (gpA_range (by omega) (by omega) (by omega) (by omega))
  have sy := sq_le (n := gy a b) (gpA_range (by omega) (by omega) (by omega) (by omega))
  have sz := sq_le (n := gz a b) (gpA_range (by omega) (by omega) (by omega) (by omega))
  have e : sqB a b = 0 + max 0 (gx a b) * max 0 (gx a b) + max 0 (gy a b) * max 0 (gy a b) + max 0 (gz a b) * max 0 (gz a b) := by unfold sqB; omega
  rw [e]
  rw [show gpA a.lo.x a.hi.x b.lo.x b.hi.x = gx a b from rfl] at h0
  rw [show gpA a.lo.y a.hi.y b.lo.y b.hi.y = gy a b from rfl] at h1
  rw [show gpA a.lo.z a.hi.z b.lo.z b.hi.z = gz a b from rfl] at h2
  generalize gx a b = X at *
  generalize gy a b = Y at *
  generalize gz a b = Z at *
  refine pu_of_ex true [] mixed Tryz.call156 Tryz.func156 rfl Tryz.ntmps156 Tryz.results156 (by decide +kernel) rfl rfl rfl ?_
  refine sxq ?_
  try with_reducible exact trivial
  refine sp_c (va) rfl [] ?_
  refine sxq ?_
  try with_reducible exact trivial
  refine sp_c (vb) rfl [] ?_
  refine sxq ?_
  try with_reducible exact trivial
  refine tr_un mixed (by kernel_rfl) ?_
  refine sxq ?_
  try with_reducible exact trivial
  refine sp_c (h0) rfl [] ?_
  refine sxq ?_
  try with_reducible exact trivial
  generalize max 0 X * max 0 X = X2 at *
  repeat (with_reducible refine And.intro (by omega) ?_)
  refine tl_un mixed (by kernel_rfl) ?_
  refine sxq ?_
  try with_reducible exact trivial
  refine sp_c (h1) rfl [] ?_
  refine sxq ?_
  try with_reducible exact trivial
  generalize max 0 Y * max 0 Y = Y2 at *
  repeat (with_reducible refine And.intro (by omega) ?_)
  refine tl_un mixed (by kernel_rfl) ?_
  refine sxq ?_
  try with_reducible exact trivial
  refine sp_c (h2) rfl [] ?_
  refine sxq ?_
  try with_reducible exact trivial
  generalize max 0 Z * max 0 Z = Z2 at *
  repeat (with_reducible refine And.intro (by omega) ?_)
  refine tl_un mixed (by kernel_rfl) ?_
  refine sxq ?_
  try with_reducible exact trivial
  try rfl
theorem point_pu (p : P3) : Pu Tryz.prog 193 [.a (cP p)] [] (.a (cP p)) := by
  refine pu_of_ex true [] mixed Tryz.call193 Tryz.func193 rfl Tryz.ntmps193 Tryz.results193 (by decide +kernel) rfl rfl rfl ?_
  refine sxq ?_
  try with_reducible exact trivial
end Go.Proofs.YtolioflblegneaaGreat
namespace Go.Proofs.YtolioflblegneaaGreat
open Go.RowKit
def bx0 : Bx := ⟨⟨50, 50, 100⟩, ⟨350, 50, 100⟩⟩
def bx1 : Bx := ⟨⟨50, 80, 100⟩, ⟨350, 80, 100⟩⟩
attribute [push_cast] bx0 bx1
theorem mx50 : max (50 : Int) 50 = 50 := rfl
theorem mx100 : max (100 : Int) 100 = 100 := rfl
set_option maxHeartbeats 4000000 in
theorem nearest_pu : Pu Tryz.prog 157 [.a (cX bx0), .a (cX bx1)] [] (.t [.a (cP ⟨50, 50, 100⟩), .a (cP ⟨50, 80, 100⟩), .v (.int .i64 0)]) := by
  have va := bvalid_pu bx0
  have vb := bvalid_pu bx1
  rw [show vxB bx0 = true by decide +kernel] at va
  rw [show vxB bx1 = true by decide +kernel] at vb
  refine pu_of_ex true [(15, .alt [(0, .alt [(1, .one 2 (.one 3 (.one 4 (.one 5 (.one 6 .fin))))), (2, .one 1 (.one 3 (.one 4 (.one 5 (.one 6 .fin)))))]), (2, .one 0 (.one 1 (.one 3 (.one 4 (.one 5 (.one 6 .fin))))))])] mixed Tryz.call157 Tryz.func157 rfl Tryz.ntmps157 Tryz.results157 (by decide +kernel) rfl rfl rfl ?_
  refine sxq ?_
  try with_reducible exact trivial
  refine sp_c (va) rfl [] ?_
  refine sxq ?_
  try with_reducible exact trivial
  refine sp_c (vb) rfl [] ?_
  refine sxq ?_
  try with_reducible exact trivial
  refine tr_un mixed (by kernel_rfl) ?_
  refine sxq ?_
  try with_reducible exact trivial
  refine sp_c (ends0_pu bx0) rfl [] ?_
  refine sxq ?_
  try with_reducible exact trivial
  refine sp_c (ends0_pu bx1) rfl [] ?_
  refine sxq ?_
  try with_reducible exact trivial
  refine tl_un mixed (by kernel_rfl) ?_
  refine sxq ?_
  try with_reducible exact trivial
  refine sp_c (ends1_pu bx0) rfl [] ?_
  refine sxq ?_
  try with_reducible exact trivial
  refine sp_c (ends1_pu bx1) rfl [] ?_
  refine sxq ?_
  try with_reducible exact trivial
  refine tl_un mixed (by kernel_rfl) ?_
  refine sxq ?_
  try with_reducible exact trivial
  refine sp_c (ends2_pu bx0) rfl [] ?_
  refine sxq ?_
  try with_reducible exact trivial
  refine sp_c (ends2_pu bx1) rfl [] ?_
  refine sxq ?_
  try with_reducible exact trivial
  refine tl_un mixed (by kernel_rfl) ?_
  simp only [push_cast, ↓branch_true, ↓branch_false, Nat.reduceBEq, Nat.reduceAdd, Nat.reduceMul, Nat.reduceSub, Int.reduceToNat, reduceCtorEq, Int.reduceAdd, Int.reduceEq, Int.reduceLE, Int.reduceLT, Nat.reduceLT, Nat.reduceLeDiff, mx50, mx100]
  repeat' (with_reducible apply And.intro)
  all_goals
    refine sp_c (point_pu ⟨50, 50, 100⟩) rfl [] ?_
    refine sxq ?_
    try with_reducible exact trivial
    refine sp_c (point_pu ⟨50, 80, 100⟩) rfl [] ?_
    refine sxq ?_
    try with_reducible exact trivial
end Go.Proofs.YtolioflblegneaaGreat
