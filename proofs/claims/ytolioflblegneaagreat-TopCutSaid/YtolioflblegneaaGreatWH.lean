/- The example's bars: their path, turned. The example's turn. The example's turn of points. The example's runs: valid, and counted. -/
import Derived.Test.YtolioflblegneaaGreatWF
import Derived.Test.YtolioflblegneaaGreatWC
set_option maxRecDepth 100000
set_option linter.unusedSimpArgs false
set_option linter.unusedVariables false
namespace Go.Proofs.YtolioflblegneaaGreat
open Go.RowKit
def sA : ByteArray := ⟨#[97]⟩
def b0 : Ba := ⟨sA, 10, 2, 0, [300]⟩
def l0 : List Ba := [b0]
def oPts (l : List P3) (cap : Nat) : Ob := ⟨128, false, .row 3 1 (fun _ => l.length) (fun _ => cap) (fun _ k => cP (ix l k))⟩
def rPts (l : List P3) : Ob := ⟨128, true, .row 3 1 (fun _ => l.length) (fun _ => 0) (fun _ k => cP (ix l k))⟩
attribute [push_cast] oPts rPts
def pth : List P3 := [⟨0, 0, 0⟩, ⟨300, 0, 0⟩]
@[push_cast] theorem ix_c0 {α : Type} [Inhabited α] {a : α} {l : List α} : ix (a :: l) 0 = a := rfl
@[push_cast] theorem ix_c1 {α : Type} [Inhabited α] {a b : α} {l : List α} : ix (a :: b :: l) 1 = b := rfl
@[push_cast] theorem l0_len : l0.length = 1 := rfl
@[push_cast] theorem l0_ix : ix l0 0 = b0 := rfl
attribute [push_cast] b0
theorem b0_ok : baB b0 = true := by decide +kernel
theorem b0_at : ix l0 0 = b0 := rfl
theorem sch0 : schB l0 = true := by decide +kernel
set_option maxHeartbeats 4000000 in
theorem spath_sp (cp : Nat) : Sp Tryz.prog 228 [.a (cBa 0 0 cp b0)] [rDs l0] (fun r H => ∃ cap, 2 ≤ cap ∧ r = .t [.s 1 0 0 2 cap 3, .v (.int .i64 0)] ∧ H = [rDs l0, oPts pth cap]) := by
  have hv := svalid_pu l0 0 cp (by decide) (by decide) (by decide)
  rw [b0_at, b0_ok] at hv
  refine sp_weak ?_
  refine sp_of_ex true [] mixed Tryz.call228 Tryz.func228 rfl Tryz.ntmps228 Tryz.results228 (by decide +kernel) rfl ?_
  refine sxq ?_
  try with_reducible exact trivial
  refine sp_c (hv) rfl [0] ?_
  refine sxq ?_
  try with_reducible exact trivial
  refine sp_at (legs_sp 0) [] (by kernel_rfl) ?_ ?_ ?_
  · refine sxq ?_
    try with_reducible exact trivial
  · refine sxq ?_
    try with_reducible exact trivial
  rintro _ _ ⟨rfl, rfl⟩
  rw [show legsT 0 = [(0, 120)] from rfl]
  refine sxq ?_
  try with_reducible exact trivial
  refine tr_un mixed (by kernel_rfl) ?_
  refine sxq ?_
  try with_reducible exact trivial
  refine Or.inr fun cap hcap => ?_
  refine tl_un mixed (by kernel_rfl) ?_
  refine sxq ?_
  try with_reducible exact trivial
  refine ⟨_, _, [0, 7], ?_, by kernel_rfl, ?_, cap, hcap, rfl, rfl⟩
  · refine sxq ?_
    try with_reducible exact trivial
  · refine sxq ?_
    try with_reducible exact trivial
    intro _ _
    refine ⟨by decide, fun k hk => ?_⟩
    have hk : k < 2 := hk
    rcases k with _ | _ | k
    · exact ⟨rfl, rfl, rfl, trivial⟩
    · exact ⟨rfl, rfl, rfl, trivial⟩
    · omega
def smP (p : P3) : Prop := (-1048576 ≤ p.x ∧ p.x ≤ 1048576) ∧ (-1048576 ≤ p.y ∧ p.y ≤ 1048576) ∧ -1048576 ≤ p.z ∧ p.z ≤ 1048576
instance (p : P3) : Decidable (smP p) := by unfold smP; infer_instance
theorem isplace_pu (p : P3) (m : Int) (hp : smP p) (h : 1048576 ≤ m ∧ m ≤ 2097152) : Pu Tryz.prog 217 [.a (cP p), .v (.int .i64 m)] [] (.v (.bool true)) := by
  obtain ⟨⟨h1, h2⟩, ⟨h3, h4⟩, h5, h6⟩ := hp
  refine pu_of_ex true [] mixed Tryz.call217 Tryz.func217 rfl Tryz.ntmps217 Tryz.results217 (by decide +kernel) rfl rfl rfl ?_
  refine sxq ?_
  try with_reducible exact trivial
  refine ⟨by omega, fun _ => ?_, fun h => absurd ?_ h⟩
  · rw [decide_eq_true (by omega)]
  · omega
def mvP (p s : P3) : P3 := ⟨p.x + s.x, p.y + s.y, p.z + s.z⟩
theorem plus_pu (p s : P3) (hp : smP p) (hs : smP s) : Pu Tryz.prog 219 [.a (cP p), .a (cP s), .v (.int .i64 1)] [] (.a (cP (mvP p s))) := by
  obtain ⟨⟨h1, h2⟩, ⟨h3, h4⟩, h5, h6⟩ := hp
  obtain ⟨⟨k1, k2⟩, ⟨k3, k4⟩, k5, k6⟩ := hs
  refine pu_of_ex true [] mixed Tryz.call219 Tryz.func219 rfl Tryz.ntmps219 Tryz.results219 (by decide +kernel) rfl rfl rfl ?_
  refine sxq ?_
  try with_reducible exact trivial
  repeat (with_reducible refine And.intro (by omega) ?_)
  simp only [mvP, Int.one_mul]
end Go.Proofs.YtolioflblegneaaGreat
namespace Go.Proofs.YtolioflblegneaaGreat
open Go.RowKit
theorem unit1_pu : Pu Tryz.prog 243 [.v (.int .i64 1)] [] (.a [.v (.int .i64 1), .v (.int .i64 0), .v (.int .i64 0)]) := by
  refine pu_of_ex true [] mixed Tryz.call243 Tryz.func243 rfl Tryz.ntmps243 Tryz.results243 (by decide +kernel) rfl rfl rfl ?_
  refine sxg ?_
  try with_reducible exact trivial
theorem unit2_pu : Pu Tryz.prog 243 [.v (.int .i64 2)] [] (.a [.v (.int .i64 0), .v (.int .i64 1), .v (.int .i64 0)]) := by
  refine pu_of_ex true [] mixed Tryz.call243 Tryz.func243 rfl Tryz.ntmps243 Tryz.results243 (by decide +kernel) rfl rfl rfl ?_
  refine sxg ?_
  try with_reducible exact trivial
theorem cross_pu : Pu Tryz.prog 244 [.a [.v (.int .i64 1), .v (.int .i64 0), .v (.int .i64 0)], .a [.v (.int .i64 0), .v (.int .i64 1), .v (.int .i64 0)]] [] (.a [.v (.int .i64 0), .v (.int .i64 0), .v (.int .i64 1)]) := by
  refine pu_of_ex true [] mixed Tryz.call244 Tryz.func244 rfl Tryz.ntmps244 Tryz.results244 (by decide +kernel) rfl rfl rfl ?_
  refine sxg ?_
  try with_reducible exact trivial
theorem axis_pu (n : Int) (h : n = 1 ∨ n = 2) : Pu Tryz.prog 227 [.v (.int .i64 n)] [] (.v (.bool true)) := by
  rcases h with rfl | rfl
  · refine pu_of_ex true [] mixed Tryz.call227 Tryz.func227 rfl Tryz.ntmps227 Tryz.results227 (by decide +kernel) rfl rfl rfl ?_
    refine sxg ?_
    try with_reducible exact trivial
  · refine pu_of_ex true [] mixed Tryz.call227 Tryz.func227 rfl Tryz.ntmps227 Tryz.results227 (by decide +kernel) rfl rfl rfl ?_
    refine sxg ?_
    try with_reducible exact trivial
def tn : List SV := [.v (.int .i64 1), .v (.int .i64 2)]
attribute [push_cast] tn
theorem fvalid_pu : Pu Tryz.prog 216 [.a tn] [] (.v (.bool true)) := by
  refine pu_of_ex true [] mixed Tryz.call216 Tryz.func216 rfl Tryz.ntmps216 Tryz.results216 (by decide +kernel) rfl rfl rfl ?_
  refine sxg ?_
  try with_reducible exact trivial
  refine sp_c (axis_pu 1 (.inl rfl)) rfl [] ?_
  refine sxg ?_
  try with_reducible exact trivial
  refine sp_c (axis_pu 2 (.inr rfl)) rfl [] ?_
  refine sxg ?_
  try with_reducible exact trivial
def o3 (x y z : Int) : Ob := ⟨268, false, .st [.v (.int .i64 x), .v (.int .i64 y), .v (.int .i64 z)]⟩
def oTn : Ob := ⟨133, false, .st tn⟩
def v9 : List SV := [.v (.int .i64 1), .v (.int .i64 0), .v (.int .i64 0), .v (.int .i64 0), .v (.int .i64 1), .v (.int .i64 0), .v (.int .i64 0), .v (.int .i64 0), .v (.int .i64 1)]
def z9 : List SV := [.v (.int .i64 0), .v (.int .i64 0), .v (.int .i64 0), .v (.int .i64 0), .v (.int .i64 0), .v (.int .i64 0), .v (.int .i64 0), .v (.int .i64 0), .v (.int .i64 0)]
attribute [push_cast] o3 oTn v9 z9
set_option maxHeartbeats 2000000 in
theorem columns_pu : Pu Tryz.prog 241 [.a tn] [] (.a v9) := by
  refine pu_of_ex true [(1, .jn (.one 0 (.one 3 (.alt [(1, .alt [(2, .alt [(4, .alt [(5, .alt [(6, .one 7 (.one 8 (.one 9 .fin))), (7, .one 6 (.one 8 (.one 9 .fin)))]), (6, .alt [(5, .one 7 (.one 8 (.one 9 .fin))), (7, .one 5 (.one 8 (.one 9 .fin)))]), (7, .alt [(5, .one 6 (.one 8 (.one 9 .fin))), (6, .one 5 (.one 8 (.one 9 .fin)))])]), (6, .alt [(4, .alt [(5, .one 7 (.one 8 (.one 9 .fin))), (7, .one 5 (.one 8 (.one 9 .fin)))]), (7, .one 4 (.one 5 (.one 8 (.one 9 .fin))))]), (7, .alt [(4, .alt [(5, .one 6 (.one 8 (.one 9 .fin))), (6, .one 5 (.one 8 (.one 9 .fin)))]), (6, .one 4 (.one 5 (.one 8 (.one 9 .fin))))])]), (4, .alt [(2, .alt [(5, .alt [(6, .one 7 (.one 8 (.one 9 .fin))), (7, .one 6 (.one 8 (.one 9 .fin)))]), (6, .alt [(5, .one 7 (.one 8 (.one 9 .fin))), (7, .one 5 (.one 8 (.one 9 .fin)))]), (7, .alt [(5, .one 6 (.one 8 (.one 9 .fin))), (6, .one 5 (.one 8 (.one 9 .fin)))])]), (6, .alt [(2, .alt [(5, .one 7 (.one 8 (.one 9 .fin))), (7, .one 5 (.one 8 (.one 9 .fin)))]), (7, .one 2 (.one 5 (.one 8 (.one 9 .fin))))]), (7, .alt [(2, .alt [(5, .one 6 (.one 8 (.one 9 .fin))), (6, .one 5 (.one 8 (.one 9 .fin)))]), (6, .one 2 (.one 5 (.one 8 (.one 9 .fin))))])]), (6, .alt [(2, .alt [(4, .alt [(5, .one 7 (.one 8 (.one 9 .fin))), (7, .one 5 (.one 8 (.one 9 .fin)))]), (7, .one 4 (.one 5 (.one 8 (.one 9 .fin))))]), (4, .alt [(2, .alt [(5, .one 7 (.one 8 (.one 9 .fin))), (7, .one 5 (.one 8 (.one 9 .fin)))]), (7, .one 2 (.one 5 (.one 8 (.one 9 .fin))))]), (7, .alt [(2, .one 4 (.one 5 (.one 8 (.one 9 .fin)))), (4, .one 2 (.one 5 (.one 8 (.one 9 .fin))))])]), (7, .alt [(2, .alt [(4, .alt [(5, .one 6 (.one 8 (.one 9 .fin))), (6, .one 5 (.one 8 (.one 9 .fin)))]), (6, .one 4 (.one 5 (.one 8 (.one 9 .fin))))]), (4, .alt [(2, .alt [(5, .one 6 (.one 8 (.one 9 .fin))), (6, .one 5 (.one 8 (.one 9 .fin)))]), (6, .one 2 (.one 5 (.one 8 (.one 9 .fin))))]), (6, .alt [(2, .one 4 (.one 5 (.one 8 (.one 9 .fin)))), (4, .one 2 (.one 5 (.one 8 (.one 9 .fin))))])])]), (4, .alt [(1, .alt [(2, .alt [(5, .alt [(6, .one 7 (.one 8 (.one 9 .fin))), (7, .one 6 (.one 8 (.one 9 .fin)))]), (6, .alt [(5, .one 7 (.one 8 (.one 9 .fin))), (7, .one 5 (.one 8 (.one 9 .fin)))]), (7, .alt [(5, .one 6 (.one 8 (.one 9 .fin))), (6, .one 5 (.one 8 (.one 9 .fin)))])]), (6, .alt [(2, .alt [(5, .one 7 (.one 8 (.one 9 .fin))), (7, .one 5 (.one 8 (.one 9 .fin)))]), (7, .one 2 (.one 5 (.one 8 (.one 9 .fin))))]), (7, .alt [(2, .alt [(5, .one 6 (.one 8 (.one 9 .fin))), (6, .one 5 (.one 8 (.one 9 .fin)))]), (6, .one 2 (.one 5 (.one 8 (.one 9 .fin))))])]), (6, .alt [(1, .alt [(2, .alt [(5, .one 7 (.one 8 (.one 9 .fin))), (7, .one 5 (.one 8 (.one 9 .fin)))]), (7, .one 2 (.one 5 (.one 8 (.one 9 .fin))))]), (7, .one 1 (.one 2 (.one 5 (.one 8 (.one 9 .fin)))))]), (7, .alt [(1, .alt [(2, .alt [(5, .one 6 (.one 8 (.one 9 .fin))), (6, .one 5 (.one 8 (.one 9 .fin)))]), (6, .one 2 (.one 5 (.one 8 (.one 9 .fin))))]), (6, .one 1 (.one 2 (.one 5 (.one 8 (.one 9 .fin)))))])]), (6, .alt [(1, .alt [(2, .alt [(4, .alt [(5, .one 7 (.one 8 (.one 9 .fin))), (7, .one 5 (.one 8 (.one 9 .fin)))]), (7, .one 4 (.one 5 (.one 8 (.one 9 .fin))))]), (4, .alt [(2, .alt [(5, .one 7 (.one 8 (.one 9 .fin))), (7, .one 5 (.one 8 (.one 9 .fin)))]), (7, .one 2 (.one 5 (.one 8 (.one 9 .fin))))]), (7, .alt [(2, .one 4 (.one 5 (.one 8 (.one 9 .fin)))), (4, .one 2 (.one 5 (.one 8 (.one 9 .fin))))])]), (4, .alt [(1, .alt [(2, .alt [(5, .one 7 (.one 8 (.one 9 .fin))), (7, .one 5 (.one 8 (.one 9 .fin)))]), (7, .one 2 (.one 5 (.one 8 (.one 9 .fin))))]), (7, .one 1 (.one 2 (.one 5 (.one 8 (.one 9 .fin)))))]), (7, .alt [(1, .alt [(2, .one 4 (.one 5 (.one 8 (.one 9 .fin)))), (4, .one 2 (.one 5 (.one 8 (.one 9 .fin))))]), (4, .one 1 (.one 2 (.one 5 (.one 8 (.one 9 .fin)))))])]), (7, .alt [(1, .alt [(2, .alt [(4, .alt [(5, .one 6 (.one 8 (.one 9 .fin))), (6, .one 5 (.one 8 (.one 9 .fin)))]), (6, .one 4 (.one 5 (.one 8 (.one 9 .fin))))]), (4, .alt [(2, .alt [(5, .one 6 (.one 8 (.one 9 .fin))), (6, .one 5 (.one 8 (.one 9 .fin)))]), (6, .one 2 (.one 5 (.one 8 (.one 9 .fin))))]), (6, .alt [(2, .one 4 (.one 5 (.one 8 (.one 9 .fin)))), (4, .one 2 (.one 5 (.one 8 (.one 9 .fin))))])]), (4, .alt [(1, .alt [(2, .alt [(5, .one 6 (.one 8 (.one 9 .fin))), (6, .one 5 (.one 8 (.one 9 .fin)))]), (6, .one 2 (.one 5 (.one 8 (.one 9 .fin))))]), (6, .one 1 (.one 2 (.one 5 (.one 8 (.one 9 .fin)))))]), (6, .alt [(1, .alt [(2, .one 4 (.one 5 (.one 8 (.one 9 .fin)))), (4, .one 2 (.one 5 (.one 8 (.one 9 .fin))))]), (4, .one 1 (.one 2 (.one 5 (.one 8 (.one 9 .fin)))))])])])))), (2, .alt [(0, .alt [(1, .alt [(2, .one 3 (.one 4 (.one 5 (.one 6 .fin)))), (3, .one 2 (.one 4 (.one 5 (.one 6 .fin))))]), (2, .alt [(1, .one 3 (.one 4 (.one 5 (.one 6 .fin)))), (3, .alt [(1, .one 4 (.one 5 (.one 6 .fin))), (4, .one 1 (.one 5 (.one 6 .fin)))])]), (3, .alt [(1, .one 2 (.one 4 (.one 5 (.one 6 .fin)))), (2, .alt [(1, .one 4 (.one 5 (.one 6 .fin))), (4, .one 1 (.one 5 (.one 6 .fin)))])])]), (1, .alt [(0, .alt [(2, .one 3 (.one 4 (.one 5 (.one 6 .fin)))), (3, .one 2 (.one 4 (.one 5 (.one 6 .fin))))]), (2, .alt [(0, .one 3 (.one 4 (.one 5 (.one 6 .fin)))), (3, .alt [(0, .one 4 (.one 5 (.one 6 .fin))), (4, .one 0 (.one 5 (.one 6 .fin)))])]), (3, .alt [(0, .one 2 (.one 4 (.one 5 (.one 6 .fin)))), (2, .alt [(0, .one 4 (.one 5 (.one 6 .fin))), (4, .one 0 (.one 5 (.one 6 .fin)))])])]), (2, .alt [(0, .alt [(1, .one 3 (.one 4 (.one 5 (.one 6 .fin)))), (3, .alt [(1, .one 4 (.one 5 (.one 6 .fin))), (4, .one 1 (.one 5 (.one 6 .fin)))])]), (1, .alt [(0, .one 3 (.one 4 (.one 5 (.one 6 .fin)))), (3, .alt [(0, .one 4 (.one 5 (.one 6 .fin))), (4, .one 0 (.one 5 (.one 6 .fin)))])]), (3, .alt [(0, .alt [(1, .one 4 (.one 5 (.one 6 .fin))), (4, .one 1 (.one 5 (.one 6 .fin)))]), (1, .alt [(0, .one 4 (.one 5 (.one 6 .fin))), (4, .one 0 (.one 5 (.one 6 .fin)))]), (4, .alt [(0, .one 1 (.one 5 (.one 6 .fin))), (1, .one 0 (.one 5 (.one 6 .fin)))])])]), (3, .alt [(0, .alt [(1, .one 2 (.one 4 (.one 5 (.one 6 .fin)))), (2, .alt [(1, .one 4 (.one 5 (.one 6 .fin))), (4, .one 1 (.one 5 (.one 6 .fin)))])]), (1, .alt [(0, .one 2 (.one 4 (.one 5 (.one 6 .fin)))), (2, .alt [(0, .one 4 (.one 5 (.one 6 .fin))), (4, .one 0 (.one 5 (.one 6 .fin)))])]), (2, .alt [(0, .alt [(1, .one 4 (.one 5 (.one 6 .fin))), (4, .one 1 (.one 5 (.one 6 .fin)))]), (1, .alt [(0, .one 4 (.one 5 (.one 6 .fin))), (4, .one 0 (.one 5 (.one 6 .fin)))]), (4, .alt [(0, .one 1 (.one 5 (.one 6 .fin))), (1, .one 0 (.one 5 (.one 6 .fin)))])])])])] mixed Tryz.call241 Tryz.func241 rfl Tryz.ntmps241 Tryz.results241 (by decide +kernel) rfl rfl rfl ?_
  refine sxg ?_
  try with_reducible exact trivial
  refine ⟨[(3, .p 2 0 0), (4, .p 3 0 0), (1, .p 0 0 0), (2, .p 1 0 0)], [oTn, ⟨306, false, .st z9⟩, o3 1 0 0, o3 0 1 0], ?_, ?_⟩
  · refine sxg ?_
    try with_reducible exact trivial
    repeat' (first | (with_reducible apply And.intro) | (refine sp_call (args := [.v (.int .i64 1)]) unit1_pu rfl [] rfl (by · (simp only [push_cast, ↓branch_true, ↓branch_false, Nat.reduceBEq, Nat.reduceAdd, Nat.reduceMul, Nat.reduceSub, Int.reduceToNat, reduceCtorEq, Int.reduceAdd, Int.reduceEq, Int.reduceLE, Int.reduceLT, Nat.reduceLT, Nat.reduceLeDiff, ↓arr30, ↓arr31, ↓arr32, Int.reduceSub, Int.reduceMul, Int.reduceNeg, Int.reduceBEq, Int.reduceBNe, Int.reduceTDiv, decide_true, decide_false, decide_not, Int.max_def, Int.min_def, ↓reduceIte, ne_eq, Bool.not_true, Bool.not_false])) (by · (simp only [push_cast, ↓branch_true, ↓branch_false, Nat.reduceBEq, Nat.reduceAdd, Nat.reduceMul, Nat.reduceSub, Int.reduceToNat, reduceCtorEq, Int.reduceAdd, Int.reduceEq, Int.reduceLE, Int.reduceLT, Nat.reduceLT, Nat.reduceLeDiff, ↓arr30, ↓arr31, ↓arr32, Int.reduceSub, Int.reduceMul, Int.reduceNeg, Int.reduceBEq, Int.reduceBNe, Int.reduceTDiv, decide_true, decide_false, decide_not, Int.max_def, Int.min_def, ↓reduceIte, ne_eq, Bool.not_true, Bool.not_false])) ?_; (simp only [push_cast, ↓branch_true, ↓branch_false, Nat.reduceBEq, Nat.reduceAdd, Nat.reduceMul, Nat.reduceSub, Int.reduceToNat, reduceCtorEq, Int.reduceAdd, Int.reduceEq, Int.reduceLE, Int.reduceLT, Nat.reduceLT, Nat.reduceLeDiff, ↓arr30, ↓arr31, ↓arr32, Int.reduceSub, Int.reduceMul, Int.reduceNeg, Int.reduceBEq, Int.reduceBNe, Int.reduceTDiv, decide_true, decide_false, decide_not, Int.max_def, Int.min_def, ↓reduceIte, ne_eq, Bool.not_true, Bool.not_false])) | (refine sp_call (args := [.v (.int .i64 2)]) unit2_pu rfl [] rfl (by · (simp only [push_cast, ↓branch_true, ↓branch_false, Nat.reduceBEq, Nat.reduceAdd, Nat.reduceMul, Nat.reduceSub, Int.reduceToNat, reduceCtorEq, Int.reduceAdd, Int.reduceEq, Int.reduceLE, Int.reduceLT, Nat.reduceLT, Nat.reduceLeDiff, ↓arr30, ↓arr31, ↓arr32, Int.reduceSub, Int.reduceMul, Int.reduceNeg, Int.reduceBEq, Int.reduceBNe, Int.reduceTDiv, decide_true, decide_false, decide_not, Int.max_def, Int.min_def, ↓reduceIte, ne_eq, Bool.not_true, Bool.not_false])) (by · (simp only [push_cast, ↓branch_true, ↓branch_false, Nat.reduceBEq, Nat.reduceAdd, Nat.reduceMul, Nat.reduceSub, Int.reduceToNat, reduceCtorEq, Int.reduceAdd, Int.reduceEq, Int.reduceLE, Int.reduceLT, Nat.reduceLT, Nat.reduceLeDiff, ↓arr30, ↓arr31, ↓arr32, Int.reduceSub, Int.reduceMul, Int.reduceNeg, Int.reduceBEq, Int.reduceBNe, Int.reduceTDiv, decide_true, decide_false, decide_not, Int.max_def, Int.min_def, ↓reduceIte, ne_eq, Bool.not_true, Bool.not_false])) ?_; (simp only [push_cast, ↓branch_true, ↓branch_false, Nat.reduceBEq, Nat.reduceAdd, Nat.reduceMul, Nat.reduceSub, Int.reduceToNat, reduceCtorEq, Int.reduceAdd, Int.reduceEq, Int.reduceLE, Int.reduceLT, Nat.reduceLT, Nat.reduceLeDiff, ↓arr30, ↓arr31, ↓arr32, Int.reduceSub, Int.reduceMul, Int.reduceNeg, Int.reduceBEq, Int.reduceBNe, Int.reduceTDiv, decide_true, decide_false, decide_not, Int.max_def, Int.min_def, ↓reduceIte, ne_eq, Bool.not_true, Bool.not_false])))
    all_goals first
      | (refine Mt.wk (rl := [0, 1, 2, 3]) ⟨by kernel_rfl, ?_, ?_⟩ <;> (simp only [push_cast, ↓branch_true, ↓branch_false, Nat.reduceBEq, Nat.reduceAdd, Nat.reduceMul, Nat.reduceSub, Int.reduceToNat, reduceCtorEq, Int.reduceAdd, Int.reduceEq, Int.reduceLE, Int.reduceLT, Nat.reduceLT, Nat.reduceLeDiff, ↓arr30, ↓arr31, ↓arr32, Int.reduceSub, Int.reduceMul, Int.reduceNeg, Int.reduceBEq, Int.reduceBNe, Int.reduceTDiv, decide_true, decide_false, decide_not, Int.max_def, Int.min_def, ↓reduceIte, ne_eq, Bool.not_true, Bool.not_false]) <;> done)
      | (refine Mt.wk (rl := [0, 1, 3, 2]) ⟨by kernel_rfl, ?_, ?_⟩ <;> (simp only [push_cast, ↓branch_true, ↓branch_false, Nat.reduceBEq, Nat.reduceAdd, Nat.reduceMul, Nat.reduceSub, Int.reduceToNat, reduceCtorEq, Int.reduceAdd, Int.reduceEq, Int.reduceLE, Int.reduceLT, Nat.reduceLT, Nat.reduceLeDiff, ↓arr30, ↓arr31, ↓arr32, Int.reduceSub, Int.reduceMul, Int.reduceNeg, Int.reduceBEq, Int.reduceBNe, Int.reduceTDiv, decide_true, decide_false, decide_not, Int.max_def, Int.min_def, ↓reduceIte, ne_eq, Bool.not_true, Bool.not_false]) <;> done)
  simp only [jnK]
  refine sxg ?_
  try with_reducible exact trivial
  repeat' (first | (with_reducible apply And.intro) | (refine sp_call cross_pu rfl [] rfl (by · (simp only [push_cast, ↓branch_true, ↓branch_false, Nat.reduceBEq, Nat.reduceAdd, Nat.reduceMul, Nat.reduceSub, Int.reduceToNat, reduceCtorEq, Int.reduceAdd, Int.reduceEq, Int.reduceLE, Int.reduceLT, Nat.reduceLT, Nat.reduceLeDiff, ↓arr30, ↓arr31, ↓arr32, Int.reduceSub, Int.reduceMul, Int.reduceNeg, Int.reduceBEq, Int.reduceBNe, Int.reduceTDiv, decide_true, decide_false, decide_not, Int.max_def, Int.min_def, ↓reduceIte, ne_eq, Bool.not_true, Bool.not_false])) (by · (simp only [push_cast, ↓branch_true, ↓branch_false, Nat.reduceBEq, Nat.reduceAdd, Nat.reduceMul, Nat.reduceSub, Int.reduceToNat, reduceCtorEq, Int.reduceAdd, Int.reduceEq, Int.reduceLE, Int.reduceLT, Nat.reduceLT, Nat.reduceLeDiff, ↓arr30, ↓arr31, ↓arr32, Int.reduceSub, Int.reduceMul, Int.reduceNeg, Int.reduceBEq, Int.reduceBNe, Int.reduceTDiv, decide_true, decide_false, decide_not, Int.max_def, Int.min_def, ↓reduceIte, ne_eq, Bool.not_true, Bool.not_false])) ?_; (simp only [push_cast, ↓branch_true, ↓branch_false, Nat.reduceBEq, Nat.reduceAdd, Nat.reduceMul, Nat.reduceSub, Int.reduceToNat, reduceCtorEq, Int.reduceAdd, Int.reduceEq, Int.reduceLE, Int.reduceLT, Nat.reduceLT, Nat.reduceLeDiff, ↓arr30, ↓arr31, ↓arr32, Int.reduceSub, Int.reduceMul, Int.reduceNeg, Int.reduceBEq, Int.reduceBNe, Int.reduceTDiv, decide_true, decide_false, decide_not, Int.max_def, Int.min_def, ↓reduceIte, ne_eq, Bool.not_true, Bool.not_false])))
end Go.Proofs.YtolioflblegneaaGreat
namespace Go.Proofs.YtolioflblegneaaGreat
open Go.RowKit
set_option maxHeartbeats 4000000 in
theorem image_pu (n : Int) (h : n = 0 ∨ n = 300) : Pu Tryz.prog 238 [.a tn, .a [.v (.int .i64 n), .v (.int .i64 0), .v (.int .i64 0)]] [] (.a [.v (.int .i64 n), .v (.int .i64 0), .v (.int .i64 0)]) := by
  rcases h with rfl | rfl
  all_goals
    refine pu_of_ex true [(6, .pre [1, 3] [0, 1, 2, 3, 4, 5, 6, 7, 8, 9, 10, 11, 12, 13, 14, 15, 16, 17, 18, 19, 20, 21, 22, 23, 24] (.one 25 .fin))] mixed Tryz.call238 Tryz.func238 rfl Tryz.ntmps238 Tryz.results238 (by decide +kernel) rfl rfl rfl ?_
    refine sxg ?_
    try with_reducible exact trivial
    refine sp_c (columns_pu) rfl [] ?_
    refine sxg ?_
    try with_reducible exact trivial
    refine tr_un mixed (by kernel_rfl) ?_
    refine sxg ?_
    try with_reducible exact trivial
    refine tl_un mixed (by kernel_rfl) ?_
    refine sxg ?_
    try with_reducible exact trivial
    refine tl_un mixed (by kernel_rfl) ?_
    refine sxg ?_
    try with_reducible exact trivial
    refine tl_un mixed (by kernel_rfl) ?_
    refine sxg ?_
    try with_reducible exact trivial
theorem placed_pu (n : Int) (h : n = 0 ∨ n = 300) : Pu Tryz.prog 234 [.a tn, .a [.v (.int .i64 0), .v (.int .i64 0), .v (.int .i64 0)], .a [.v (.int .i64 n), .v (.int .i64 0), .v (.int .i64 0)]] [] (.a [.v (.int .i64 n), .v (.int .i64 0), .v (.int .i64 0)]) := by
  have hi := image_pu n h
  rcases h with rfl | rfl
  all_goals
    refine pu_of_ex true [] mixed Tryz.call234 Tryz.func234 rfl Tryz.ntmps234 Tryz.results234 (by decide +kernel) rfl rfl rfl ?_
    refine sxg ?_
    try with_reducible exact trivial
    refine sp_c (hi) rfl [] ?_
    refine sxg ?_
    try with_reducible exact trivial
set_option maxHeartbeats 4000000 in
theorem near1_pu (c : Nat) : Pu Tryz.prog 233 [.s 0 0 0 1 c 3] [rPts [⟨0, 0, 0⟩]] (.v (.bool true)) := by
  refine pu_of_ex true [] mixed Tryz.call233 Tryz.func233 rfl Tryz.ntmps233 Tryz.results233 (by decide +kernel) rfl rfl rfl ?_
  refine sxg ?_
  try with_reducible exact trivial
  repeat (first | (refine tr_un mixed (by kernel_rfl) ?_; (simp only [push_cast, ↓branch_true, ↓branch_false, Nat.reduceBEq, Nat.reduceAdd, Nat.reduceMul, Nat.reduceSub, Int.reduceToNat, reduceCtorEq, Int.reduceAdd, Int.reduceEq, Int.reduceLE, Int.reduceLT, Nat.reduceLT, Nat.reduceLeDiff, ↓arr30, ↓arr31, ↓arr32, Int.reduceSub, Int.reduceMul, Int.reduceNeg, Int.reduceBEq, Int.reduceBNe, Int.reduceTDiv, decide_true, decide_false, decide_not, Int.max_def, Int.min_def, ↓reduceIte, ne_eq, Bool.not_true, Bool.not_false])) | (refine tl_un mixed (by kernel_rfl) ?_; (simp only [push_cast, ↓branch_true, ↓branch_false, Nat.reduceBEq, Nat.reduceAdd, Nat.reduceMul, Nat.reduceSub, Int.reduceToNat, reduceCtorEq, Int.reduceAdd, Int.reduceEq, Int.reduceLE, Int.reduceLT, Nat.reduceLT, Nat.reduceLeDiff, ↓arr30, ↓arr31, ↓arr32, Int.reduceSub, Int.reduceMul, Int.reduceNeg, Int.reduceBEq, Int.reduceBNe, Int.reduceTDiv, decide_true, decide_false, decide_not, Int.max_def, Int.min_def, ↓reduceIte, ne_eq, Bool.not_true, Bool.not_false])))
@[push_cast] theorem pth_len : pth.length = 2 := rfl
@[push_cast] theorem pth_0 : ix pth 0 = ⟨0, 0, 0⟩ := rfl
@[push_cast] theorem pth_1 : ix pth 1 = ⟨300, 0, 0⟩ := rfl
set_option maxHeartbeats 4000000 in
theorem near2_pu (c : Nat) : Pu Tryz.prog 233 [.s 0 0 0 2 c 3] [rPts pth] (.v (.bool true)) := by
  refine pu_of_ex true [] mixed Tryz.call233 Tryz.func233 rfl Tryz.ntmps233 Tryz.results233 (by decide +kernel) rfl rfl rfl ?_
  refine sxg ?_
  try with_reducible exact trivial
  repeat (first | (refine tr_un mixed (by kernel_rfl) ?_; (simp only [push_cast, ↓branch_true, ↓branch_false, Nat.reduceBEq, Nat.reduceAdd, Nat.reduceMul, Nat.reduceSub, Int.reduceToNat, reduceCtorEq, Int.reduceAdd, Int.reduceEq, Int.reduceLE, Int.reduceLT, Nat.reduceLT, Nat.reduceLeDiff, ↓arr30, ↓arr31, ↓arr32, Int.reduceSub, Int.reduceMul, Int.reduceNeg, Int.reduceBEq, Int.reduceBNe, Int.reduceTDiv, decide_true, decide_false, decide_not, Int.max_def, Int.min_def, ↓reduceIte, ne_eq, Bool.not_true, Bool.not_false])) | (refine tl_un mixed (by kernel_rfl) ?_; (simp only [push_cast, ↓branch_true, ↓branch_false, Nat.reduceBEq, Nat.reduceAdd, Nat.reduceMul, Nat.reduceSub, Int.reduceToNat, reduceCtorEq, Int.reduceAdd, Int.reduceEq, Int.reduceLE, Int.reduceLT, Nat.reduceLT, Nat.reduceLeDiff, ↓arr30, ↓arr31, ↓arr32, Int.reduceSub, Int.reduceMul, Int.reduceNeg, Int.reduceBEq, Int.reduceBNe, Int.reduceTDiv, decide_true, decide_false, decide_not, Int.max_def, Int.min_def, ↓reduceIte, ne_eq, Bool.not_true, Bool.not_false])))
set_option maxHeartbeats 4000000 in
theorem fpath_sp (c : Nat) : Sp Tryz.prog 229 [.a tn, .a [.v (.int .i64 0), .v (.int .i64 0), .v (.int .i64 0)], .s 0 0 0 2 c 3] [rPts pth] (fun r H => ∃ cap, 2 ≤ cap ∧ r = .t [.s 1 0 0 2 cap 3, .v (.int .i64 0)] ∧ H = [rPts pth, oPts pth cap]) := by
  refine sp_weak ?_
  refine sp_of_ex true [] mixed Tryz.call229 Tryz.func229 rfl Tryz.ntmps229 Tryz.results229 (by decide +kernel) rfl ?_
  refine sxg ?_
  try with_reducible exact trivial
  refine sp_c (fvalid_pu) rfl [] ?_
  refine sxg ?_
  try with_reducible exact trivial
  refine sp_call (near1_pu 1) rfl [3] rfl ?_ ?_ ?_
  · refine sxg ?_
    try with_reducible exact trivial
  · refine sxg ?_
    try with_reducible exact trivial
    intro _ _ k hk
    obtain rfl : k = 0 := by omega
    exact ⟨rfl, rfl, rfl, trivial⟩
  refine sxg ?_
  try with_reducible exact trivial
  refine sp_c (near2_pu c) rfl [0] ?_
  refine sxg ?_
  try with_reducible exact trivial
  refine tr_un mixed (by kernel_rfl) ?_
  refine sxg ?_
  try with_reducible exact trivial
  refine sp_c (placed_pu 0 (.inl rfl)) rfl [] ?_
  refine sxg ?_
  try with_reducible exact trivial
  intro cap hcap
  refine tl_un mixed (by kernel_rfl) ?_
  refine sxg ?_
  try with_reducible exact trivial
  refine sp_c (placed_pu 300 (.inr rfl)) rfl [] ?_
  refine sxg ?_
  try with_reducible exact trivial
  refine Or.inr fun cap2 hcap2 => ?_
  refine tl_un mixed (by kernel_rfl) ?_
  refine sxg ?_
  try with_reducible exact trivial
  refine ⟨_, _, [0, 9], ?_, by kernel_rfl, ?_, cap2, hcap2, rfl, rfl⟩
  · refine sxg ?_
    try with_reducible exact trivial
  · refine sxg ?_
    try with_reducible exact trivial
    intro _ _ k hk
    rcases k with _ | _ | k
    · exact ⟨rfl, rfl, rfl, trivial⟩
    · exact ⟨rfl, rfl, rfl, trivial⟩
    · omega
end Go.Proofs.YtolioflblegneaaGreat
namespace Go.Proofs.YtolioflblegneaaGreat
open Go.RowKit
def cRn : List SV := [.v (.string sA), .v (.int .i64 1), .v (.int .i64 2), .v (.int .i64 50), .v (.int .i64 50), .v (.int .i64 100), .v (.int .i64 0), .v (.int .i64 30), .v (.int .i64 0), .v (.int .i64 2)]
def rRn : Ob := ⟨135, true, .row 10 1 (fun _ => 1) (fun _ => 0) (fun _ _ => cRn)⟩
attribute [push_cast] cRn rRn
def c0 : Nat → Nat := fun _ => 1
attribute [push_cast] c0 mvP
set_option maxHeartbeats 4000000 in
theorem turned_sp (c : Nat) : Sp Tryz.prog 218 [.s 0 0 0 1 c 5, .a cRn] [rBa 1 l0 c0, rDs l0] (fun r H => ∃ cap, 2 ≤ cap ∧ r = .s 2 0 0 2 cap 3 ∧ H = [rBa 1 l0 c0, rDs l0, oPts pth cap]) := by
  have hf := lfind_pu l0 c0 c sA (by decide)
  rw [show idxB (nmE sA) l0 0 = 0 by decide +kernel] at hf
  refine sp_weak ?_
  refine sp_of_ex true [] mixed Tryz.call218 Tryz.func218 rfl Tryz.ntmps218 Tryz.results218 (by decide +kernel) rfl ?_
  refine sxg ?_
  try with_reducible exact trivial
  refine sp_c (hf) rfl [0, 1] ?_
  refine sxg ?_
  try with_reducible exact trivial
  refine sp_at (spath_sp 1) [1] (by kernel_rfl) ?_ ?_ ?_
  · refine sxg ?_
    try with_reducible exact trivial
  · refine sxg ?_
    try with_reducible exact trivial
  rintro _ _ ⟨cap, hcap, rfl, rfl⟩
  refine sxg ?_
  try with_reducible exact trivial
  refine sp_at (fpath_sp cap) [3] (by kernel_rfl) ?_ ?_ ?_
  · refine sxg ?_
    try with_reducible exact trivial
  · refine sxg ?_
    try with_reducible exact trivial
    try omega
  rintro _ _ ⟨cap2, hcap2, rfl, rfl⟩
  refine sxg ?_
  try with_reducible exact trivial
  refine ⟨_, _, [0, 1, 4], ?_, by kernel_rfl, ?_, cap2, hcap2, rfl, rfl⟩
  · refine sxg ?_
    try with_reducible exact trivial
  · refine sxg ?_
    try with_reducible exact trivial
theorem agg_three {P : Program} {t : TypeId} (k : IntKind) (f0 f1 f2 : Field) (h1 : P.eqGuardType P.depth t = false) (h2 : P.underlying t = some (.struct (P.fieldsOf t))) (h3 : P.stoodInHeld t = false)
    (h4 : (P.fieldsOf t).toList = [f0, f1, f2]) (n0 : (f0.name == "_") = false) (n1 : (f1.name == "_") = false) (n2 : (f2.name == "_") = false) (o0 : f0.offset = 0) (o1 : f1.offset = 1) (o2 : f2.offset = 2) (t0 : P.underlying f0.type = some (.int k)) (t1 : P.underlying f1.type = some (.int k)) (t2 : P.underlying f2.type = some (.int k))
    (c0 : P.cellsOf f0.type = 1) (c1 : P.cellsOf f1.type = 1) (c2 : P.cellsOf f2.type = 1) (a b c d e f : Int) : AggEq P t [.int k a, .int k b, .int k c] [.int k d, .int k e, .int k f] := by
  intro op x y w
  refine ⟨run_eqGuard_agg w op t x y _ _ h1, ?_⟩
  simp only [Op.equal, Op.maxDepth]
  rw [run_equalIn_agg w 9999 t _ _ h2 h3, h4]
  have n0 : f0.name ≠ "_" := by simpa using n0
  have n1 : f1.name ≠ "_" := by simpa using n1
  have n2 : f2.name ≠ "_" := by simpa using n2
  simp only [Op.eqFields, n0, n1, n2, ne_eq, not_false_eq_true, if_true, Sem.run_bind, o0, o1, o2]
  have p : ∀ (f : TypeId) (xs : Array Value) (off : Nat) (v : Value), P.underlying f = some (.int k) → xs[off]? = some v → (part f xs off).run P w = .ok v w := fun f xs off v hu hx => by
    simp [part, isAgg, Sem.run_bind, run_underlying hu, hx, Result.andThen, Sem.run_pure]
  rw [p _ _ _ (.int k a) t0 rfl]
  simp only [Result.andThen_ok]
  rw [p _ _ _ (.int k d) t0 rfl]
  simp only [Result.andThen_ok, run_equalIn_int w 9998 _ _ _ a d t0]
  by_cases q : a = d
  · subst q
    simp only [beq_self_eq_true, Bool.not_true, Bool.false_eq_true, if_false, Sem.run_bind]
    rw [p _ _ _ (.int k b) t1 rfl]
    simp only [Result.andThen_ok]
    rw [p _ _ _ (.int k e) t1 rfl]
    simp only [Result.andThen_ok, run_equalIn_int w 9998 _ _ _ b e t1]
    by_cases q : b = e
    · subst q
      simp only [beq_self_eq_true, Bool.not_true, Bool.false_eq_true, if_false, Sem.run_bind]
      rw [p _ _ _ (.int k c) t2 rfl]
      simp only [Result.andThen_ok]
      rw [p _ _ _ (.int k f) t2 rfl]
      simp only [Result.andThen_ok, run_equalIn_int w 9998 _ _ _ c f t2]
      by_cases q : c = f
      · subst q
        simp [Sem.run_pure, eqLB]
      · have : (c == f) = false := by simpa using q
        simp [Sem.run_pure, eqLB, this]
    · have : (b == e) = false := by simpa using q
      simp [Sem.run_pure, eqLB, this]
  · have : (a == d) = false := by simpa using q
    simp [Sem.run_pure, eqLB, this]
theorem agg128 (a b c d e f : Int) : AggEq Tryz.prog 128 [.int .i64 a, .int .i64 b, .int .i64 c] [.int .i64 d, .int .i64 e, .int .i64 f] :=
  agg_three .i64 (Tryz.prog.fieldsOf 128)[0]! (Tryz.prog.fieldsOf 128)[1]! (Tryz.prog.fieldsOf 128)[2]! (by kernel_rfl) (by kernel_rfl) (by kernel_rfl) (by kernel_rfl) (by kernel_rfl) (by kernel_rfl) (by kernel_rfl) (by kernel_rfl) (by kernel_rfl) (by kernel_rfl) (by kernel_rfl) (by kernel_rfl) (by kernel_rfl) (by kernel_rfl) (by kernel_rfl) (by kernel_rfl) a b c d e f
set_option maxHeartbeats 8000000 in
theorem rightw_pu (c : Nat) : Pu Tryz.prog 197 [.s 0 0 0 1 c 5, .a cRn] [rBa 1 l0 c0, rDs l0] (.v (.bool true)) := by
  have hf := lfind_pu l0 c0 c sA (by decide)
  rw [show idxB (nmE sA) l0 0 = 0 by decide +kernel] at hf
  have h1 := isplace_pu ⟨50, 50, 100⟩ 1048576 (by decide) (by decide)
  have h2 := isplace_pu ⟨0, 30, 0⟩ 2097152 (by decide) (by decide)
  refine pu_of_ex true [] mixed Tryz.call197 Tryz.func197 rfl Tryz.ntmps197 Tryz.results197 (by decide +kernel) rfl rfl rfl ?_
  refine sxg ?_
  try with_reducible exact trivial
  refine sp_c (hf) rfl [0, 1] ?_
  refine sxg ?_
  try with_reducible exact trivial
  refine sp_c (fvalid_pu) rfl [] ?_
  refine sxg ?_
  try with_reducible exact trivial
  refine sp_c (h1) rfl [] ?_
  refine sxg ?_
  try with_reducible exact trivial
  refine ⟨agg128 _ _ _ _ _ _, ?_⟩
  refine sp_c (h2) rfl [] ?_
  refine sxg ?_
  try with_reducible exact trivial
  refine sp_at (turned_sp c) [0, 1] (by kernel_rfl) ?_ ?_ ?_
  · refine sxg ?_
    try with_reducible exact trivial
  · refine sxg ?_
    try with_reducible exact trivial
  rintro _ _ ⟨cap, hcap, rfl, rfl⟩
  refine sxg ?_
  try with_reducible exact trivial
  refine tr_un mixed (by kernel_rfl) ?_
  refine sxg ?_
  try with_reducible exact trivial
  refine tr_un mixed (by kernel_rfl) ?_
  refine sxg ?_
  try with_reducible exact trivial
  refine sp_c (plus_pu ⟨0, 0, 0⟩ ⟨50, 50, 100⟩ (by decide) (by decide)) rfl [] ?_
  refine sxg ?_
  try with_reducible exact trivial
  refine sp_c (isplace_pu ⟨50, 50, 100⟩ 1048576 (by decide) (by decide)) rfl [] ?_
  refine sxg ?_
  try with_reducible exact trivial
  refine tl_un mixed (by kernel_rfl) ?_
  refine sxg ?_
  try with_reducible exact trivial
  refine sp_c (plus_pu ⟨300, 0, 0⟩ ⟨50, 50, 100⟩ (by decide) (by decide)) rfl [] ?_
  refine sxg ?_
  try with_reducible exact trivial
  refine sp_c (isplace_pu ⟨350, 50, 100⟩ 1048576 (by decide) (by decide)) rfl [] ?_
  refine sxg ?_
  try with_reducible exact trivial
  refine tl_un mixed (by kernel_rfl) ?_
  refine sxg ?_
  try with_reducible exact trivial
  refine tl_un mixed (by kernel_rfl) ?_
  refine sxg ?_
  try with_reducible exact trivial
  refine tr_un mixed (by kernel_rfl) ?_
  refine sxg ?_
  try with_reducible exact trivial
  refine sp_c (plus_pu ⟨0, 0, 0⟩ ⟨50, 50, 100⟩ (by decide) (by decide)) rfl [] ?_
  refine sxg ?_
  try with_reducible exact trivial
  refine sp_c (plus_pu ⟨50, 50, 100⟩ ⟨0, 30, 0⟩ (by decide) (by decide)) rfl [] ?_
  refine sxg ?_
  try with_reducible exact trivial
  refine sp_c (isplace_pu ⟨50, 80, 100⟩ 1048576 (by decide) (by decide)) rfl [] ?_
  refine sxg ?_
  try with_reducible exact trivial
  refine tl_un mixed (by kernel_rfl) ?_
  refine sxg ?_
  try with_reducible exact trivial
  refine sp_c (plus_pu ⟨300, 0, 0⟩ ⟨50, 50, 100⟩ (by decide) (by decide)) rfl [] ?_
  refine sxg ?_
  try with_reducible exact trivial
  refine sp_c (plus_pu ⟨350, 50, 100⟩ ⟨0, 30, 0⟩ (by decide) (by decide)) rfl [] ?_
  refine sxg ?_
  try with_reducible exact trivial
  refine sp_c (isplace_pu ⟨350, 80, 100⟩ 1048576 (by decide) (by decide)) rfl [] ?_
  refine sxg ?_
  try with_reducible exact trivial
  refine tl_un mixed (by kernel_rfl) ?_
  refine sxg ?_
  try with_reducible exact trivial
  refine tl_un mixed (by kernel_rfl) ?_
  refine sxg ?_
  try with_reducible exact trivial
end Go.Proofs.YtolioflblegneaaGreat
