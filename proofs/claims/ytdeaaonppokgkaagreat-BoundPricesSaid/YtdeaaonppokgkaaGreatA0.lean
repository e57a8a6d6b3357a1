/- Contracts: Mul64, LeadingZeros64: the library's own proofs, laid at this program. -/
import Derived.Test.YtdeaaonppokgkaaGreatTi
import Derived.Test.YtdeaaonppokgkaaGreatIn
import Derived.Shelf.Bits.Mul64
import Derived.Shelf.Small.Bits
set_option maxRecDepth 100000
set_option linter.unusedSimpArgs false
set_option linter.unusedVariables false
namespace Go.Proofs.YtdeaaonppokgkaaGreat
open Go.RowKit
attribute [push_cast] branch_decide branch_not branch_beq branch_bne false_imp_iff true_imp_iff
theorem sxq {P Q : Prop} (h : Q) (e : P = Q := by (conv => lhs; simp only [push_cast, ↓branch_true, ↓branch_false, Nat.reduceBEq, Nat.reduceAdd, Nat.reduceMul, Nat.reduceSub, Int.reduceToNat, reduceCtorEq, Int.reduceAdd, Int.reduceEq, Int.reduceLE, Int.reduceLT, Nat.reduceLT, Nat.reduceLeDiff])) : P := Eq.mpr e h
theorem sp_c {P : Program} {f : FuncId} {args args0 : List SV} {H H0 : List Ob} {r : SV} {v : Value} {K : SV → List Ob → Prop} (h : Pu P f args0 H0 r) (hg : gnd r = some v) (rl : List Nat) (hk : K r H) (hro : (roB H0 && Nat.beq rl.length H0.length) = true := by exact rfl) (ha : mtL rl args0 args := by (simp only [push_cast, ↓branch_true, ↓branch_false, Nat.reduceBEq, Nat.reduceAdd, Nat.reduceMul, Nat.reduceSub, Int.reduceToNat, reduceCtorEq, Int.reduceAdd, Int.reduceEq, Int.reduceLE, Int.reduceLT, Nat.reduceLT, Nat.reduceLeDiff])) (ho : obsM rl H rl H0 := by (simp only [push_cast, ↓branch_true, ↓branch_false, Nat.reduceBEq, Nat.reduceAdd, Nat.reduceMul, Nat.reduceSub, Int.reduceToNat, reduceCtorEq, Int.reduceAdd, Int.reduceEq, Int.reduceLE, Int.reduceLT, Nat.reduceLT, Nat.reduceLeDiff])) : Sp P f args H K :=
  sp_call h hg rl hro ha ho hk
theorem qc_c {P : Program} {f : FuncId} {args args0 : List SV} {H H0 : List Ob} {r : SV} {v : Value} {K : SV → Prop} (h : Pu P f args0 H0 r) (hg : gnd r = some v) (rl : List Nat) (hk : K r) (hro : (roB H0 && Nat.beq rl.length H0.length) = true := by exact rfl) (ha : mtL rl args0 args := by (simp only [push_cast, ↓branch_true, ↓branch_false, Nat.reduceBEq, Nat.reduceAdd, Nat.reduceMul, Nat.reduceSub, Int.reduceToNat, reduceCtorEq, Int.reduceAdd, Int.reduceEq, Int.reduceLE, Int.reduceLT, Nat.reduceLT, Nat.reduceLeDiff])) (ho : obsM rl H rl H0 := by (simp only [push_cast, ↓branch_true, ↓branch_false, Nat.reduceBEq, Nat.reduceAdd, Nat.reduceMul, Nat.reduceSub, Int.reduceToNat, reduceCtorEq, Int.reduceAdd, Int.reduceEq, Int.reduceLE, Int.reduceLT, Nat.reduceLT, Nat.reduceLeDiff])) : QC P f args H K :=
  qc_call h hg rl hro ha ho hk
theorem pu_calls {P : Program} {f : FuncId} {args : List SV} {H : List Ob} {r : SV} {v : Value} {vs : List Value} (hc : ∀ vs w, (callFunc f vs).run P w = .ok (.enter f vs) w) (hv : gndL args = some vs) (hr : gnd r = some v)
    (h : ∀ w, Calls P f vs.toArray w fun e w' => e = .returned v ∧ w' = w) : Pu P f args H r :=
  ⟨hc, fun β w us _ ha => by
    rw [gndL_ok hv ha]
    exact (h w).mono fun e w' ⟨he, hb⟩ => ⟨v, he, gnd_fit β hr, hb ▸ Below.refl _ _⟩⟩
def lm_ren : Go.Shelf.Ren := ⟨fun | 264 => 83 | 129 => 115 | 134 => 114 | n => n, fun | 46 => 97 | 53 => 87 | n => n, fun n => n⟩
theorem lm : Go.Proofs.Lays.n264 Tryz.prog lm_ren := {
  mixed := by kernel_rfl
  f264 := Tryz.func83.trans (congrArg some (by kernel_rfl))
  t46 := Tryz.underlying97
  a46 := Tryz.isAgg97
  z46 := Tryz.sizeOf97
  v46 := Tryz.zeroValue97
  t53 := Tryz.underlying87
  a53 := Tryz.isAgg87
  z53 := Tryz.sizeOf87
  v53 := Tryz.zeroValue87 }
theorem ll : Go.Proofs.Lays.n134 Tryz.prog lm_ren := {
  mixed := by kernel_rfl
  f129 := Tryz.func115.trans (congrArg some (by kernel_rfl))
  f134 := Tryz.func114.trans (congrArg some (by kernel_rfl))
  t3 := Tryz.underlying3
  a3 := Tryz.isAgg3
  z3 := Tryz.sizeOf3
  v3 := Tryz.zeroValue3
  t4 := Tryz.underlying4
  a4 := Tryz.isAgg4
  z4 := Tryz.sizeOf4
  v4 := Tryz.zeroValue4
  t5 := Tryz.underlying5
  a5 := Tryz.isAgg5
  z5 := Tryz.sizeOf5
  v5 := Tryz.zeroValue5
  t9 := Tryz.underlying9
  a9 := Tryz.isAgg9
  z9 := Tryz.sizeOf9
  v9 := Tryz.zeroValue9
  t46 := Tryz.underlying97
  a46 := Tryz.isAgg97
  z46 := Tryz.sizeOf97
  v46 := Tryz.zeroValue97
  t53 := Tryz.underlying87
  a53 := Tryz.isAgg87
  z53 := Tryz.sizeOf87
  v53 := Tryz.zeroValue87 }
theorem mul64_pu (x y : Nat) (H : List Ob) (hx : x < 18446744073709551616) (hy : y < 18446744073709551616) : Pu Tryz.prog 83 [.v (.int .u64 x), .v (.int .u64 y)] H (.t [.v (.int .u64 (x * y / 18446744073709551616 : Nat)), .v (.int .u64 (x * y % 18446744073709551616 : Nat))]) :=
  pu_calls Tryz.call83 rfl rfl fun w => Any.bits_Mul64 lm x y hx hy w
theorem lz_pu (x : Nat) (H : List Ob) (hx : x < 18446744073709551616) : Pu Tryz.prog 114 [.v (.int .u64 x)] H (.v (.int .i64 (64 - (Lib.bitLen x : Int)))) :=
  pu_calls Tryz.call114 rfl rfl fun w => by
    have := Any.bits_LeadingZeros64 ll (x : Int) w (by omega) (by omega)
    rwa [Int.toNat_natCast] at this
end Go.Proofs.YtdeaaonppokgkaaGreat
