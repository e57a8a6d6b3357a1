/- Contracts: Mul64, LeadingZeros64: the library's own proofs, laid at this program. -/
import Derived.Test.YtdeaaonppokgkaaTi
import Derived.Test.YtdeaaonppokgkaaIn
import Derived.Shelf.Bits.Mul64
import Derived.Shelf.Small.Bits
set_option maxRecDepth 100000
set_option linter.unusedSimpArgs false
set_option linter.unusedVariables false
namespace Go.Proofs.Ytdeaaonppokgkaa
open Go.RowKit
attribute [push_cast] branch_decide branch_not branch_beq branch_bne false_imp_iff true_imp_iff
theorem sp_c {P : Program} {f : FuncId} {args args0 : List SV} {H H0 : List Ob} {r : SV} {v : Value} {K : SV → List Ob → Prop} (h : Pu P f args0 H0 r) (hg : gnd r = some v) (rl : List Nat) (hk : K r H) (hro : (roB H0 && Nat.beq rl.length H0.length) = true := by exact rfl) (ha : mtL rl args0 args := by (simp only [push_cast, ↓branch_true, ↓branch_false, Nat.reduceBEq, Nat.reduceAdd, Nat.reduceMul, Nat.reduceSub, Int.reduceToNat, reduceCtorEq, Int.reduceAdd, Int.reduceEq, Int.reduceLE, Int.reduceLT, Nat.reduceLT, Nat.reduceLeDiff])) (ho : obsM rl H rl H0 := by (simp only [push_cast, ↓branch_true, ↓branch_false, Nat.reduceBEq, Nat.reduceAdd, Nat.reduceMul, Nat.reduceSub, Int.reduceToNat, reduceCtorEq, Int.reduceAdd, Int.reduceEq, Int.reduceLE, Int.reduceLT, Nat.reduceLT, Nat.reduceLeDiff])) : Sp P f args H K :=
  sp_call h hg rl hro ha ho hk
theorem qc_c {P : Program} {f : FuncId} {args args0 : List SV} {H H0 : List Ob} {r : SV} {v : Value} {K : SV → Prop} (h : Pu P f args0 H0 r) (hg : gnd r = some v) (rl : List Nat) (hk : K r) (hro : (roB H0 && Nat.beq rl.length H0.length) = true := by exact rfl) (ha : mtL rl args0 args := by (simp only [push_cast, ↓branch_true, ↓branch_false, Nat.reduceBEq, Nat.reduceAdd, Nat.reduceMul, Nat.reduceSub, Int.reduceToNat, reduceCtorEq, Int.reduceAdd, Int.reduceEq, Int.reduceLE, Int.reduceLT, Nat.reduceLT, Nat.reduceLeDiff])) (ho : obsM rl H rl H0 := by (simp only [push_cast, ↓branch_true, ↓branch_false, Nat.reduceBEq, Nat.reduceAdd, Nat.reduceMul, Nat.reduceSub, Int.reduceToNat, reduceCtorEq, Int.reduceAdd, Int.reduceEq, Int.reduceLE, Int.reduceLT, Nat.reduceLT, Nat.reduceLeDiff])) : QC P f args H K :=
  qc_call h hg rl hro ha ho hk
theorem gndL_ok0 {β : Bs} : ∀ {l : List SV} {vs us : List Value}, gndL l = some vs → OkL β l us → us = vs := gndL_ok
theorem pu_calls {P : Program} {f : FuncId} {args : List SV} {H : List Ob} {r : SV} {v : Value} {vs : List Value} (hc : ∀ vs w, (callFunc f vs).run P w = .ok (.enter f vs) w) (hv : gndL args = some vs) (hr : gnd r = some v)
    (h : ∀ w, Calls P f vs.toArray w fun e w' => e = .returned v ∧ w' = w) : Pu P f args H r :=
  ⟨hc, fun β w us _ ha => by
    rw [gndL_ok hv ha]
    exact (h w).mono fun e w' ⟨he, hb⟩ => ⟨v, he, gnd_fit β hr, hb ▸ Below.refl _ _⟩⟩
def lm_ren : Go.Shelf.Ren := ⟨fun | 264 => 88 | 129 => 110 | 134 => 109 | n => n, fun | 46 => 105 | 53 => 100 | n => n, fun n => n⟩
theorem lm : Go.Proofs.Lays.n264 Try.prog lm_ren := {
  mixed := by kernel_rfl
  f264 := Try.func88.trans (congrArg some (by kernel_rfl))
  t46 := Try.underlying105
  a46 := Try.isAgg105
  z46 := Try.sizeOf105
  v46 := Try.zeroValue105
  t53 := Try.underlying100
  a53 := Try.isAgg100
  z53 := Try.sizeOf100
  v53 := Try.zeroValue100 }
theorem ll : Go.Proofs.Lays.n134 Try.prog lm_ren := {
  mixed := by kernel_rfl
  f129 := Try.func110.trans (congrArg some (by kernel_rfl))
  f134 := Try.func109.trans (congrArg some (by kernel_rfl))
  t3 := Try.underlying3
  a3 := Try.isAgg3
  z3 := Try.sizeOf3
  v3 := Try.zeroValue3
  t4 := Try.underlying4
  a4 := Try.isAgg4
  z4 := Try.sizeOf4
  v4 := Try.zeroValue4
  t5 := Try.underlying5
  a5 := Try.isAgg5
  z5 := Try.sizeOf5
  v5 := Try.zeroValue5
  t9 := Try.underlying9
  a9 := Try.isAgg9
  z9 := Try.sizeOf9
  v9 := Try.zeroValue9
  t46 := Try.underlying105
  a46 := Try.isAgg105
  z46 := Try.sizeOf105
  v46 := Try.zeroValue105
  t53 := Try.underlying100
  a53 := Try.isAgg100
  z53 := Try.sizeOf100
  v53 := Try.zeroValue100 }
theorem mul64_pu (x y : Nat) (H : List Ob) (hx : x < 18446744073709551616) (hy : y < 18446744073709551616) : Pu Try.prog 88 [.v (.int .u64 x), .v (.int .u64 y)] H (.t [.v (.int .u64 (x * y / 18446744073709551616 : Nat)), .v (.int .u64 (x * y % 18446744073709551616 : Nat))]) :=
  pu_calls Try.call88 rfl rfl fun w => Any.bits_Mul64 lm x y hx hy w
theorem lz_pu (x : Nat) (H : List Ob) (hx : x < 18446744073709551616) : Pu Try.prog 109 [.v (.int .u64 x)] H (.v (.int .i64 (64 - (Lib.bitLen x : Int)))) :=
  pu_calls Try.call109 rfl rfl fun w => by
    have := Any.bits_LeadingZeros64 ll (x : Int) w (by omega) (by omega)
    rwa [Int.toNat_natCast] at this
end Go.Proofs.Ytdeaaonppokgkaa
