/- What the executor reads of the program's types, by the kernel. -/
import Derived.Test.YtolioflblegneaaGreatSx
import Derived.Test.YtolioflblegneaaGreatProg
set_option maxRecDepth 100000
set_option linter.unusedSimpArgs false
set_option linter.unusedVariables false
namespace Go.Proofs.YtolioflblegneaaGreat
open Go.RowKit
theorem sxo {P Q : Prop} (h : Q) (e : P = Q := by (conv => lhs; simp only [push_cast, ↓branch_true, ↓branch_false, Nat.reduceBEq, Nat.reduceAdd, Nat.reduceMul, Nat.reduceSub, Int.reduceToNat, reduceCtorEq, branch_decide, branch_not, branch_beq, branch_bne])) : P := Eq.mpr e h
theorem mixed : Tryz.prog.follows .mixedOrders = true := by kernel_rfl
theorem ti3 : tiOf Tryz.prog 3 = ⟨.int .i64, 1, 8, some [.int .i64 0]⟩ := by kernel_rfl
theorem ti4 : tiOf Tryz.prog 4 = ⟨.bool, 1, 1, some [.bool false]⟩ := by kernel_rfl
theorem ti5 : tiOf Tryz.prog 5 = ⟨.int .u8, 1, 1, some [.int .u8 0]⟩ := by kernel_rfl
theorem ti9 : tiOf Tryz.prog 9 = ⟨.str, 1, 16, some [.string ⟨#[]⟩]⟩ := by kernel_rfl
theorem ti22 : tiOf Tryz.prog 22 = ⟨.slice 56 2, 1, 24, some [.slice none 0 0]⟩ := by kernel_rfl
theorem ti23 : tiOf Tryz.prog 23 = ⟨.slice 3 1, 1, 24, some [.slice none 0 0]⟩ := by kernel_rfl
theorem ti24 : tiOf Tryz.prog 24 = ⟨.func, 1, 8, some [.nilFunc]⟩ := by kernel_rfl
theorem ti28 : tiOf Tryz.prog 28 = ⟨.struct [(0, 3, 1), (1, 3, 1)], 2, 16, some [.int .i64 0, .int .i64 0]⟩ := by kernel_rfl
theorem ti29 : tiOf Tryz.prog 29 = ⟨.slice 28 2, 1, 24, some [.slice none 0 0]⟩ := by kernel_rfl
theorem ti30 : tiOf Tryz.prog 30 = ⟨.slice 63 3, 1, 24, some [.slice none 0 0]⟩ := by kernel_rfl
theorem ti31 : tiOf Tryz.prog 31 = ⟨.int .i64, 1, 8, some [.int .i64 0]⟩ := by kernel_rfl
theorem ti48 : tiOf Tryz.prog 48 = ⟨.slice 58 5, 1, 24, some [.slice none 0 0]⟩ := by kernel_rfl
theorem ti56 : tiOf Tryz.prog 56 = ⟨.struct [(0, 3, 1), (1, 3, 1)], 2, 16, some [.int .i64 0, .int .i64 0]⟩ := by kernel_rfl
theorem ti58 : tiOf Tryz.prog 58 = ⟨.struct [(0, 9, 1), (1, 3, 1), (2, 3, 1), (3, 3, 1), (4, 23, 1)], 5, 64, some [.string ⟨#[]⟩, .int .i64 0, .int .i64 0, .int .i64 0, .slice none 0 0]⟩ := by kernel_rfl
theorem ti60 : tiOf Tryz.prog 60 = ⟨.ptr, 1, 8, some [.pointer none]⟩ := by kernel_rfl
theorem ti63 : tiOf Tryz.prog 63 = ⟨.struct [(0, 3, 1), (1, 23, 1), (2, 3, 1)], 3, 40, some [.int .i64 0, .slice none 0 0, .int .i64 0]⟩ := by kernel_rfl
theorem ti71 : tiOf Tryz.prog 71 = ⟨.slice 131 6, 1, 24, some [.slice none 0 0]⟩ := by kernel_rfl
theorem ti73 : tiOf Tryz.prog 73 = ⟨.struct [(0, 71, 1), (1, 71, 1)], 2, 48, some [.slice none 0 0, .slice none 0 0]⟩ := by kernel_rfl
theorem ti75 : tiOf Tryz.prog 75 = ⟨.struct [(0, 9, 1), (1, 73, 2), (3, 3, 1), (4, 3, 1), (5, 3, 1)], 6, 88, some [.string ⟨#[]⟩, .slice none 0 0, .slice none 0 0, .int .i64 0, .int .i64 0, .int .i64 0]⟩ := by kernel_rfl
theorem ti76 : tiOf Tryz.prog 76 = ⟨.slice 135 10, 1, 24, some [.slice none 0 0]⟩ := by kernel_rfl
theorem ti80 : tiOf Tryz.prog 80 = ⟨.slice 150 2, 1, 24, some [.slice none 0 0]⟩ := by kernel_rfl
theorem ti87 : tiOf Tryz.prog 87 = ⟨.slice 91 3, 1, 24, some [.slice none 0 0]⟩ := by kernel_rfl
theorem ti91 : tiOf Tryz.prog 91 = ⟨.struct [(0, 3, 1), (1, 3, 1), (2, 23, 1)], 3, 40, some [.int .i64 0, .int .i64 0, .slice none 0 0]⟩ := by kernel_rfl
theorem ti95 : tiOf Tryz.prog 95 = ⟨.func, 1, 8, some [.nilFunc]⟩ := by kernel_rfl
theorem ti96 : tiOf Tryz.prog 96 = ⟨.slice 95 1, 1, 24, some [.slice none 0 0]⟩ := by kernel_rfl
theorem ti105 : tiOf Tryz.prog 105 = ⟨.struct [(0, 3, 1), (1, 22, 1), (2, 23, 1), (3, 87, 1)], 4, 80, some [.int .i64 0, .slice none 0 0, .slice none 0 0, .slice none 0 0]⟩ := by kernel_rfl
theorem ti110 : tiOf Tryz.prog 110 = ⟨.map 3 3, 1, 8, some [.map none]⟩ := by kernel_rfl
theorem ti117 : tiOf Tryz.prog 117 = ⟨.struct [(0, 3, 1), (1, 110, 1)], 2, 16, some [.int .i64 0, .map none]⟩ := by kernel_rfl
theorem ti128 : tiOf Tryz.prog 128 = ⟨.struct [(0, 3, 1), (1, 3, 1), (2, 3, 1)], 3, 24, some [.int .i64 0, .int .i64 0, .int .i64 0]⟩ := by kernel_rfl
theorem ti131 : tiOf Tryz.prog 131 = ⟨.struct [(0, 128, 3), (3, 128, 3)], 6, 48, some [.int .i64 0, .int .i64 0, .int .i64 0, .int .i64 0, .int .i64 0, .int .i64 0]⟩ := by kernel_rfl
theorem ti133 : tiOf Tryz.prog 133 = ⟨.struct [(0, 3, 1), (1, 3, 1)], 2, 16, some [.int .i64 0, .int .i64 0]⟩ := by kernel_rfl
theorem ti135 : tiOf Tryz.prog 135 = ⟨.struct [(0, 9, 1), (1, 133, 2), (3, 128, 3), (6, 128, 3), (9, 3, 1)], 10, 88, some [.string ⟨#[]⟩, .int .i64 0, .int .i64 0, .int .i64 0, .int .i64 0, .int .i64 0, .int .i64 0, .int .i64 0, .int .i64 0, .int .i64 0]⟩ := by kernel_rfl
theorem ti139 : tiOf Tryz.prog 139 = ⟨.slice 71 1, 1, 24, some [.slice none 0 0]⟩ := by kernel_rfl
theorem ti141 : tiOf Tryz.prog 141 = ⟨.struct [(0, 139, 1), (1, 23, 1)], 2, 48, some [.slice none 0 0, .slice none 0 0]⟩ := by kernel_rfl
theorem ti143 : tiOf Tryz.prog 143 = ⟨.struct [(0, 3, 1), (1, 3, 1), (2, 128, 3), (5, 128, 3)], 8, 64, some [.int .i64 0, .int .i64 0, .int .i64 0, .int .i64 0, .int .i64 0, .int .i64 0, .int .i64 0, .int .i64 0]⟩ := by kernel_rfl
theorem ti150 : tiOf Tryz.prog 150 = ⟨.struct [(0, 3, 1), (1, 9, 1)], 2, 24, some [.int .i64 0, .string ⟨#[]⟩]⟩ := by kernel_rfl
theorem ti151 : tiOf Tryz.prog 151 = ⟨.map 3 4, 1, 8, some [.map none]⟩ := by kernel_rfl
theorem ti158 : tiOf Tryz.prog 158 = ⟨.struct [(0, 3, 1), (1, 3, 1)], 2, 16, some [.int .i64 0, .int .i64 0]⟩ := by kernel_rfl
theorem ti163 : tiOf Tryz.prog 163 = ⟨.slice 24 1, 1, 24, some [.slice none 0 0]⟩ := by kernel_rfl
theorem ti174 : tiOf Tryz.prog 174 = ⟨.struct [(0, 3, 1), (1, 3, 1)], 2, 16, some [.int .i64 0, .int .i64 0]⟩ := by kernel_rfl
theorem ti179 : tiOf Tryz.prog 179 = ⟨.int .u64, 1, 8, some [.int .u64 0]⟩ := by kernel_rfl
theorem ti192 : tiOf Tryz.prog 192 = ⟨.map 9 3, 1, 8, some [.map none]⟩ := by kernel_rfl
theorem ti206 : tiOf Tryz.prog 206 = ⟨.slice 23 1, 1, 24, some [.slice none 0 0]⟩ := by kernel_rfl
theorem ti208 : tiOf Tryz.prog 208 = ⟨.struct [(0, 22, 1), (1, 23, 1), (2, 23, 1), (3, 206, 1), (4, 23, 1), (5, 23, 1), (6, 3, 1)], 7, 152, some [.slice none 0 0, .slice none 0 0, .slice none 0 0, .slice none 0 0, .slice none 0 0, .slice none 0 0, .int .i64 0]⟩ := by kernel_rfl
theorem ti217 : tiOf Tryz.prog 217 = ⟨.int .i64, 1, 8, some [.int .i64 0]⟩ := by kernel_rfl
theorem ti224 : tiOf Tryz.prog 224 = ⟨.int .u32, 1, 4, some [.int .u32 0]⟩ := by kernel_rfl
theorem ti226 : tiOf Tryz.prog 226 = ⟨.int .u64, 1, 8, some [.int .u64 0]⟩ := by kernel_rfl
theorem ti235 : tiOf Tryz.prog 235 = ⟨.slice 128 3, 1, 24, some [.slice none 0 0]⟩ := by kernel_rfl
theorem ti245 : tiOf Tryz.prog 245 = ⟨.func, 1, 8, some [.nilFunc]⟩ := by kernel_rfl
theorem ti251 : tiOf Tryz.prog 251 = ⟨.slice 254 2, 1, 24, some [.slice none 0 0]⟩ := by kernel_rfl
theorem ti254 : tiOf Tryz.prog 254 = ⟨.struct [(0, 3, 1), (1, 5, 1)], 2, 16, some [.int .i64 0, .int .u8 0]⟩ := by kernel_rfl
theorem ti256 : tiOf Tryz.prog 256 = ⟨.int .u64, 1, 8, some [.int .u64 0]⟩ := by kernel_rfl
theorem ti268 : tiOf Tryz.prog 268 = ⟨.array 3 3 1, 3, 24, some [.int .i64 0, .int .i64 0, .int .i64 0]⟩ := by kernel_rfl
theorem ti301 : tiOf Tryz.prog 301 = ⟨.slice 303 2, 1, 24, some [.slice none 0 0]⟩ := by kernel_rfl
theorem ti303 : tiOf Tryz.prog 303 = ⟨.array 2 3 1, 2, 16, some [.int .i64 0, .int .i64 0]⟩ := by kernel_rfl
theorem ti306 : tiOf Tryz.prog 306 = ⟨.array 3 268 3, 9, 72, some [.int .i64 0, .int .i64 0, .int .i64 0, .int .i64 0, .int .i64 0, .int .i64 0, .int .i64 0, .int .i64 0, .int .i64 0]⟩ := by kernel_rfl
theorem zo3 : zOf Tryz.prog 3 = some (.int .i64 0) := by kernel_rfl
attribute [push_cast] zo3
theorem zo4 : zOf Tryz.prog 4 = some (.bool false) := by kernel_rfl
attribute [push_cast] zo4
attribute [push_cast] ti3 ti4 ti5 ti9 ti22 ti23 ti24 ti28 ti29 ti30 ti31 ti48 ti56 ti58 ti60 ti63 ti71 ti73 ti75 ti76 ti80 ti87 ti91 ti95 ti96 ti105 ti110 ti117 ti128 ti131 ti133 ti135 ti139 ti141 ti143 ti150 ti151 ti158 ti163 ti174 ti179 ti192 ti206 ti208 ti217 ti224 ti226 ti235 ti245 ti251 ti254 ti256 ti268 ti301 ti303 ti306
end Go.Proofs.YtolioflblegneaaGreat
