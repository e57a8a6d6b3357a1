/- What the executor reads of the program's types, by the kernel. -/
import Derived.Test.YtdeaaonppokgkaaGreatSx
import Derived.Test.YtdeaaonppokgkaaGreatProg
set_option maxRecDepth 100000
set_option linter.unusedSimpArgs false
set_option linter.unusedVariables false
namespace Go.Proofs.YtdeaaonppokgkaaGreat
open Go.RowKit
theorem mixed : Tryz.prog.follows .mixedOrders = true := by kernel_rfl
theorem ti3 : tiOf Tryz.prog 3 = ⟨.int .i64, 1, 8, some [.int .i64 0]⟩ := by kernel_rfl
theorem ti4 : tiOf Tryz.prog 4 = ⟨.bool, 1, 1, some [.bool false]⟩ := by kernel_rfl
theorem ti5 : tiOf Tryz.prog 5 = ⟨.int .u8, 1, 1, some [.int .u8 0]⟩ := by kernel_rfl
theorem ti9 : tiOf Tryz.prog 9 = ⟨.str, 1, 16, some [.string ⟨#[]⟩]⟩ := by kernel_rfl
theorem ti22 : tiOf Tryz.prog 22 = ⟨.slice 49 2, 1, 24, some [.slice none 0 0]⟩ := by kernel_rfl
theorem ti25 : tiOf Tryz.prog 25 = ⟨.slice 27 2, 1, 24, some [.slice none 0 0]⟩ := by kernel_rfl
theorem ti27 : tiOf Tryz.prog 27 = ⟨.struct [(0, 3, 1), (1, 3, 1)], 2, 16, some [.int .i64 0, .int .i64 0]⟩ := by kernel_rfl
theorem ti28 : tiOf Tryz.prog 28 = ⟨.int .i64, 1, 8, some [.int .i64 0]⟩ := by kernel_rfl
theorem ti32 : tiOf Tryz.prog 32 = ⟨.slice 3 1, 1, 24, some [.slice none 0 0]⟩ := by kernel_rfl
theorem ti33 : tiOf Tryz.prog 33 = ⟨.slice 58 3, 1, 24, some [.slice none 0 0]⟩ := by kernel_rfl
theorem ti35 : tiOf Tryz.prog 35 = ⟨.struct [(0, 32, 1), (1, 33, 1)], 2, 48, some [.slice none 0 0, .slice none 0 0]⟩ := by kernel_rfl
theorem ti49 : tiOf Tryz.prog 49 = ⟨.struct [(0, 3, 1), (1, 3, 1)], 2, 16, some [.int .i64 0, .int .i64 0]⟩ := by kernel_rfl
theorem ti53 : tiOf Tryz.prog 53 = ⟨.slice 32 1, 1, 24, some [.slice none 0 0]⟩ := by kernel_rfl
theorem ti58 : tiOf Tryz.prog 58 = ⟨.struct [(0, 32, 1), (1, 3, 1), (2, 3, 1)], 3, 40, some [.slice none 0 0, .int .i64 0, .int .i64 0]⟩ := by kernel_rfl
theorem ti60 : tiOf Tryz.prog 60 = ⟨.struct [(0, 27, 2), (2, 25, 1), (3, 25, 1)], 4, 64, some [.int .i64 0, .int .i64 0, .slice none 0 0, .slice none 0 0]⟩ := by kernel_rfl
theorem ti70 : tiOf Tryz.prog 70 = ⟨.struct [(0, 53, 1), (1, 32, 1), (2, 3, 1), (3, 3, 1)], 4, 64, some [.slice none 0 0, .slice none 0 0, .int .i64 0, .int .i64 0]⟩ := by kernel_rfl
theorem ti87 : tiOf Tryz.prog 87 = ⟨.int .u64, 1, 8, some [.int .u64 0]⟩ := by kernel_rfl
theorem ti96 : tiOf Tryz.prog 96 = ⟨.struct [(0, 22, 1), (1, 32, 1), (2, 32, 1), (3, 53, 1), (4, 32, 1), (5, 32, 1), (6, 3, 1)], 7, 152, some [.slice none 0 0, .slice none 0 0, .slice none 0 0, .slice none 0 0, .slice none 0 0, .slice none 0 0, .int .i64 0]⟩ := by kernel_rfl
theorem ti97 : tiOf Tryz.prog 97 = ⟨.int .u64, 1, 8, some [.int .u64 0]⟩ := by kernel_rfl
theorem ti103 : tiOf Tryz.prog 103 = ⟨.struct [(0, 53, 1), (1, 3, 1), (2, 32, 1), (3, 32, 1), (4, 32, 1), (5, 3, 1), (6, 3, 1)], 7, 120, some [.slice none 0 0, .int .i64 0, .slice none 0 0, .slice none 0 0, .slice none 0 0, .int .i64 0, .int .i64 0]⟩ := by kernel_rfl
theorem ti112 : tiOf Tryz.prog 112 = ⟨.struct [(0, 87, 1), (1, 87, 1)], 2, 16, some [.int .u64 0, .int .u64 0]⟩ := by kernel_rfl
theorem ti122 : tiOf Tryz.prog 122 = ⟨.int .u32, 1, 4, some [.int .u32 0]⟩ := by kernel_rfl
theorem ti127 : tiOf Tryz.prog 127 = ⟨.func, 1, 8, some [.nilFunc]⟩ := by kernel_rfl
theorem ti142 : tiOf Tryz.prog 142 = ⟨.struct [(0, 4, 1), (1, 87, 1), (2, 87, 1)], 3, 24, some [.bool false, .int .u64 0, .int .u64 0]⟩ := by kernel_rfl
theorem ti149 : tiOf Tryz.prog 149 = ⟨.other, 1, 16, some [.nilIface]⟩ := by kernel_rfl
attribute [push_cast] ti3 ti4 ti5 ti9 ti22 ti25 ti27 ti28 ti32 ti33 ti35 ti49 ti53 ti58 ti60 ti70 ti87 ti96 ti97 ti103 ti112 ti122 ti127 ti142 ti149
end Go.Proofs.YtdeaaonppokgkaaGreat
