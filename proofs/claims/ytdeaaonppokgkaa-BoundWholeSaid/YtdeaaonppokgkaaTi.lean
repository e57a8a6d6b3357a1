/- What the executor reads of the program's types, by the kernel. -/
import Derived.Test.YtdeaaonppokgkaaSx
import Derived.Test.YtdeaaonppokgkaaProg
set_option maxRecDepth 100000
set_option linter.unusedSimpArgs false
set_option linter.unusedVariables false
namespace Go.Proofs.Ytdeaaonppokgkaa
open Go.RowKit
theorem mixed : Try.prog.follows .mixedOrders = true := by kernel_rfl
theorem ti3 : tiOf Try.prog 3 = ⟨.int .i64, 1, 8, some [.int .i64 0]⟩ := by kernel_rfl
theorem ti4 : tiOf Try.prog 4 = ⟨.bool, 1, 1, some [.bool false]⟩ := by kernel_rfl
theorem ti5 : tiOf Try.prog 5 = ⟨.int .u8, 1, 1, some [.int .u8 0]⟩ := by kernel_rfl
theorem ti9 : tiOf Try.prog 9 = ⟨.str, 1, 16, some [.string ⟨#[]⟩]⟩ := by kernel_rfl
theorem ti22 : tiOf Try.prog 22 = ⟨.slice 45 2, 1, 24, some [.slice none 0 0]⟩ := by kernel_rfl
theorem ti23 : tiOf Try.prog 23 = ⟨.slice 3 1, 1, 24, some [.slice none 0 0]⟩ := by kernel_rfl
theorem ti26 : tiOf Try.prog 26 = ⟨.int .i64, 1, 8, some [.int .i64 0]⟩ := by kernel_rfl
theorem ti32 : tiOf Try.prog 32 = ⟨.slice 34 2, 1, 24, some [.slice none 0 0]⟩ := by kernel_rfl
theorem ti34 : tiOf Try.prog 34 = ⟨.struct [(0, 3, 1), (1, 3, 1)], 2, 16, some [.int .i64 0, .int .i64 0]⟩ := by kernel_rfl
theorem ti40 : tiOf Try.prog 40 = ⟨.func, 1, 8, some [.nilFunc]⟩ := by kernel_rfl
theorem ti45 : tiOf Try.prog 45 = ⟨.struct [(0, 3, 1), (1, 3, 1)], 2, 16, some [.int .i64 0, .int .i64 0]⟩ := by kernel_rfl
theorem ti46 : tiOf Try.prog 46 = ⟨.array 4 3 1, 4, 32, some [.int .i64 0, .int .i64 0, .int .i64 0, .int .i64 0]⟩ := by kernel_rfl
theorem ti52 : tiOf Try.prog 52 = ⟨.slice 23 1, 1, 24, some [.slice none 0 0]⟩ := by kernel_rfl
theorem ti53 : tiOf Try.prog 53 = ⟨.slice 5 1, 1, 24, some [.slice none 0 0]⟩ := by kernel_rfl
theorem ti74 : tiOf Try.prog 74 = ⟨.slice 78 3, 1, 24, some [.slice none 0 0]⟩ := by kernel_rfl
theorem ti76 : tiOf Try.prog 76 = ⟨.struct [(0, 23, 1), (1, 74, 1)], 2, 48, some [.slice none 0 0, .slice none 0 0]⟩ := by kernel_rfl
theorem ti78 : tiOf Try.prog 78 = ⟨.struct [(0, 23, 1), (1, 3, 1), (2, 3, 1)], 3, 40, some [.slice none 0 0, .int .i64 0, .int .i64 0]⟩ := by kernel_rfl
theorem ti80 : tiOf Try.prog 80 = ⟨.struct [(0, 34, 2), (2, 32, 1), (3, 32, 1)], 4, 64, some [.int .i64 0, .int .i64 0, .slice none 0 0, .slice none 0 0]⟩ := by kernel_rfl
theorem ti84 : tiOf Try.prog 84 = ⟨.slice 40 1, 1, 24, some [.slice none 0 0]⟩ := by kernel_rfl
theorem ti97 : tiOf Try.prog 97 = ⟨.struct [(0, 22, 1), (1, 23, 1), (2, 23, 1), (3, 52, 1), (4, 23, 1), (5, 23, 1), (6, 3, 1)], 7, 152, some [.slice none 0 0, .slice none 0 0, .slice none 0 0, .slice none 0 0, .slice none 0 0, .slice none 0 0, .int .i64 0]⟩ := by kernel_rfl
theorem ti100 : tiOf Try.prog 100 = ⟨.int .u64, 1, 8, some [.int .u64 0]⟩ := by kernel_rfl
theorem ti105 : tiOf Try.prog 105 = ⟨.int .u64, 1, 8, some [.int .u64 0]⟩ := by kernel_rfl
theorem ti112 : tiOf Try.prog 112 = ⟨.struct [(0, 52, 1), (1, 3, 1), (2, 23, 1), (3, 23, 1), (4, 23, 1), (5, 3, 1), (6, 3, 1)], 7, 120, some [.slice none 0 0, .int .i64 0, .slice none 0 0, .slice none 0 0, .slice none 0 0, .int .i64 0, .int .i64 0]⟩ := by kernel_rfl
theorem ti117 : tiOf Try.prog 117 = ⟨.struct [(0, 3, 1), (1, 3, 1)], 2, 16, some [.int .i64 0, .int .i64 0]⟩ := by kernel_rfl
theorem ti125 : tiOf Try.prog 125 = ⟨.int .u32, 1, 4, some [.int .u32 0]⟩ := by kernel_rfl
theorem ti130 : tiOf Try.prog 130 = ⟨.func, 1, 8, some [.nilFunc]⟩ := by kernel_rfl
theorem ti138 : tiOf Try.prog 138 = ⟨.struct [(0, 4, 1), (1, 100, 1), (2, 100, 1)], 3, 24, some [.bool false, .int .u64 0, .int .u64 0]⟩ := by kernel_rfl
theorem ti144 : tiOf Try.prog 144 = ⟨.other, 1, 16, some [.nilIface]⟩ := by kernel_rfl
attribute [push_cast] ti3 ti4 ti5 ti9 ti22 ti23 ti26 ti32 ti34 ti40 ti45 ti46 ti52 ti53 ti74 ti76 ti78 ti80 ti84 ti97 ti100 ti105 ti112 ti117 ti125 ti130 ti138 ti144

end Go.Proofs.Ytdeaaonppokgkaa
