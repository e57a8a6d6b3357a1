/- What the executor reads of the program's types, by the kernel. -/
import Derived.Test.YtmmabnoemckdiaaSx
import Derived.Test.YtmmabnoemckdiaaProg
set_option maxRecDepth 100000
set_option linter.unusedSimpArgs false
set_option linter.unusedVariables false
namespace Go.Proofs.Ytmmabnoemckdiaa
open Go.RowKit
theorem mixed : Try.prog.follows .mixedOrders = true := by kernel_rfl
theorem ti3 : tiOf Try.prog 3 = ⟨.int .i64, 1, 8, some [.int .i64 0]⟩ := by kernel_rfl
theorem ti4 : tiOf Try.prog 4 = ⟨.bool, 1, 1, some [.bool false]⟩ := by kernel_rfl
theorem ti5 : tiOf Try.prog 5 = ⟨.int .u8, 1, 1, some [.int .u8 0]⟩ := by kernel_rfl
theorem ti9 : tiOf Try.prog 9 = ⟨.str, 1, 16, some [.string ⟨#[]⟩]⟩ := by kernel_rfl
theorem ti22 : tiOf Try.prog 22 = ⟨.slice 25 1, 1, 24, some [.slice none 0 0]⟩ := by kernel_rfl
theorem ti25 : tiOf Try.prog 25 = ⟨.slice 3 1, 1, 24, some [.slice none 0 0]⟩ := by kernel_rfl
theorem ti27 : tiOf Try.prog 27 = ⟨.int .i64, 1, 8, some [.int .i64 0]⟩ := by kernel_rfl
theorem ti38 : tiOf Try.prog 38 = ⟨.slice 49 2, 1, 24, some [.slice none 0 0]⟩ := by kernel_rfl
theorem ti49 : tiOf Try.prog 49 = ⟨.array 2 3 1, 2, 16, some [.int .i64 0, .int .i64 0]⟩ := by kernel_rfl
theorem ti63 : tiOf Try.prog 63 = ⟨.func, 1, 8, some [.nilFunc]⟩ := by kernel_rfl
theorem ti64 : tiOf Try.prog 64 = ⟨.slice 65 256, 1, 24, some [.slice none 0 0]⟩ := by kernel_rfl
theorem ti68 : tiOf Try.prog 68 = ⟨.int .u64, 1, 8, some [.int .u64 0]⟩ := by kernel_rfl
theorem ti71 : tiOf Try.prog 71 = ⟨.slice 4 1, 1, 24, some [.slice none 0 0]⟩ := by kernel_rfl
theorem ti74 : tiOf Try.prog 74 = ⟨.slice 71 1, 1, 24, some [.slice none 0 0]⟩ := by kernel_rfl
theorem ti92 : tiOf Try.prog 92 = ⟨.struct [(0, 74, 1), (1, 25, 1), (2, 71, 1)], 3, 72, some [.slice none 0 0, .slice none 0 0, .slice none 0 0]⟩ := by kernel_rfl
theorem ti95 : tiOf Try.prog 95 = ⟨.int .i64, 1, 8, some [.int .i64 0]⟩ := by kernel_rfl
theorem ti102 : tiOf Try.prog 102 = ⟨.int .u32, 1, 4, some [.int .u32 0]⟩ := by kernel_rfl
theorem ti104 : tiOf Try.prog 104 = ⟨.int .u64, 1, 8, some [.int .u64 0]⟩ := by kernel_rfl
theorem ti105 : tiOf Try.prog 105 = ⟨.int .u64, 1, 8, some [.int .u64 0]⟩ := by kernel_rfl
attribute [push_cast] ti3 ti4 ti5 ti9 ti22 ti25 ti27 ti38 ti49 ti63 ti64 ti68 ti71 ti74 ti92 ti95 ti102 ti104 ti105

end Go.Proofs.Ytmmabnoemckdiaa
