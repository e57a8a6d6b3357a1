/- What the executor reads of the program's types, by the kernel. -/
import Derived.Test.YtmefgachdnlaoaaSx
import Derived.Test.YtmefgachdnlaoaaProg
set_option maxRecDepth 100000
set_option linter.unusedSimpArgs false
set_option linter.unusedVariables false
namespace Go.Proofs.Ytmefgachdnlaoaa
open Go.RowKit
theorem mixed : Try.prog.follows .mixedOrders = true := by kernel_rfl
theorem ti3 : tiOf Try.prog 3 = ⟨.int .i64, 1, 8, some [.int .i64 0]⟩ := by kernel_rfl
theorem ti4 : tiOf Try.prog 4 = ⟨.bool, 1, 1, some [.bool false]⟩ := by kernel_rfl
theorem ti5 : tiOf Try.prog 5 = ⟨.int .u8, 1, 1, some [.int .u8 0]⟩ := by kernel_rfl
theorem ti9 : tiOf Try.prog 9 = ⟨.str, 1, 16, some [.string ⟨#[]⟩]⟩ := by kernel_rfl
theorem ti22 : tiOf Try.prog 22 = ⟨.slice 3 1, 1, 24, some [.slice none 0 0]⟩ := by kernel_rfl
theorem ti23 : tiOf Try.prog 23 = ⟨.slice 45 3, 1, 24, some [.slice none 0 0]⟩ := by kernel_rfl
theorem ti25 : tiOf Try.prog 25 = ⟨.struct [(0, 22, 1), (1, 23, 1)], 2, 48, some [.slice none 0 0, .slice none 0 0]⟩ := by kernel_rfl
theorem ti27 : tiOf Try.prog 27 = ⟨.struct [(0, 3, 1), (1, 3, 1)], 2, 16, some [.int .i64 0, .int .i64 0]⟩ := by kernel_rfl
theorem ti28 : tiOf Try.prog 28 = ⟨.slice 27 2, 1, 24, some [.slice none 0 0]⟩ := by kernel_rfl
theorem ti30 : tiOf Try.prog 30 = ⟨.struct [(0, 27, 2), (2, 28, 1), (3, 28, 1)], 4, 64, some [.int .i64 0, .int .i64 0, .slice none 0 0, .slice none 0 0]⟩ := by kernel_rfl
theorem ti34 : tiOf Try.prog 34 = ⟨.int .i64, 1, 8, some [.int .i64 0]⟩ := by kernel_rfl
theorem ti45 : tiOf Try.prog 45 = ⟨.struct [(0, 22, 1), (1, 3, 1), (2, 3, 1)], 3, 40, some [.slice none 0 0, .int .i64 0, .int .i64 0]⟩ := by kernel_rfl
theorem ti72 : tiOf Try.prog 72 = ⟨.slice 28 1, 1, 24, some [.slice none 0 0]⟩ := by kernel_rfl
theorem ti75 : tiOf Try.prog 75 = ⟨.struct [(0, 34, 1)], 1, 8, some [.int .i64 0]⟩ := by kernel_rfl
theorem ti81 : tiOf Try.prog 81 = ⟨.int .u64, 1, 8, some [.int .u64 0]⟩ := by kernel_rfl
theorem ti83 : tiOf Try.prog 83 = ⟨.struct [(0, 81, 1), (1, 81, 1)], 2, 16, some [.int .u64 0, .int .u64 0]⟩ := by kernel_rfl
theorem ti91 : tiOf Try.prog 91 = ⟨.slice 22 1, 1, 24, some [.slice none 0 0]⟩ := by kernel_rfl
theorem ti93 : tiOf Try.prog 93 = ⟨.struct [(0, 91, 1), (1, 3, 1), (2, 22, 1), (3, 22, 1), (4, 22, 1), (5, 3, 1), (6, 3, 1)], 7, 120, some [.slice none 0 0, .int .i64 0, .slice none 0 0, .slice none 0 0, .slice none 0 0, .int .i64 0, .int .i64 0]⟩ := by kernel_rfl
theorem ti96 : tiOf Try.prog 96 = ⟨.struct [(0, 81, 1), (1, 81, 1)], 2, 16, some [.int .u64 0, .int .u64 0]⟩ := by kernel_rfl
theorem ti102 : tiOf Try.prog 102 = ⟨.struct [(0, 91, 1), (1, 22, 1), (2, 3, 1), (3, 3, 1)], 4, 64, some [.slice none 0 0, .slice none 0 0, .int .i64 0, .int .i64 0]⟩ := by kernel_rfl
theorem ti110 : tiOf Try.prog 110 = ⟨.func, 1, 8, some [.nilFunc]⟩ := by kernel_rfl
theorem ti140 : tiOf Try.prog 140 = ⟨.int .u64, 1, 8, some [.int .u64 0]⟩ := by kernel_rfl
theorem ti142 : tiOf Try.prog 142 = ⟨.struct [(0, 4, 1), (1, 81, 1), (2, 81, 1)], 3, 24, some [.bool false, .int .u64 0, .int .u64 0]⟩ := by kernel_rfl
theorem ti149 : tiOf Try.prog 149 = ⟨.other, 1, 16, some [.nilIface]⟩ := by kernel_rfl
attribute [push_cast] ti3 ti4 ti5 ti9 ti22 ti23 ti25 ti27 ti28 ti30 ti34 ti45 ti72 ti75 ti81 ti83 ti91 ti93 ti96 ti102 ti110 ti140 ti142 ti149

end Go.Proofs.Ytmefgachdnlaoaa
