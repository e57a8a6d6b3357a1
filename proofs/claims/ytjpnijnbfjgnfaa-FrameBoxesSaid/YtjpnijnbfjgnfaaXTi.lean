/- What the executor reads of the program's types, by the kernel. -/
import Derived.Test.YtjpnijnbfjgnfaaSx
import Derived.Test.YtjpnijnbfjgnfaaProg
set_option maxRecDepth 100000
set_option linter.unusedSimpArgs false
set_option linter.unusedVariables false
namespace Go.Proofs.Ytjpnijnbfjgnfaa.X
open Go.RowKit
theorem mixed : Try.prog.follows .mixedOrders = true := by kernel_rfl
theorem ti3 : tiOf Try.prog 3 = ⟨.int .i64, 1, 8, some [.int .i64 0]⟩ := by kernel_rfl
theorem ti4 : tiOf Try.prog 4 = ⟨.bool, 1, 1, some [.bool false]⟩ := by kernel_rfl
theorem ti5 : tiOf Try.prog 5 = ⟨.int .u8, 1, 1, some [.int .u8 0]⟩ := by kernel_rfl
theorem ti9 : tiOf Try.prog 9 = ⟨.str, 1, 16, some [.string ⟨#[]⟩]⟩ := by kernel_rfl
theorem ti23 : tiOf Try.prog 23 = ⟨.struct [(0, 3, 1), (1, 3, 1)], 2, 16, some [.int .i64 0, .int .i64 0]⟩ := by kernel_rfl
theorem ti27 : tiOf Try.prog 27 = ⟨.slice 23 2, 1, 24, some [.slice none 0 0]⟩ := by kernel_rfl
theorem ti29 : tiOf Try.prog 29 = ⟨.int .i64, 1, 8, some [.int .i64 0]⟩ := by kernel_rfl
theorem ti37 : tiOf Try.prog 37 = ⟨.struct [(0, 3, 1), (1, 3, 1), (2, 3, 1)], 3, 24, some [.int .i64 0, .int .i64 0, .int .i64 0]⟩ := by kernel_rfl
theorem ti45 : tiOf Try.prog 45 = ⟨.slice 37 3, 1, 24, some [.slice none 0 0]⟩ := by kernel_rfl
theorem ti50 : tiOf Try.prog 50 = ⟨.struct [(0, 37, 3), (3, 37, 3)], 6, 48, some [.int .i64 0, .int .i64 0, .int .i64 0, .int .i64 0, .int .i64 0, .int .i64 0]⟩ := by kernel_rfl
theorem ti63 : tiOf Try.prog 63 = ⟨.int .u16, 1, 2, some [.int .u16 0]⟩ := by kernel_rfl
theorem ti65 : tiOf Try.prog 65 = ⟨.slice 3 1, 1, 24, some [.slice none 0 0]⟩ := by kernel_rfl
theorem ti79 : tiOf Try.prog 79 = ⟨.int .u64, 1, 8, some [.int .u64 0]⟩ := by kernel_rfl
theorem ti80 : tiOf Try.prog 80 = ⟨.array 3 3 1, 3, 24, some [.int .i64 0, .int .i64 0, .int .i64 0]⟩ := by kernel_rfl
theorem ti81 : tiOf Try.prog 81 = ⟨.array 3 80 3, 9, 72, some [.int .i64 0, .int .i64 0, .int .i64 0, .int .i64 0, .int .i64 0, .int .i64 0, .int .i64 0, .int .i64 0, .int .i64 0]⟩ := by kernel_rfl
theorem ti86 : tiOf Try.prog 86 = ⟨.int .i64, 1, 8, some [.int .i64 0]⟩ := by kernel_rfl
theorem ti95 : tiOf Try.prog 95 = ⟨.int .u32, 1, 4, some [.int .u32 0]⟩ := by kernel_rfl
theorem ti97 : tiOf Try.prog 97 = ⟨.int .u64, 1, 8, some [.int .u64 0]⟩ := by kernel_rfl
theorem ti99 : tiOf Try.prog 99 = ⟨.int .u64, 1, 8, some [.int .u64 0]⟩ := by kernel_rfl
attribute [push_cast] ti3 ti4 ti5 ti9 ti23 ti27 ti29 ti37 ti45 ti50 ti63 ti65 ti79 ti80 ti81 ti86 ti95 ti97 ti99

end Go.Proofs.Ytjpnijnbfjgnfaa.X
