/- What the executor reads of the program's types, by the kernel. -/
import Derived.Test.YtgbldceimdjblaaSx
import Derived.Test.YtgbldceimdjblaaProg
set_option maxRecDepth 100000
set_option linter.unusedSimpArgs false
set_option linter.unusedVariables false
namespace Go.Proofs.Ytgbldceimdjblaa
open Go.RowKit
theorem mixed : Try.prog.follows .mixedOrders = true := by kernel_rfl
theorem ti3 : tiOf Try.prog 3 = ⟨.int .i64, 1, 8, some [.int .i64 0]⟩ := by kernel_rfl
theorem ti4 : tiOf Try.prog 4 = ⟨.bool, 1, 1, some [.bool false]⟩ := by kernel_rfl
theorem ti5 : tiOf Try.prog 5 = ⟨.int .u8, 1, 1, some [.int .u8 0]⟩ := by kernel_rfl
theorem ti9 : tiOf Try.prog 9 = ⟨.str, 1, 16, some [.string ⟨#[]⟩]⟩ := by kernel_rfl
theorem ti22 : tiOf Try.prog 22 = ⟨.slice 43 3, 1, 24, some [.slice none 0 0]⟩ := by kernel_rfl
theorem ti25 : tiOf Try.prog 25 = ⟨.slice 3 1, 1, 24, some [.slice none 0 0]⟩ := by kernel_rfl
theorem ti26 : tiOf Try.prog 26 = ⟨.int .i64, 1, 8, some [.int .i64 0]⟩ := by kernel_rfl
theorem ti43 : tiOf Try.prog 43 = ⟨.struct [(0, 9, 1), (1, 3, 1), (2, 3, 1)], 3, 32, some [.string ⟨#[]⟩, .int .i64 0, .int .i64 0]⟩ := by kernel_rfl
theorem ti47 : tiOf Try.prog 47 = ⟨.struct [(0, 9, 1), (1, 3, 1), (2, 3, 1), (3, 3, 1), (4, 25, 1)], 5, 64, some [.string ⟨#[]⟩, .int .i64 0, .int .i64 0, .int .i64 0, .slice none 0 0]⟩ := by kernel_rfl
theorem ti48 : tiOf Try.prog 48 = ⟨.slice 47 5, 1, 24, some [.slice none 0 0]⟩ := by kernel_rfl
theorem ti81 : tiOf Try.prog 81 = ⟨.slice 84 2, 1, 24, some [.slice none 0 0]⟩ := by kernel_rfl
theorem ti84 : tiOf Try.prog 84 = ⟨.struct [(0, 3, 1), (1, 5, 1)], 2, 16, some [.int .i64 0, .int .u8 0]⟩ := by kernel_rfl
theorem ti88 : tiOf Try.prog 88 = ⟨.int .u64, 1, 8, some [.int .u64 0]⟩ := by kernel_rfl
attribute [push_cast] ti3 ti4 ti5 ti9 ti22 ti25 ti26 ti43 ti47 ti48 ti81 ti84 ti88

end Go.Proofs.Ytgbldceimdjblaa
