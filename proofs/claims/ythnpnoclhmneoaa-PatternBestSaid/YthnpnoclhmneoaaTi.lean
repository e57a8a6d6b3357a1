/- What the executor reads of the program's types, by the kernel. -/
import Derived.Test.YthnpnoclhmneoaaSx
import Derived.Test.YthnpnoclhmneoaaProg
set_option maxRecDepth 100000
set_option linter.unusedSimpArgs false
set_option linter.unusedVariables false
namespace Go.Proofs.Ythnpnoclhmneoaa
open Go.RowKit
theorem mixed : Try.prog.follows .mixedOrders = true := by kernel_rfl
theorem ti3 : tiOf Try.prog 3 = ⟨.int .i64, 1, 8, some [.int .i64 0]⟩ := by kernel_rfl
theorem ti4 : tiOf Try.prog 4 = ⟨.bool, 1, 1, some [.bool false]⟩ := by kernel_rfl
theorem ti5 : tiOf Try.prog 5 = ⟨.int .u8, 1, 1, some [.int .u8 0]⟩ := by kernel_rfl
theorem ti22 : tiOf Try.prog 22 = ⟨.slice 44 2, 1, 24, some [.slice none 0 0]⟩ := by kernel_rfl
theorem ti25 : tiOf Try.prog 25 = ⟨.slice 32 1, 1, 24, some [.slice none 0 0]⟩ := by kernel_rfl
theorem ti26 : tiOf Try.prog 26 = ⟨.int .i64, 1, 8, some [.int .i64 0]⟩ := by kernel_rfl
theorem ti32 : tiOf Try.prog 32 = ⟨.slice 3 1, 1, 24, some [.slice none 0 0]⟩ := by kernel_rfl
theorem ti41 : tiOf Try.prog 41 = ⟨.int .u16, 1, 2, some [.int .u16 0]⟩ := by kernel_rfl
theorem ti44 : tiOf Try.prog 44 = ⟨.struct [(0, 3, 1), (1, 3, 1)], 2, 16, some [.int .i64 0, .int .i64 0]⟩ := by kernel_rfl
theorem ti64 : tiOf Try.prog 64 = ⟨.struct [(0, 22, 1), (1, 32, 1), (2, 32, 1), (3, 25, 1), (4, 32, 1), (5, 32, 1), (6, 3, 1)], 7, 152, some [.slice none 0 0, .slice none 0 0, .slice none 0 0, .slice none 0 0, .slice none 0 0, .slice none 0 0, .int .i64 0]⟩ := by kernel_rfl
attribute [push_cast] ti3 ti4 ti5 ti22 ti25 ti26 ti32 ti41 ti44 ti64

end Go.Proofs.Ythnpnoclhmneoaa
