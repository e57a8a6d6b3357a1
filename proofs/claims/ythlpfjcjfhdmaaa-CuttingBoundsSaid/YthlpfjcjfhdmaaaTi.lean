/- What the executor reads of the program's types, by the kernel. -/
import Derived.Test.YthlpfjcjfhdmaaaSx
import Derived.Test.YthlpfjcjfhdmaaaProg
set_option maxRecDepth 100000
set_option linter.unusedSimpArgs false
set_option linter.unusedVariables false
namespace Go.Proofs.Ythlpfjcjfhdmaaa
open Go.RowKit
theorem mixed : Try.prog.follows .mixedOrders = true := by kernel_rfl
theorem ti3 : tiOf Try.prog 3 = ⟨.int .i64, 1, 8, some [.int .i64 0]⟩ := by kernel_rfl
theorem ti4 : tiOf Try.prog 4 = ⟨.bool, 1, 1, some [.bool false]⟩ := by kernel_rfl
theorem ti5 : tiOf Try.prog 5 = ⟨.int .u8, 1, 1, some [.int .u8 0]⟩ := by kernel_rfl
theorem ti22 : tiOf Try.prog 22 = ⟨.slice 65 2, 1, 24, some [.slice none 0 0]⟩ := by kernel_rfl
theorem ti23 : tiOf Try.prog 23 = ⟨.slice 43 2, 1, 24, some [.slice none 0 0]⟩ := by kernel_rfl
theorem ti27 : tiOf Try.prog 27 = ⟨.slice 50 3, 1, 24, some [.slice none 0 0]⟩ := by kernel_rfl
theorem ti28 : tiOf Try.prog 28 = ⟨.int .i64, 1, 8, some [.int .i64 0]⟩ := by kernel_rfl
theorem ti36 : tiOf Try.prog 36 = ⟨.int .u32, 1, 4, some [.int .u32 0]⟩ := by kernel_rfl
theorem ti37 : tiOf Try.prog 37 = ⟨.func, 1, 8, some [.nilFunc]⟩ := by kernel_rfl
theorem ti43 : tiOf Try.prog 43 = ⟨.struct [(0, 3, 1), (1, 3, 1)], 2, 16, some [.int .i64 0, .int .i64 0]⟩ := by kernel_rfl
theorem ti46 : tiOf Try.prog 46 = ⟨.int .i8, 1, 1, some [.int .i8 0]⟩ := by kernel_rfl
theorem ti48 : tiOf Try.prog 48 = ⟨.slice 3 1, 1, 24, some [.slice none 0 0]⟩ := by kernel_rfl
theorem ti50 : tiOf Try.prog 50 = ⟨.struct [(0, 3, 1), (1, 48, 1), (2, 3, 1)], 3, 40, some [.int .i64 0, .slice none 0 0, .int .i64 0]⟩ := by kernel_rfl
theorem ti65 : tiOf Try.prog 65 = ⟨.struct [(0, 3, 1), (1, 3, 1)], 2, 16, some [.int .i64 0, .int .i64 0]⟩ := by kernel_rfl
theorem ti78 : tiOf Try.prog 78 = ⟨.slice 82 3, 1, 24, some [.slice none 0 0]⟩ := by kernel_rfl
theorem ti82 : tiOf Try.prog 82 = ⟨.struct [(0, 3, 1), (1, 3, 1), (2, 48, 1)], 3, 40, some [.int .i64 0, .int .i64 0, .slice none 0 0]⟩ := by kernel_rfl
theorem ti86 : tiOf Try.prog 86 = ⟨.slice 89 3, 1, 24, some [.slice none 0 0]⟩ := by kernel_rfl
theorem ti89 : tiOf Try.prog 89 = ⟨.struct [(0, 3, 1), (1, 3, 1), (2, 48, 1)], 3, 40, some [.int .i64 0, .int .i64 0, .slice none 0 0]⟩ := by kernel_rfl
theorem ti94 : tiOf Try.prog 94 = ⟨.struct [(0, 3, 1), (1, 23, 1), (2, 48, 1), (3, 78, 1)], 4, 80, some [.int .i64 0, .slice none 0 0, .slice none 0 0, .slice none 0 0]⟩ := by kernel_rfl
theorem ti102 : tiOf Try.prog 102 = ⟨.slice 37 1, 1, 24, some [.slice none 0 0]⟩ := by kernel_rfl
theorem ti104 : tiOf Try.prog 104 = ⟨.map 3 4, 1, 8, some [.map none]⟩ := by kernel_rfl
theorem ti114 : tiOf Try.prog 114 = ⟨.struct [(0, 3, 1), (1, 3, 1)], 2, 16, some [.int .i64 0, .int .i64 0]⟩ := by kernel_rfl
theorem ti116 : tiOf Try.prog 116 = ⟨.int .u64, 1, 8, some [.int .u64 0]⟩ := by kernel_rfl
theorem ti125 : tiOf Try.prog 125 = ⟨.int .u64, 1, 8, some [.int .u64 0]⟩ := by kernel_rfl
theorem zo4 : zOf Try.prog 4 = some (.bool false) := by kernel_rfl
attribute [push_cast] zo4
attribute [push_cast] ti3 ti4 ti5 ti22 ti23 ti27 ti28 ti36 ti37 ti43 ti46 ti48 ti50 ti65 ti78 ti82 ti86 ti89 ti94 ti102 ti104 ti114 ti116 ti125

end Go.Proofs.Ythlpfjcjfhdmaaa
