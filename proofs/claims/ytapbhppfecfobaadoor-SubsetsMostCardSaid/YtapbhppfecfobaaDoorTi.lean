/- What the executor reads of the program's types, by the kernel. -/
import Derived.Test.YtapbhppfecfobaaDoorSx
import Derived.Test.YtapbhppfecfobaaDoorProg
set_option maxRecDepth 100000
set_option linter.unusedSimpArgs false
set_option linter.unusedVariables false
namespace Go.Proofs.YtapbhppfecfobaaDoor
open Go.RowKit
theorem mixed : Tryd.prog.follows .mixedOrders = true := by kernel_rfl
theorem ti3 : tiOf Tryd.prog 3 = ⟨.int .i64, 1, 8, some [.int .i64 0]⟩ := by kernel_rfl
theorem ti4 : tiOf Tryd.prog 4 = ⟨.bool, 1, 1, some [.bool false]⟩ := by kernel_rfl
theorem ti5 : tiOf Tryd.prog 5 = ⟨.int .u8, 1, 1, some [.int .u8 0]⟩ := by kernel_rfl
theorem ti9 : tiOf Tryd.prog 9 = ⟨.str, 1, 16, some [.string ⟨#[]⟩]⟩ := by kernel_rfl
theorem ti22 : tiOf Tryd.prog 22 = ⟨.slice 3 1, 1, 24, some [.slice none 0 0]⟩ := by kernel_rfl
theorem ti25 : tiOf Tryd.prog 25 = ⟨.int .i64, 1, 8, some [.int .i64 0]⟩ := by kernel_rfl
theorem ti35 : tiOf Tryd.prog 35 = ⟨.int .u32, 1, 4, some [.int .u32 0]⟩ := by kernel_rfl
theorem ti38 : tiOf Tryd.prog 38 = ⟨.slice 22 1, 1, 24, some [.slice none 0 0]⟩ := by kernel_rfl
theorem ti52 : tiOf Tryd.prog 52 = ⟨.slice 5 1, 1, 24, some [.slice none 0 0]⟩ := by kernel_rfl
theorem ti53 : tiOf Tryd.prog 53 = ⟨.map 5 3, 1, 8, some [.map none]⟩ := by kernel_rfl
theorem ti56 : tiOf Tryd.prog 56 = ⟨.func, 1, 8, some [.nilFunc]⟩ := by kernel_rfl
theorem ti61 : tiOf Tryd.prog 61 = ⟨.int .u64, 1, 8, some [.int .u64 0]⟩ := by kernel_rfl
theorem ti63 : tiOf Tryd.prog 63 = ⟨.int .u32, 1, 4, some [.int .u32 0]⟩ := by kernel_rfl
theorem ti71 : tiOf Tryd.prog 71 = ⟨.slice 4 1, 1, 24, some [.slice none 0 0]⟩ := by kernel_rfl
theorem ti78 : tiOf Tryd.prog 78 = ⟨.int .u64, 1, 8, some [.int .u64 0]⟩ := by kernel_rfl
theorem ti80 : tiOf Tryd.prog 80 = ⟨.int .i64, 1, 8, some [.int .i64 0]⟩ := by kernel_rfl
theorem ti86 : tiOf Tryd.prog 86 = ⟨.array 32 5 1, 32, 32, some [.int .u8 0, .int .u8 0, .int .u8 0, .int .u8 0, .int .u8 0, .int .u8 0, .int .u8 0, .int .u8 0, .int .u8 0, .int .u8 0, .int .u8 0, .int .u8 0, .int .u8 0, .int .u8 0, .int .u8 0, .int .u8 0, .int .u8 0, .int .u8 0, .int .u8 0, .int .u8 0, .int .u8 0, .int .u8 0, .int .u8 0, .int .u8 0, .int .u8 0, .int .u8 0, .int .u8 0, .int .u8 0, .int .u8 0, .int .u8 0, .int .u8 0, .int .u8 0]⟩ := by kernel_rfl
theorem ti87 : tiOf Tryd.prog 87 = ⟨.array 64 5 1, 64, 64, some [.int .u8 0, .int .u8 0, .int .u8 0, .int .u8 0, .int .u8 0, .int .u8 0, .int .u8 0, .int .u8 0, .int .u8 0, .int .u8 0, .int .u8 0, .int .u8 0, .int .u8 0, .int .u8 0, .int .u8 0, .int .u8 0, .int .u8 0, .int .u8 0, .int .u8 0, .int .u8 0, .int .u8 0, .int .u8 0, .int .u8 0, .int .u8 0, .int .u8 0, .int .u8 0, .int .u8 0, .int .u8 0, .int .u8 0, .int .u8 0, .int .u8 0, .int .u8 0, .int .u8 0, .int .u8 0, .int .u8 0, .int .u8 0, .int .u8 0, .int .u8 0, .int .u8 0, .int .u8 0, .int .u8 0, .int .u8 0, .int .u8 0, .int .u8 0, .int .u8 0, .int .u8 0, .int .u8 0, .int .u8 0, .int .u8 0, .int .u8 0, .int .u8 0, .int .u8 0, .int .u8 0, .int .u8 0, .int .u8 0, .int .u8 0, .int .u8 0, .int .u8 0, .int .u8 0, .int .u8 0, .int .u8 0, .int .u8 0, .int .u8 0, .int .u8 0]⟩ := by kernel_rfl
theorem ti88 : tiOf Tryd.prog 88 = ⟨.int .u64, 1, 8, some [.int .u64 0]⟩ := by kernel_rfl
theorem zo3 : zOf Tryd.prog 3 = some (.int .i64 0) := by kernel_rfl
attribute [push_cast] zo3
attribute [push_cast] ti3 ti4 ti5 ti9 ti22 ti25 ti35 ti38 ti52 ti53 ti56 ti61 ti63 ti71 ti78 ti80 ti86 ti87 ti88

end Go.Proofs.YtapbhppfecfobaaDoor
