/- What the executor reads of the program's types, by the kernel. -/
import Derived.Test.YtekokeiajgcfkaaSx
import Derived.Test.YtekokeiajgcfkaaProg
set_option maxRecDepth 100000
set_option linter.unusedSimpArgs false
set_option linter.unusedVariables false
namespace Go.Proofs.Ytekokeiajgcfkaa
open Go.RowKit
theorem mixed : Try.prog.follows .mixedOrders = true := by kernel_rfl
theorem ti3 : tiOf Try.prog 3 = ⟨.int .i64, 1, 8, some [.int .i64 0]⟩ := by kernel_rfl
theorem ti5 : tiOf Try.prog 5 = ⟨.int .u8, 1, 1, some [.int .u8 0]⟩ := by kernel_rfl
theorem ti9 : tiOf Try.prog 9 = ⟨.str, 1, 16, some [.string ⟨#[]⟩]⟩ := by kernel_rfl
theorem ti22 : tiOf Try.prog 22 = ⟨.slice 33 2, 1, 24, some [.slice none 0 0]⟩ := by kernel_rfl
theorem ti25 : tiOf Try.prog 25 = ⟨.int .i64, 1, 8, some [.int .i64 0]⟩ := by kernel_rfl
theorem ti33 : tiOf Try.prog 33 = ⟨.struct [(0, 3, 1), (1, 3, 1)], 2, 16, some [.int .i64 0, .int .i64 0]⟩ := by kernel_rfl
theorem ti37 : tiOf Try.prog 37 = ⟨.func, 1, 8, some [.nilFunc]⟩ := by kernel_rfl
theorem ti51 : tiOf Try.prog 51 = ⟨.int .u32, 1, 4, some [.int .u32 0]⟩ := by kernel_rfl
theorem ti56 : tiOf Try.prog 56 = ⟨.slice 3 1, 1, 24, some [.slice none 0 0]⟩ := by kernel_rfl
theorem ti61 : tiOf Try.prog 61 = ⟨.slice 22 1, 1, 24, some [.slice none 0 0]⟩ := by kernel_rfl
theorem ti72 : tiOf Try.prog 72 = ⟨.int .u64, 1, 8, some [.int .u64 0]⟩ := by kernel_rfl
theorem ti77 : tiOf Try.prog 77 = ⟨.int .i64, 1, 8, some [.int .i64 0]⟩ := by kernel_rfl
theorem ti86 : tiOf Try.prog 86 = ⟨.int .u64, 1, 8, some [.int .u64 0]⟩ := by kernel_rfl
theorem ti88 : tiOf Try.prog 88 = ⟨.int .u64, 1, 8, some [.int .u64 0]⟩ := by kernel_rfl
attribute [push_cast] ti3 ti5 ti9 ti22 ti25 ti33 ti37 ti51 ti56 ti61 ti72 ti77 ti86 ti88

end Go.Proofs.Ytekokeiajgcfkaa
