/- What the executor reads of the program's types, by the kernel. -/
import Derived.Test.YtdinkpefoljigaaSx
import Derived.Test.YtdinkpefoljigaaProg
set_option maxRecDepth 100000
set_option linter.unusedSimpArgs false
set_option linter.unusedVariables false
namespace Go.Proofs.Ytdinkpefoljigaa
open Go.RowKit
theorem mixed : Try.prog.follows .mixedOrders = true := by kernel_rfl
theorem ti3 : tiOf Try.prog 3 = ⟨.int .i64, 1, 8, some [.int .i64 0]⟩ := by kernel_rfl
theorem ti4 : tiOf Try.prog 4 = ⟨.bool, 1, 1, some [.bool false]⟩ := by kernel_rfl
theorem ti5 : tiOf Try.prog 5 = ⟨.int .u8, 1, 1, some [.int .u8 0]⟩ := by kernel_rfl
theorem ti9 : tiOf Try.prog 9 = ⟨.str, 1, 16, some [.string ⟨#[]⟩]⟩ := by kernel_rfl
theorem ti22 : tiOf Try.prog 22 = ⟨.slice 48 4, 1, 24, some [.slice none 0 0]⟩ := by kernel_rfl
theorem ti25 : tiOf Try.prog 25 = ⟨.slice 36 1, 1, 24, some [.slice none 0 0]⟩ := by kernel_rfl
theorem ti26 : tiOf Try.prog 26 = ⟨.int .i64, 1, 8, some [.int .i64 0]⟩ := by kernel_rfl
theorem ti36 : tiOf Try.prog 36 = ⟨.slice 3 1, 1, 24, some [.slice none 0 0]⟩ := by kernel_rfl
theorem ti45 : tiOf Try.prog 45 = ⟨.int .u32, 1, 4, some [.int .u32 0]⟩ := by kernel_rfl
theorem ti48 : tiOf Try.prog 48 = ⟨.struct [(0, 9, 1), (1, 9, 1), (2, 3, 1), (3, 3, 1)], 4, 48, some [.string ⟨#[]⟩, .string ⟨#[]⟩, .int .i64 0, .int .i64 0]⟩ := by kernel_rfl
theorem ti68 : tiOf Try.prog 68 = ⟨.slice 4 1, 1, 24, some [.slice none 0 0]⟩ := by kernel_rfl
theorem ti69 : tiOf Try.prog 69 = ⟨.map 3 4, 1, 8, some [.map none]⟩ := by kernel_rfl
theorem ti72 : tiOf Try.prog 72 = ⟨.struct [(0, 22, 1), (1, 36, 1), (2, 3, 1), (3, 25, 1)], 4, 80, some [.slice none 0 0, .slice none 0 0, .int .i64 0, .slice none 0 0]⟩ := by kernel_rfl
theorem ti76 : tiOf Try.prog 76 = ⟨.map 9 4, 1, 8, some [.map none]⟩ := by kernel_rfl
theorem ti82 : tiOf Try.prog 82 = ⟨.slice 5 1, 1, 24, some [.slice none 0 0]⟩ := by kernel_rfl
theorem ti98 : tiOf Try.prog 98 = ⟨.int .u64, 1, 8, some [.int .u64 0]⟩ := by kernel_rfl
theorem zo4 : zOf Try.prog 4 = some (.bool false) := by kernel_rfl
attribute [push_cast] zo4
attribute [push_cast] ti3 ti4 ti5 ti9 ti22 ti25 ti26 ti36 ti45 ti48 ti68 ti69 ti72 ti76 ti82 ti98

end Go.Proofs.Ytdinkpefoljigaa
