/- Openers: bytes that come in. -/
import Derived.Test.YtapbhppfecfobaaDoorZ
import Derived.Test.YtapbhppfecfobaaDoorIn
import Derived.OpenShut
import Derived.Deep.Strs
import Derived.Lib.SmallJoins
import Derived.Carry
set_option linter.unusedSimpArgs false
set_option linter.unusedVariables false
namespace Go.Proofs.YtapbhppfecfobaaDoor
open Go.ChangeShapes Go.WideShapes Go.ChangeAt Go.RowKit Go.Joins
section
variable {H : Type} {enc : TypeId × Value → H} {W : World} {base b0 : Nat} {held : Bool} {r : Reach} {v : Value} {d : DataW H} {p : List MemPlace}
set_option maxRecDepth 100000 in
theorem open_bytes (hv : Value.okWide Tryd.prog W r b0 52 v) (h : DataW.Trod enc Tryd.prog W base (fun _ => true) held 52 v d p) :
    ∃ (A : Option Addr) (l : List Int) (cap : Nat) (L : Option (Nat × Nat)), v = .slice A l.length cap ∧ (∀ x ∈ l, 0 ≤ x ∧ x ≤ 255) ∧ RowIn W A l.length cap 1 L (fun k => [.v (.int .u8 (ix l k))]) := by
  obtain ⟨A, n, cap, L, G, hv, hQ, hr⟩ := open_row Tryd.underlying52 (show Tryd.prog.cellsOf 5 = 1 by kernel_rfl) (by omega) hv h (fun cs => ∃ x : Int, cs = [.int .u8 x] ∧ 0 ≤ x ∧ x ≤ 255) fun fuel cs x hx _ => by
    obtain ⟨x, rfl, _, hw⟩ := DataW.trod_int Tryd.underlying5 hx
    exact ⟨x, rfl, bounds_u8 hw⟩
  obtain ⟨l, rfl, hl⟩ := list_of hQ
  refine ⟨A, l, cap, L, hv, fun x hx => ?_, hr.as fun k hk => by rw [(hl k hk).1]; rfl⟩
  obtain ⟨k, hk, rfl⟩ := List.getElem_of_mem hx
  have := (hl k hk).2
  rwa [ix_eq hk] at this
end
end Go.Proofs.YtapbhppfecfobaaDoor
