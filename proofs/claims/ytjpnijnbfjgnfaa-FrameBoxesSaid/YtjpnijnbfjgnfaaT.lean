/- Openers of the laws' arguments: turns and points. -/
import Derived.Test.YtjpnijnbfjgnfaaQ
import Derived.Test.YtjpnijnbfjgnfaaLaw
import Derived.Lib.SmallJoins
namespace Go.Proofs.Ytjpnijnbfjgnfaa
open Go.ChangeShapes Go.WideShapes Go.ChangeAt Go.RowKit Go.Joins
theorem Try.own : ownKnob Try.prog.godebug = none := by kernel_rfl
theorem Try.laidOut : laidOutB Try.prog = true := by kernel_rfl
theorem Try.cells23 : Try.prog.cellsOf 23 = 2 := by kernel_rfl
theorem Try.cells37 : Try.prog.cellsOf 37 = 3 := by kernel_rfl
section
variable {H : Type} {enc : TypeId × Value → H} {W : World} {base b0 : Nat} {spare : Nat → Bool} {held : Bool} {r : Reach} {v : Value} {d : DataW H} {p : List MemPlace}
set_option maxRecDepth 100000 in
theorem open_turn (hv : Value.okWide Try.prog W r b0 23 v) (h : DataW.Trod enc Try.prog W base spare held 23 v d p) : ∃ x y : Int, v = T2 x y ∧ p = [] := by
  obtain ⟨c0, c1, y0, y1, m, rfl, _, rfl, h0, h1⟩ := open_agg2 Try.underlying23 (by kernel_rfl) Try.cells23 hv h
  obtain ⟨a, e0, rfl, _⟩ := DataW.trod_int Try.underlying3 h0
  obtain ⟨b, e1, rfl, _⟩ := DataW.trod_int Try.underlying3 h1
  simp at e0 e1
  subst e0 e1
  exact ⟨a, b, rfl, rfl⟩
set_option maxRecDepth 100000 in
theorem open_pt (hv : Value.okWide Try.prog W r b0 37 v) (h : DataW.Trod enc Try.prog W base spare held 37 v d p) : ∃ x y z : Int, v = A3 x y z ∧ p = [] := by
  obtain ⟨c0, c1, c2, y0, y1, y2, m, rfl, _, rfl, h0, h1, h2⟩ := open_agg3 Try.underlying37 (by kernel_rfl) Try.cells37 hv h
  obtain ⟨a, e0, rfl, _⟩ := DataW.trod_int Try.underlying3 h0
  obtain ⟨b, e1, rfl, _⟩ := DataW.trod_int Try.underlying3 h1
  obtain ⟨c, e2, rfl, _⟩ := DataW.trod_int Try.underlying3 h2
  simp at e0 e1 e2
  subst e0 e1 e2
  exact ⟨a, b, c, rfl, rfl⟩
end
end Go.Proofs.Ytjpnijnbfjgnfaa
