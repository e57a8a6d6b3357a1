/- FrameBoxes by the executor: the law's contract. -/
import Derived.Test.YtjpnijnbfjgnfaaFC
import Derived.Test.YtjpnijnbfjgnfaaXIn
set_option maxRecDepth 100000
set_option linter.unusedSimpArgs false
set_option linter.unusedVariables false
set_option linter.unusedSimpArgs false
set_option linter.unusedVariables false
namespace Go.Proofs.Ytjpnijnbfjgnfaa.X
open Go.ChangeShapes Go.WideShapes Go.ChangeAt Go.RowKit
theorem lawBoxes_any (x y a b c l0 l1 l2 h0 h1 h2 u0 u1 u2 : Int) (w : World) (hu0 : 0 ≤ u0 ∧ u0 ≤ 65535) (hu1 : 0 ≤ u1 ∧ u1 ≤ 65535) (hu2 : 0 ≤ u2 ∧ u2 ≤ 65535) :
    Calls Try.prog 9 #[T2 x y, A3 a b c, A6 l0 l1 l2 h0 h1 h2, .int .u16 u0, .int .u16 u1, .int .u16 u2] w fun e w' => e = .returned (.bool true) ∧ Below w.heap.size w w' :=
  run_of_sp (lboxes_sp x y a b c l0 l1 l2 h0 h1 h2 u0 u1 u2 hu0 hu1 hu2) rfl (fun _ _ h => h) (inv_in rowsIn_nil) (gndL_fit _ (vs := [T2 x y, A3 a b c, A6 l0 l1 l2 h0 h1 h2, .int .u16 u0, .int .u16 u1, .int .u16 u2]) rfl)
section
variable {H : Type} {enc : TypeId × Value → H} {base : Nat} {held : Bool}
theorem trodAll_six {P : Program} {w : World} {spare : Nat → Bool} {t t1 t2 t3 t4 t5 : TypeId} {args : Array Value} {ds : List (DataW H)} {ps : List MemPlace} (h : DataW.TrodAll enc P w base spare held [t, t1, t2, t3, t4, t5] args.toList ds ps) :
    ∃ v v1 v2 v3 v4 v5 d d1 d2 d3 d4 d5 p p1 p2 p3 p4 p5, args = #[v, v1, v2, v3, v4, v5] ∧ ds = [d, d1, d2, d3, d4, d5] ∧ ps = p ++ p1 ++ p2 ++ p3 ++ p4 ++ p5 ∧ DataW.Trod enc P w base spare held t v d p ∧ DataW.Trod enc P w base spare held t1 v1 d1 p1 ∧ DataW.Trod enc P w base spare held t2 v2 d2 p2 ∧ DataW.Trod enc P w base spare held t3 v3 d3 p3 ∧ DataW.Trod enc P w base spare held t4 v4 d4 p4 ∧ DataW.Trod enc P w base spare held t5 v5 d5 p5 := by
  obtain ⟨v, vs, d, ds', p, q, hargs, rfl, rfl, hd, hrest⟩ := trodAll_cons h
  obtain ⟨v1, vs1, d1, ds1, p1, q1, rfl, rfl, rfl, hd1, hrest1⟩ := trodAll_cons hrest
  obtain ⟨v2, vs2, d2, ds2, p2, q2, rfl, rfl, rfl, hd2, hrest2⟩ := trodAll_cons hrest1
  obtain ⟨v3, vs3, d3, ds3, p3, q3, rfl, rfl, rfl, hd3, hrest3⟩ := trodAll_cons hrest2
  obtain ⟨v4, vs4, d4, ds4, p4, q4, rfl, rfl, rfl, hd4, hrest4⟩ := trodAll_cons hrest3
  obtain ⟨v5, vs5, d5, ds5, p5, q5, rfl, rfl, rfl, hd5, hrest5⟩ := trodAll_cons hrest4
  obtain ⟨rfl, rfl, rfl⟩ := trodAll_nil hrest5
  exact ⟨v, v1, v2, v3, v4, v5, d, d1, d2, d3, d4, d5, p, p1, p2, p3, p4, p5, by cases args; simp_all, rfl, by simp, hd, hd1, hd2, hd3, hd4, hd5⟩
end
end Go.Proofs.Ytjpnijnbfjgnfaa.X
