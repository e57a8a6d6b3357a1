/- For every turn, point, box and three parts FrameBoxes returns true, and leaves its arguments as they were. No conditions. -/
import Derived.Test.YtjpnijnbfjgnfaaT
import Derived.Test.YtjpnijnbfjgnfaaFD
namespace Go.Proofs.Ytjpnijnbfjgnfaa
open Go.ChangeShapes Go.WideShapes Go.ChangeAt Go.RowKit Go.Joins
theorem Try.cells50 : Try.prog.cellsOf 50 = 6 := by kernel_rfl
theorem Try.cells3 : Try.prog.cellsOf 3 = 1 := by kernel_rfl
section
variable {H : Type} {enc : TypeId × Value → H} {W : World} {base b0 : Nat} {spare : Nat → Bool} {held : Bool} {r : Reach} {v : Value} {d : DataW H} {p : List MemPlace}
set_option maxRecDepth 100000 in
theorem open_box (hv : Value.okWide Try.prog W r b0 50 v) (h : DataW.Trod enc Try.prog W base spare held 50 v d p) : ∃ a b c d e f : Int, v = A6 a b c d e f := by
  obtain ⟨cs, rfl, hsz⟩ := okWide_struct Try.underlying50 hv
  replace hsz := hsz.trans Try.cells50
  match cs, hsz with
  | ⟨[c0, c1, c2, c3, c4, c5]⟩, _ =>
    obtain ⟨fuel, hf⟩ := h
    obtain ⟨y0, y1, n, _, _, h0, h1⟩ := trod_struct2 Try.underlying50 hf
    obtain ⟨_, _, _, m, _, _, i0, i1, i2⟩ := Go.Deep.trod_struct3 Try.underlying37 h0
    obtain ⟨_, _, _, k, _, _, j0, j1, j2⟩ := Go.Deep.trod_struct3 Try.underlying37 h1
    simp [Value.cells, Try.cells37, Try.cells3] at i0 i1 i2 j0 j1 j2
    obtain ⟨a, e0, _, _⟩ := DataW.trod_int Try.underlying3 i0
    obtain ⟨b, e1, _, _⟩ := DataW.trod_int Try.underlying3 i1
    obtain ⟨c, e2, _, _⟩ := DataW.trod_int Try.underlying3 i2
    obtain ⟨d, e3, _, _⟩ := DataW.trod_int Try.underlying3 j0
    obtain ⟨e, e4, _, _⟩ := DataW.trod_int Try.underlying3 j1
    obtain ⟨f, e5, _, _⟩ := DataW.trod_int Try.underlying3 j2
    simp at e0 e1 e2 e3 e4 e5
    subst e0 e1 e2 e3 e4 e5
    exact ⟨a, b, c, d, e, f, rfl⟩
end
theorem u16r {u : Int} (h : IntKind.min .u16 ≤ u) (h2 : u ≤ IntKind.max .u16) : 0 ≤ u ∧ u ≤ 65535 := ⟨h, h2⟩
set_option maxRecDepth 100000 in
theorem boxes_lifted (os : Os) (started : os.Started) (H : Type) (enc : TypeId × Value → H) :
    ReturnsInHanded {} Try.checked os 9 .any (Rows.frameBoxesSpec.pre6 enc Try.prog Try.f9 Rows.frameBoxesRow.domain false) (Rows.frameBoxesSpec.post enc Try.prog Try.f9 false true false false) := by
  refine returnsInHanded_of_change (C := Try.checked) Try.own started (by kernel_rfl) Try.func9
    (ChangeSpec.witness6 (enc := enc) (C := Try.checked) false ⟨#[], #[T2 0 0, A3 0 0 0, A6 0 0 0 0 0 0, .int .u16 0, .int .u16 0, .int .u16 0], []⟩ 8 (by kernel_rfl) (by kernel_rfl) (by kernel_rfl) (by kernel_rfl)) ?_
  intro W base args ds gs before hval0 hW hcnd _
  have hval : ∀ (j : Nat) t v, Try.f9.params[j]? = some t → args[j]? = some v → Value.okWide Try.prog W .any base t v := hval0
  have hW' := hW
  obtain ⟨p, q, hA0, hV, rfl, hfz, hnd⟩ := hW
  have hA : DataW.TrodAll enc Try.prog W 0 (fun _ => true) true Try.f9.params.toList args.toList ds p := hA0
  rw [Try.params9] at hA hval
  obtain ⟨v0, v1, v2, v3, v4, v5, d0, d1, d2, d3, d4, d5, p0, p1, p2, p3, p4, p5, rfl, rfl, rfl, h0, h1, h2, h3, h4, h5⟩ := X.trodAll_six hA
  obtain ⟨rfl, rfl⟩ := trodVars_none hV
  obtain ⟨x, y, rfl, rfl⟩ := open_turn (hval 0 23 v0 rfl rfl) h0
  obtain ⟨a, b, c, rfl, rfl⟩ := open_pt (hval 1 37 v1 rfl rfl) h1
  obtain ⟨l0, l1, l2, g0, g1, g2, rfl⟩ := open_box (hval 2 50 v2 rfl rfl) h2
  obtain ⟨u0, rfl, u0a, u0b⟩ := X.open_int Try.underlying63 (hval 3 63 v3 rfl rfl) h3
  obtain ⟨u1, rfl, u1a, u1b⟩ := X.open_int Try.underlying63 (hval 4 63 v4 rfl rfl) h4
  obtain ⟨u2, rfl, u2a, u2b⟩ := X.open_int Try.underlying63 (hval 5 63 v5 rfl rfl) h5
  refine (X.lawBoxes_any x y a b c l0 l1 l2 g0 g1 g2 u0 u1 u2 W (u16r u0a u0b) (u16r u1a u1b) (u16r u2a u2b)).mono fun e W' ⟨he, hb⟩ => ?_
  subst he
  exact ⟨_, rfl, law_end (P := Try.prog) (B := 4) hW' rfl rfl Try.underlying4 Try.laidOut (by kernel_rfl) rfl hb⟩
theorem boxes_holds : Rows.FrameBoxesSaid :=
  OpenClaim.holds_of_wide 9 Try.f9 rfl rfl rfl rfl rfl rfl rfl ⟨rfl, rfl, rfl, rfl, rfl⟩ rfl rfl rfl rfl rfl (by kernel_rfl) Try.func9 (by kernel_rfl)
    (of_decide_eq_true (by kernel_rfl)) (by unfold Func.isWrapper; first | (rw [if_pos (by decide +kernel)]; kernel_rfl) | (rw [if_neg (by decide +kernel)]; exact ⟨rfl, rfl⟩))
    (fun os started H enc _ => boxes_lifted os started H enc)
#print axioms boxes_holds
end Go.Proofs.Ytjpnijnbfjgnfaa
