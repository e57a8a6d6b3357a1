/- For every turn, points and box FrameImages returns true, and leaves its arguments as they were. No conditions. -/
import Derived.Test.YtjpnijnbfjgnfaaT
import Derived.Test.YtjpnijnbfjgnfaaU
namespace Go.Proofs.Ytjpnijnbfjgnfaa
open Go.ChangeShapes Go.WideShapes Go.ChangeAt Go.RowKit Go.Joins
theorem Try.cells50 : Try.prog.cellsOf 50 = 6 := by kernel_rfl
theorem Try.cells3 : Try.prog.cellsOf 3 = 1 := by kernel_rfl
section
variable {H : Type} {enc : TypeId × Value → H} {W : World} {base b0 : Nat} {spare : Nat → Bool} {held : Bool} {r : Reach} {v : Value} {d : DataW H} {p : List MemPlace}
set_option maxRecDepth 100000 in
theorem open_box (hv : Value.okWide Try.prog W r b0 50 v) (h : DataW.Trod enc Try.prog W base spare held 50 v d p) : ∃ a b c d e f : Int, v = A6 a b c d e f := by
  obtain ⟨cs, rfl, hsz⟩ := okWide_struct Try.underlying50 hv
  replace hsz := hsz.trans Try.cells50
  match cs, hsz with
  | ⟨[c0, c1, c2, c3, c4, c5]⟩, _ =>
    obtain ⟨fuel, hf⟩ := h
    obtain ⟨y0, y1, n, _, _, h0, h1⟩ := trod_struct2 Try.underlying50 hf
    obtain ⟨_, _, _, m, _, _, i0, i1, i2⟩ := Go.Deep.trod_struct3 Try.underlying37 h0
    obtain ⟨_, _, _, k, _, _, j0, j1, j2⟩ := Go.Deep.trod_struct3 Try.underlying37 h1
    simp [Value.cells, Try.cells37, Try.cells3] at i0 i1 i2 j0 j1 j2
    obtain ⟨a, e0, _, _⟩ := DataW.trod_int Try.underlying3 i0
    obtain ⟨b, e1, _, _⟩ := DataW.trod_int Try.underlying3 i1
    obtain ⟨c, e2, _, _⟩ := DataW.trod_int Try.underlying3 i2
    obtain ⟨d, e3, _, _⟩ := DataW.trod_int Try.underlying3 j0
    obtain ⟨e, e4, _, _⟩ := DataW.trod_int Try.underlying3 j1
    obtain ⟨f, e5, _, _⟩ := DataW.trod_int Try.underlying3 j2
    simp at e0 e1 e2 e3 e4 e5
    subst e0 e1 e2 e3 e4 e5
    exact ⟨a, b, c, d, e, f, rfl⟩
end
set_option maxRecDepth 100000 in
theorem images_lifted (os : Os) (started : os.Started) (H : Type) (enc : TypeId × Value → H) :
    ReturnsInHanded {} Try.checked os 7 .any (Rows.frameImagesSpec.pre6 enc Try.prog Try.f7 Rows.frameImagesRow.domain false) (Rows.frameImagesSpec.post enc Try.prog Try.f7 false true false false) := by
  refine returnsInHanded_of_change (C := Try.checked) Try.own started (by kernel_rfl) Try.func7
    (ChangeSpec.witness6 (enc := enc) (C := Try.checked) false ⟨#[], #[T2 0 0, A3 0 0 0, A3 0 0 0, A6 0 0 0 0 0 0], []⟩ 8 (by kernel_rfl) (by kernel_rfl) (by kernel_rfl) (by kernel_rfl)) ?_
  intro W base args ds gs before hval0 hW hcnd _
  have hval : ∀ (j : Nat) t v, Try.f7.params[j]? = some t → args[j]? = some v → Value.okWide Try.prog W .any base t v := hval0
  have hW' := hW
  obtain ⟨p, q, hA0, hV, rfl, hfz, hnd⟩ := hW
  have hA : DataW.TrodAll enc Try.prog W 0 (fun _ => true) true Try.f7.params.toList args.toList ds p := hA0
  rw [Try.params7] at hA hval
  obtain ⟨v0, v1, v2, v3, d0, d1, d2, d3, p0, p1, p2, p3, rfl, rfl, rfl, h0, h1, h2, h3⟩ := trodAll_four hA
  obtain ⟨rfl, rfl⟩ := trodVars_none hV
  obtain ⟨x, y, rfl, rfl⟩ := open_turn (hval 0 23 v0 rfl rfl) h0
  obtain ⟨p, q, s, rfl, rfl⟩ := open_pt (hval 1 37 v1 rfl rfl) h1
  obtain ⟨a, b, c, rfl, rfl⟩ := open_pt (hval 2 37 v2 rfl rfl) h2
  obtain ⟨l0, l1, l2, h0, h1, h2, rfl⟩ := open_box (hval 3 50 v3 rfl rfl) h3
  refine (images_any x y p q s a b c l0 l1 l2 h0 h1 h2 W).mono fun e W' ⟨he, hb⟩ => ?_
  subst he
  exact ⟨_, rfl, law_end (P := Try.prog) (B := 4) hW' rfl rfl Try.underlying4 Try.laidOut (by kernel_rfl) rfl hb⟩
theorem images_holds : Rows.FrameImagesSaid :=
  OpenClaim.holds_of_wide 7 Try.f7 rfl rfl rfl rfl rfl rfl rfl ⟨rfl, rfl, rfl, rfl, rfl⟩ rfl rfl rfl rfl rfl (by kernel_rfl) Try.func7 (by kernel_rfl)
    (of_decide_eq_true (by kernel_rfl)) (by unfold Func.isWrapper; first | (rw [if_pos (by decide +kernel)]; kernel_rfl) | (rw [if_neg (by decide +kernel)]; exact ⟨rfl, rfl⟩))
    (fun os started H enc _ => images_lifted os started H enc)
#print axioms images_holds
end Go.Proofs.Ytjpnijnbfjgnfaa
