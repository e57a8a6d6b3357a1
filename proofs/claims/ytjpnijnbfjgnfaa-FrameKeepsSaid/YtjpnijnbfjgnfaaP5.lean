/- For every turn and three points FrameKeeps returns true, and leaves its arguments as they were. No conditions. -/
import Derived.Test.YtjpnijnbfjgnfaaT
import Derived.Test.YtjpnijnbfjgnfaaV
namespace Go.Proofs.Ytjpnijnbfjgnfaa
open Go.ChangeShapes Go.WideShapes Go.ChangeAt Go.RowKit Go.Joins
set_option maxRecDepth 100000 in
theorem keeps_lifted (os : Os) (started : os.Started) (H : Type) (enc : TypeId × Value → H) :
    ReturnsInHanded {} Try.checked os 4 .any (Rows.frameKeepsSpec.pre6 enc Try.prog Try.f4 Rows.frameKeepsRow.domain false) (Rows.frameKeepsSpec.post enc Try.prog Try.f4 false true false false) := by
  refine returnsInHanded_of_change (C := Try.checked) Try.own started (by kernel_rfl) Try.func4
    (ChangeSpec.witness6 (enc := enc) (C := Try.checked) false ⟨#[], #[T2 0 0, A3 0 0 0, A3 0 0 0, A3 0 0 0], []⟩ 8 (by kernel_rfl) (by kernel_rfl) (by kernel_rfl) (by kernel_rfl)) ?_
  intro W base args ds gs before hval0 hW hcnd _
  have hval : ∀ (j : Nat) t v, Try.f4.params[j]? = some t → args[j]? = some v → Value.okWide Try.prog W .any base t v := hval0
  have hW' := hW
  obtain ⟨p, q, hA0, hV, rfl, hfz, hnd⟩ := hW
  have hA : DataW.TrodAll enc Try.prog W 0 (fun _ => true) true Try.f4.params.toList args.toList ds p := hA0
  rw [Try.params4] at hA hval
  obtain ⟨v0, v1, v2, v3, d0, d1, d2, d3, p0, p1, p2, p3, rfl, rfl, rfl, h0, h1, h2, h3⟩ := trodAll_four hA
  obtain ⟨rfl, rfl⟩ := trodVars_none hV
  obtain ⟨x, y, rfl, rfl⟩ := open_turn (hval 0 23 v0 rfl rfl) h0
  obtain ⟨a0, a1, a2, rfl, rfl⟩ := open_pt (hval 1 37 v1 rfl rfl) h1
  obtain ⟨b0, b1, b2, rfl, rfl⟩ := open_pt (hval 2 37 v2 rfl rfl) h2
  obtain ⟨c0, c1, c2, rfl, rfl⟩ := open_pt (hval 3 37 v3 rfl rfl) h3
  refine (keeps_any x y a0 a1 a2 b0 b1 b2 c0 c1 c2 W).mono fun e W' ⟨he, hb⟩ => ?_
  subst he
  exact ⟨_, rfl, law_end (P := Try.prog) (B := 4) hW' rfl rfl Try.underlying4 Try.laidOut (by kernel_rfl) rfl hb⟩
theorem keeps_holds : Rows.FrameKeepsSaid :=
  OpenClaim.holds_of_wide 4 Try.f4 rfl rfl rfl rfl rfl rfl rfl ⟨rfl, rfl, rfl, rfl, rfl⟩ rfl rfl rfl rfl rfl (by kernel_rfl) Try.func4 (by kernel_rfl)
    (of_decide_eq_true (by kernel_rfl)) (by unfold Func.isWrapper; first | (rw [if_pos (by decide +kernel)]; kernel_rfl) | (rw [if_neg (by decide +kernel)]; exact ⟨rfl, rfl⟩))
    (fun os started H enc _ => keeps_lifted os started H enc)
#print axioms keeps_holds
end Go.Proofs.Ytjpnijnbfjgnfaa
