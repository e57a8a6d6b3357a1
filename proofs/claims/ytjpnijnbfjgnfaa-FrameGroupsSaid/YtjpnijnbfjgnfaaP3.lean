/- For every three turns and every point FrameGroups returns true, and leaves its arguments as they were. No conditions. -/
import Derived.Test.YtjpnijnbfjgnfaaT
namespace Go.Proofs.Ytjpnijnbfjgnfaa
open Go.ChangeShapes Go.WideShapes Go.ChangeAt Go.RowKit Go.Joins
set_option maxRecDepth 100000 in
theorem groups_lifted (os : Os) (started : os.Started) (H : Type) (enc : TypeId × Value → H) :
    ReturnsInHanded {} Try.checked os 6 .any (Rows.frameGroupsSpec.pre6 enc Try.prog Try.f6 Rows.frameGroupsRow.domain false) (Rows.frameGroupsSpec.post enc Try.prog Try.f6 false true false false) := by
  refine returnsInHanded_of_change (C := Try.checked) Try.own started (by kernel_rfl) Try.func6
    (ChangeSpec.witness6 (enc := enc) (C := Try.checked) false ⟨#[], #[T2 0 0, T2 0 0, T2 0 0, A3 0 0 0], []⟩ 8 (by kernel_rfl) (by kernel_rfl) (by kernel_rfl) (by kernel_rfl)) ?_
  intro W base args ds gs before hval0 hW hcnd _
  have hval : ∀ (j : Nat) t v, Try.f6.params[j]? = some t → args[j]? = some v → Value.okWide Try.prog W .any base t v := hval0
  have hW' := hW
  obtain ⟨p, q, hA0, hV, rfl, hfz, hnd⟩ := hW
  have hA : DataW.TrodAll enc Try.prog W 0 (fun _ => true) true Try.f6.params.toList args.toList ds p := hA0
  rw [Try.params6] at hA hval
  obtain ⟨v0, v1, v2, v3, d0, d1, d2, d3, p0, p1, p2, p3, rfl, rfl, rfl, h0, h1, h2, h3⟩ := trodAll_four hA
  obtain ⟨rfl, rfl⟩ := trodVars_none hV
  obtain ⟨a, b, rfl, rfl⟩ := open_turn (hval 0 23 v0 rfl rfl) h0
  obtain ⟨c, d, rfl, rfl⟩ := open_turn (hval 1 23 v1 rfl rfl) h1
  obtain ⟨e, f, rfl, rfl⟩ := open_turn (hval 2 23 v2 rfl rfl) h2
  obtain ⟨x, y, z, rfl, rfl⟩ := open_pt (hval 3 37 v3 rfl rfl) h3
  refine (lawGroups_any a b c d e f x y z W).mono fun e W' ⟨he, hb⟩ => ?_
  subst he
  exact ⟨_, rfl, law_end (P := Try.prog) (B := 4) hW' rfl rfl Try.underlying4 Try.laidOut (by kernel_rfl) rfl hb⟩
theorem groups_holds : Rows.FrameGroupsSaid :=
  OpenClaim.holds_of_wide 6 Try.f6 rfl rfl rfl rfl rfl rfl rfl ⟨rfl, rfl, rfl, rfl, rfl⟩ rfl rfl rfl rfl rfl (by kernel_rfl) Try.func6 (by kernel_rfl)
    (of_decide_eq_true (by kernel_rfl)) (by unfold Func.isWrapper; first | (rw [if_pos (by decide +kernel)]; kernel_rfl) | (rw [if_neg (by decide +kernel)]; exact ⟨rfl, rfl⟩))
    (fun os started H enc _ => groups_lifted os started H enc)
#print axioms groups_holds
end Go.Proofs.Ytjpnijnbfjgnfaa
