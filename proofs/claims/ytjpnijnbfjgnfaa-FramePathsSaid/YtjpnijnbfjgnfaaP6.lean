/- For every turn, point and list of points FramePaths returns true, and leaves its arguments as they were. No conditions. -/
import Derived.Test.YtjpnijnbfjgnfaaT
import Derived.Test.YtjpnijnbfjgnfaaZ
namespace Go.Proofs.Ytjpnijnbfjgnfaa
open Go.ChangeShapes Go.WideShapes Go.ChangeAt Go.RowKit Go.Joins
section
variable {H : Type} {enc : TypeId × Value → H} {W : World} {base b0 : Nat} {spare : Nat → Bool} {held : Bool} {r : Reach} {v : Value} {d : DataW H} {p : List MemPlace}
theorem pts_of {n : Nat} {Q : Nat → Pt → Prop} (h : ∀ i, i < n → ∃ p, Q i p) : ∃ l : List Pt, l.length = n ∧ ∀ i (hi : i < l.length), Q i l[i] := by
  induction n with
  | zero => exact ⟨[], rfl, fun i hi => absurd hi (by simp)⟩
  | succ n ih =>
    obtain ⟨l, hl, hq⟩ := ih fun i hi => h i (by omega)
    obtain ⟨p, hp⟩ := h n (by omega)
    refine ⟨l ++ [p], by simp [hl], fun i hi => ?_⟩
    by_cases hlt : i < l.length
    · rw [List.getElem_append_left hlt]
      exact hq i hlt
    · have : i = l.length := by simp at hi; omega
      subst this
      simpa [hl] using hp
theorem Try.cells3 : Try.prog.cellsOf 3 = 1 := by kernel_rfl
set_option maxRecDepth 100000 in
theorem open_pts (hv : Value.okWide Try.prog W r b0 45 v) (h : DataW.Trod enc Try.prog W base spare held 45 v d p) : ∃ (A : Option Addr) (l : List Pt) (n : Nat), v = .slice A l.length n ∧ PtsAt W A l ∧ l.length ≤ 9223372036854775807 := by
  obtain ⟨fuel, hf⟩ := h
  obtain ⟨A0, n0, m0, rfl⟩ := okWide_slice Try.underlying45 hv
  have one : ∀ u, (Value.slice A0 n0 m0).cells.toList = [u] → ∀ A k n, u = .slice A k n → Value.slice A0 n0 m0 = .slice A k n := by
    intro u hu A k n e
    subst e
    simpa [Value.cells] using hu
  rcases Go.Deep.open_slice Try.underlying45 hf with ⟨e, _⟩ | ⟨a, len, cap, m, n, D, Pl, e, _, hlc, hcm, hm, _, hel⟩
  · exact ⟨none, [], 0, one _ e _ _ _ rfl, fun h => absurd h (by simp), by simp⟩
  · have hlm : len ≤ m := by rw [hm]; split <;> omega
    have hs : 0 < len → a.spot = none := fun h0 => by
      obtain ⟨cs, hc, _⟩ := hel 0 (by omega)
      rw [Try.cells37] at hc
      obtain ⟨_, hl, hat⟩ := World.cells?_some hc
      match cs, hl with
      | [c0, c1, c2], _ => simpa [Addr.add] using World.cell?_spot (hat 0 (by omega))
    have key : ∀ i, i < len → ∃ q : Pt, a.spot = none ∧ W.cell? ⟨a.block, a.off + i * 3, none⟩ = some (.int .i64 q.x) ∧ W.cell? ⟨a.block, a.off + i * 3 + 1, none⟩ = some (.int .i64 q.y) ∧ W.cell? ⟨a.block, a.off + i * 3 + 2, none⟩ = some (.int .i64 q.z) := by
      intro i hi
      obtain ⟨cs, hc, ht⟩ := hel i (by omega)
      rw [Try.cells37] at hc
      obtain ⟨_, hl, hat⟩ := World.cells?_some hc
      match cs, hl with
      | [c0, c1, c2], _ =>
        obtain ⟨_, _, _, m, _, _, i0, i1, i2⟩ := Go.Deep.trod_struct3 Try.underlying37 ht
        simp [Try.cells3] at i0 i1 i2
        obtain ⟨x, e0, _, _⟩ := DataW.trod_int Try.underlying3 i0
        obtain ⟨y, e1, _, _⟩ := DataW.trod_int Try.underlying3 i1
        obtain ⟨z, e2, _, _⟩ := DataW.trod_int Try.underlying3 i2
        simp at e0 e1 e2
        subst e0 e1 e2
        have a0 := hat 0 (by omega)
        have a1 := hat 1 (by omega)
        have a2 := hat 2 (by omega)
        rw [Go.Deep.add_add] at a0 a1 a2
        simp at a0 a1 a2
        have hs := hs (by omega)
        obtain ⟨ab, ao, asp⟩ := a
        simp only at hs
        subst hs
        have ad : ∀ j, (⟨ab, ao, none⟩ : Addr).add j = ⟨ab, ao + j, none⟩ := fun j => by unfold Addr.add; split <;> simp [*]
        rw [ad] at a0 a1 a2
        exact ⟨⟨x, y, z⟩, rfl, by simpa using a0, by simpa [Nat.add_assoc] using a1, by simpa [Nat.add_assoc] using a2⟩
    obtain ⟨l, hl, hq⟩ := pts_of key
    subst hl
    refine ⟨some a, l, cap, one _ e _ _ _ rfl, fun h0 => ?_, by unfold maxLen at hcm; omega⟩
    obtain ⟨hs, c0, _, _⟩ := hq 0 h0
    obtain ⟨ab, ao, asp⟩ := a
    simp only at hs
    subst hs
    exact ⟨ab, ao, rfl, World.block_lt_of_cell? W _ c0, fun i hi => (hq i hi).2⟩
end
set_option maxRecDepth 100000 in
theorem paths_lifted (os : Os) (started : os.Started) (H : Type) (enc : TypeId × Value → H) :
    ReturnsInHanded {} Try.checked os 8 .any (Rows.framePathsSpec.pre6 enc Try.prog Try.f8 Rows.framePathsRow.domain false) (Rows.framePathsSpec.post enc Try.prog Try.f8 false true false false) := by
  refine returnsInHanded_of_change (C := Try.checked) Try.own started (by kernel_rfl) Try.func8
    (ChangeSpec.witness6 (enc := enc) (C := Try.checked) false ⟨#[], #[T2 0 0, A3 0 0 0, .slice none 0 0], []⟩ 8 (by kernel_rfl) (by kernel_rfl) (by kernel_rfl) (by kernel_rfl)) ?_
  intro W base args ds gs before hval0 hW hcnd _
  have hval : ∀ (j : Nat) t v, Try.f8.params[j]? = some t → args[j]? = some v → Value.okWide Try.prog W .any base t v := hval0
  have hW' := hW
  obtain ⟨p, q, hA0, hV, rfl, hfz, hnd⟩ := hW
  have hA : DataW.TrodAll enc Try.prog W 0 (fun _ => true) true Try.f8.params.toList args.toList ds p := hA0
  rw [Try.params8] at hA hval
  obtain ⟨v0, v1, v2, d0, d1, d2, p0, p1, p2, rfl, rfl, rfl, h0, h1, h2⟩ := trodAll_three hA
  obtain ⟨rfl, rfl⟩ := trodVars_none hV
  obtain ⟨x, y, rfl, rfl⟩ := open_turn (hval 0 23 v0 rfl rfl) h0
  obtain ⟨a, b, c, rfl, rfl⟩ := open_pt (hval 1 37 v1 rfl rfl) h1
  obtain ⟨A, l, n, rfl, hl, hlm⟩ := open_pts (hval 2 45 v2 rfl rfl) h2
  refine (paths_any x y a b c A n l W hl hlm).mono fun e W' ⟨he, hb⟩ => ?_
  subst he
  exact ⟨_, rfl, law_end (P := Try.prog) (B := 4) hW' rfl rfl Try.underlying4 Try.laidOut (by kernel_rfl) rfl hb⟩
theorem paths_holds : Rows.FramePathsSaid :=
  OpenClaim.holds_of_wide 8 Try.f8 rfl rfl rfl rfl rfl rfl rfl ⟨rfl, rfl, rfl, rfl, rfl⟩ rfl rfl rfl rfl rfl (by kernel_rfl) Try.func8 (by kernel_rfl)
    (of_decide_eq_true (by kernel_rfl)) (by unfold Func.isWrapper; first | (rw [if_pos (by decide +kernel)]; kernel_rfl) | (rw [if_neg (by decide +kernel)]; exact ⟨rfl, rfl⟩))
    (fun os started H enc _ => paths_lifted os started H enc)
#print axioms paths_holds
end Go.Proofs.Ytjpnijnbfjgnfaa
