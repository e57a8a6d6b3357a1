/- For every list of steps and every number StepsShort returns true, and leaves its arguments as they were. No conditions. -/
import Derived.Test.YtekokeiajgcfkaaTC
import Derived.Test.YtekokeiajgcfkaaIn
import Derived.Lib.SmallJoins
import Derived.Deep.Strs
import Derived.Carry
import Derived.Test.YtekokeiajgcfkaaRows
set_option linter.unusedSimpArgs false
set_option linter.unusedVariables false
namespace Go.Proofs.Ytekokeiajgcfkaa
open Go.ChangeShapes Go.WideShapes Go.ChangeAt Go.RowKit Go.Joins
theorem Try.own : ownKnob Try.prog.godebug = none := by kernel_rfl
theorem Try.laidOut : laidOutB Try.prog = true := by kernel_rfl
theorem Try.cells33 : Try.prog.cellsOf 33 = 2 := by kernel_rfl
section
variable {H : Type} {enc : TypeId × Value → H} {W : World} {base b0 : Nat} {held : Bool} {r : Reach} {v : Value} {d : DataW H} {p : List MemPlace}
set_option maxRecDepth 100000 in
theorem open_steps (hv : Value.okWide Try.prog W r b0 22 v) (h : DataW.Trod enc Try.prog W base (fun _ => true) held 22 v d p) :
    ∃ (A : Option Addr) (l : List Stp) (cap : Nat) (L : Option (Nat × Nat)), v = .slice A l.length cap ∧ (∀ x ∈ l, isI64 x.x ∧ isI64 x.v) ∧ RowIn W A l.length cap 2 L (fun k => cSt (ix l k)) := by
  obtain ⟨A, l, cap, L, rfl, hr, hl⟩ := open_pairs Try.underlying22 Try.underlying33 Try.cells33 rfl rfl Try.underlying3 Try.underlying3 (by kernel_rfl) (by kernel_rfl) hv h
  refine ⟨A, l.map fun x => ⟨x.1, x.2⟩, cap, L, by rw [List.length_map], fun x hx => ?_, ?_⟩
  · obtain ⟨y, hy, rfl⟩ := List.mem_map.1 hx
    exact hr y hy
  · rw [List.length_map]
    exact hl.as fun k hk => by rw [ix_eq (l := l.map _) (by rw [List.length_map]; exact hk), ix_eq hk, List.getElem_map]; rfl
end
set_option maxRecDepth 100000 in
theorem short9_lifted (os : Os) (started : os.Started) (H : Type) (enc : TypeId × Value → H) :
    ReturnsInHanded {} Try.checked os 9 .any (Rows.stepsShortSpec.pre6 enc Try.prog Try.f9 Rows.stepsShortRow.domain false) (Rows.stepsShortSpec.post enc Try.prog Try.f9 false true false false) := by
  refine returnsInHanded_of_change (C := Try.checked) Try.own started (by kernel_rfl) Try.func9
    (ChangeSpec.witness6 (enc := enc) (C := Try.checked) false ⟨#[], #[.slice none 0 0, .int .i64 0], []⟩ 8 (by kernel_rfl) (by kernel_rfl) (by kernel_rfl) (by kernel_rfl)) ?_
  intro W base args ds gs before hval0 hW hcnd _
  have hval : ∀ (j : Nat) t v, Try.f9.params[j]? = some t → args[j]? = some v → Value.okWide Try.prog W .any base t v := hval0
  have hW' := hW
  obtain ⟨p, q, hA0, hV, rfl, hfz, hnd⟩ := hW
  have hA : DataW.TrodAll enc Try.prog W 0 (fun _ => true) true Try.f9.params.toList args.toList ds p := hA0
  rw [Try.params9] at hA hval
  obtain ⟨v0, v1, d0, d1, p0, p1, rfl, rfl, rfl, h0, h1⟩ := trodAll_two hA
  obtain ⟨rfl, rfl⟩ := trodVars_none hV
  obtain ⟨A0, l, c0, L0, rfl, lr, hr0⟩ := open_steps (hval 0 22 v0 rfl rfl) h0
  obtain ⟨x, rfl, xr⟩ := open_i64 Try.underlying3 (hval 1 3 v1 rfl rfl) h1
  refine (run_of_sp (lshort_sp l x c0 hr0.n_le) rfl (fun _ _ h => h) (inv_in (rowsIn_cons hr0 rowsIn_nil)) (okL_cons_mk (ok_in hr0 rfl) (okL_cons_mk (ok_v_mk) okL_nil_mk))).mono fun e W' ⟨he, hb⟩ => ?_
  subst he
  exact ⟨_, rfl, law_end (P := Try.prog) (B := 4) hW' rfl rfl Try.underlying4 Try.laidOut (by kernel_rfl) rfl hb⟩
theorem short9_holds : Rows.StepsShortSaid :=
  OpenClaim.holds_of_wide 9 Try.f9 rfl rfl rfl rfl rfl rfl rfl ⟨rfl, rfl, rfl, rfl, rfl⟩ rfl rfl rfl rfl rfl (by kernel_rfl) Try.func9 (by kernel_rfl)
    (of_decide_eq_true (by kernel_rfl)) (by unfold Func.isWrapper; first | (rw [if_pos (by decide +kernel)]; kernel_rfl) | (rw [if_neg (by decide +kernel)]; exact ⟨rfl, rfl⟩))
    (fun os started H enc _ => short9_lifted os started H enc)
#print axioms short9_holds
end Go.Proofs.Ytekokeiajgcfkaa
