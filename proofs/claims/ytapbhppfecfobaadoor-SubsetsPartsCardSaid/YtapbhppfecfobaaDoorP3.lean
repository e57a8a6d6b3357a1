/- For every list and all parts SubsetsParts returns true, and leaves its arguments as they were, whatever the two tables of the library that the row names hold by the program text. No conditions. -/
import Derived.Test.YtapbhppfecfobaaDoorAB
import Derived.Test.YtapbhppfecfobaaDoorLO
import Derived.Test.YtapbhppfecfobaaDoorLD
import Derived.Lib.SmallJoins
import Derived.Deep.Strs
import Derived.Carry
import Derived.SevenTiedAt
set_option linter.unusedSimpArgs false
set_option linter.unusedVariables false
namespace Go.Proofs.YtapbhppfecfobaaDoor
open Go Go.ChangeShapes Go.WideShapes Go.ChangeAt Go.RowKit Go.Joins
theorem Tryd.own : ownKnob Tryd.prog.godebug = none := by kernel_rfl
theorem Tryd.laidOut : laidOutB Tryd.prog = true := by kernel_rfl
set_option maxRecDepth 100000 in
theorem subsetsParts6_lifted (os : Os) (started : os.Started) (H : Type) (enc : TypeId × Value → H) :
    ReturnsInHanded {} Tryd.checked os 6 .any (fun w args => (Rows.subsetsPartsSpec.pre enc Tryd.prog Tryd.f6 [] false w args ∧ laidMetH Tryd.prog laid2 w) ∧ sizedMet enc Tryd.prog Tryd.f6 (OpenSpec.ofChange Rows.subsetsPartsSpec) false w args) (Rows.subsetsPartsSpec.post enc Tryd.prog Tryd.f6 false true false false) := by
  refine returnsInHanded_of_change_and (C := Tryd.checked) (X := fun w _ => laidMetH Tryd.prog laid2 w) (fun _ _ _ hh h => h.of_heap hh) Tryd.own started (by kernel_rfl) Tryd.func6
    (ChangeSpec.witness_shaped (enc := enc) (C := Tryd.checked) (os := os) (X := fun w _ => laidMetH Tryd.prog laid2 w) false (World.doorLaid Tryd.prog 19 os) #[.slice none 0 0, .slice none 0 0] 8 rfl (World.shaped_of_RefB (by kernel_rfl) (by kernel_rfl)) (by kernel_rfl) (by kernel_rfl) (by kernel_rfl) (door_met os _)) ?_
  intro W base args ds gs before hval0 hW _ _ hL _
  have hval : ∀ (j : Nat) t v, Tryd.f6.params[j]? = some t → args[j]? = some v → Value.okWide Tryd.prog W .any base t v := hval0
  have hG : GlobIn W := of_laid hL
  have hW' := hW
  obtain ⟨p, q, hA0, hV, rfl, hfz, hnd⟩ := hW
  have hA : DataW.TrodAll enc Tryd.prog W 0 (fun _ => true) true Tryd.f6.params.toList args.toList ds p := hA0
  rw [Tryd.params6] at hA hval
  obtain ⟨v0, v1, d0, d1, p0, p1, rfl, rfl, rfl, h0, h1⟩ := trodAll_two hA
  obtain ⟨rfl, rfl⟩ := trodVars_none hV
  obtain ⟨A0, l, c0, L0, rfl, lr, hr0⟩ := open_ints Tryd.underlying22 Tryd.underlying3 (by kernel_rfl) (hval 0 22 v0 rfl rfl) h0
  obtain ⟨A1, parts, c1, L1, cp, AD, D, rfl, hLD, hr1⟩ := open_loads (hval 1 38 v1 rfl rfl) h1
  refine (run_of_sp (lparts_sp l parts c0 c1 parts.length cp hr0.n_le (Nat.le_refl _) hr1.n_le) rfl (fun _ _ h => h) (inv_all (Fs := [one0 L0, one0 L1, famD parts.length D]) ⟨obIn_row hr0, obIn_out hLD hr1 rfl, obIn_fa hLD, trivial⟩ hG) (okL_cons_mk (ok_inF hr0 rfl (by simp [one0])) (okL_cons_mk (ok_inF hr1 rfl (by simp [one0])) okL_nil_mk))).mono fun e W' ⟨he, hb⟩ => ?_
  subst he
  exact ⟨_, rfl, law_end (P := Tryd.prog) (B := 4) hW' rfl rfl Tryd.underlying4 Tryd.laidOut (by kernel_rfl) rfl hb⟩
theorem subsetsParts6_row : Rows.SubsetsPartsSaid :=
  OpenClaim.holds_of_wide 6 Tryd.f6 rfl rfl rfl rfl rfl rfl rfl ⟨rfl, rfl, rfl, rfl, rfl⟩ rfl rfl rfl rfl rfl (by kernel_rfl) Tryd.func6 (by kernel_rfl)
    (of_decide_eq_true (by kernel_rfl)) (by unfold Func.isWrapper; first | (rw [if_pos (by decide +kernel)]; kernel_rfl) | (rw [if_neg (by decide +kernel)]; exact ⟨rfl, rfl⟩))
    (fun os started H enc _ => subsetsParts6_lifted os started H enc)
theorem subsetsParts6_holds : Rows.SubsetsPartsCardSaid :=
  Claim7.holds_tied_plain_at .later [] [.data, .data] true (true, "5629df261df17a86fc226dfa6361335347497c62b21f5d4de90102c9efd36429") false
    subsetsParts6_row (fun _ h => by cases h) (by kernel_rfl) (fun _ h => by cases h) subsetsParts_row_tie rfl ⟨rfl, rfl⟩ (by kernel_rfl) rfl
    (fun f fn hf hfn => by
      obtain rfl : f = 6 := Option.some.inj ((show Tryd.prog.funcNamed "stirrup/stirruplaw06.SubsetsParts" = some 6 by kernel_rfl).symm.trans hf) |>.symm
      obtain rfl : fn = Tryd.f6 := (Option.some.inj (Tryd.func6.symm.trans hfn)).symm
      exact ⟨by kernel_rfl, fun j t ht => by
        rw [Tryd.params6] at ht
        have hm : t ∈ [22, 38] := by simpa using Array.mem_of_getElem? ht
        have hall : ([22, 38].all fun u => !Tryd.prog.wantsStandIn u) = true := by kernel_rfl
        exact (show Tryd.prog.wantsStandIn t = false by simpa using List.all_eq_true.1 hall t hm)⟩)
    (by kernel_rfl)
#print axioms subsetsParts6_holds
end Go.Proofs.YtapbhppfecfobaaDoor
