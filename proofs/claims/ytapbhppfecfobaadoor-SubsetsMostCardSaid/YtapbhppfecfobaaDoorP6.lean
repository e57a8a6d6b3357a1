/- For every list and all colours SubsetsMost returns true, and leaves its arguments as they were, whatever the two tables of the library that the row names hold by the program text. No conditions. -/
import Derived.Test.YtapbhppfecfobaaDoorAK
import Derived.Test.YtapbhppfecfobaaDoorLP
import Derived.Test.YtapbhppfecfobaaDoorLD
import Derived.Lib.SmallJoins
import Derived.Deep.Strs
import Derived.Carry
import Derived.SevenTiedAt
set_option linter.unusedSimpArgs false
set_option linter.unusedVariables false
namespace Go.Proofs.YtapbhppfecfobaaDoor
open Go Go.ChangeShapes Go.WideShapes Go.ChangeAt Go.RowKit Go.Joins
theorem Tryd.own : ownKnob Tryd.prog.godebug = none := by kernel_rfl
theorem Tryd.laidOut : laidOutB Tryd.prog = true := by kernel_rfl
set_option maxRecDepth 100000 in
theorem subsetsMost7_lifted (os : Os) (started : os.Started) (H : Type) (enc : TypeId × Value → H) :
    ReturnsInHanded {} Tryd.checked os 7 .any (fun w args => (Rows.subsetsMostSpec.pre enc Tryd.prog Tryd.f7 [] false w args ∧ laidMetH Tryd.prog laid2 w) ∧ sizedMet enc Tryd.prog Tryd.f7 (OpenSpec.ofChange Rows.subsetsMostSpec) false w args) (Rows.subsetsMostSpec.post enc Tryd.prog Tryd.f7 false true false false) := by
  refine returnsInHanded_of_change_and (C := Tryd.checked) (X := fun w _ => laidMetH Tryd.prog laid2 w) (fun _ _ _ hh h => h.of_heap hh) Tryd.own started (by kernel_rfl) Tryd.func7
    (ChangeSpec.witness_shaped (enc := enc) (C := Tryd.checked) (os := os) (X := fun w _ => laidMetH Tryd.prog laid2 w) false (World.doorLaid Tryd.prog 19 os) #[.slice none 0 0, .slice none 0 0] 8 rfl (World.shaped_of_RefB (by kernel_rfl) (by kernel_rfl)) (by kernel_rfl) (by kernel_rfl) (by kernel_rfl) (door_met os _)) ?_
  intro W base args ds gs before hval0 hW _ _ hL _
  have hval : ∀ (j : Nat) t v, Tryd.f7.params[j]? = some t → args[j]? = some v → Value.okWide Tryd.prog W .any base t v := hval0
  have hG : GlobIn W := of_laid hL
  have hW' := hW
  obtain ⟨p, q, hA0, hV, rfl, hfz, hnd⟩ := hW
  have hA : DataW.TrodAll enc Tryd.prog W 0 (fun _ => true) true Tryd.f7.params.toList args.toList ds p := hA0
  rw [Tryd.params7] at hA hval
  obtain ⟨v0, v1, d0, d1, p0, p1, rfl, rfl, rfl, h0, h1⟩ := trodAll_two hA
  obtain ⟨rfl, rfl⟩ := trodVars_none hV
  obtain ⟨A0, l, c0, L0, rfl, lr, hr0⟩ := open_ints Tryd.underlying22 Tryd.underlying3 (by kernel_rfl) (hval 0 22 v0 rfl rfl) h0
  obtain ⟨A1, co, c1, L1, rfl, cor, hr1⟩ := open_bytes (hval 1 52 v1 rfl rfl) h1
  refine (run_of_sp (lmost_sp l co c0 c1 hr0.n_le hr1.n_le cor) rfl (fun _ _ h => h) (inv_in (rowsIn_cons hr0 (rowsIn_cons hr1 rowsIn_nil)) hG) (okL_cons_mk (ok_in hr0 rfl) (okL_cons_mk (ok_in hr1 rfl) okL_nil_mk))).mono fun e W' ⟨he, hb⟩ => ?_
  subst he
  exact ⟨_, rfl, law_end (P := Tryd.prog) (B := 4) hW' rfl rfl Tryd.underlying4 Tryd.laidOut (by kernel_rfl) rfl hb⟩
theorem subsetsMost7_row : Rows.SubsetsMostSaid :=
  OpenClaim.holds_of_wide 7 Tryd.f7 rfl rfl rfl rfl rfl rfl rfl ⟨rfl, rfl, rfl, rfl, rfl⟩ rfl rfl rfl rfl rfl (by kernel_rfl) Tryd.func7 (by kernel_rfl)
    (of_decide_eq_true (by kernel_rfl)) (by unfold Func.isWrapper; first | (rw [if_pos (by decide +kernel)]; kernel_rfl) | (rw [if_neg (by decide +kernel)]; exact ⟨rfl, rfl⟩))
    (fun os started H enc _ => subsetsMost7_lifted os started H enc)
theorem subsetsMost7_holds : Rows.SubsetsMostCardSaid :=
  Claim7.holds_tied_plain_at .later [] [.data, .data] true (true, "5629df261df17a86fc226dfa6361335347497c62b21f5d4de90102c9efd36429") false
    subsetsMost7_row (fun _ h => by cases h) (by kernel_rfl) (fun _ h => by cases h) subsetsMost_row_tie rfl ⟨rfl, rfl⟩ (by kernel_rfl) rfl
    (fun f fn hf hfn => by
      obtain rfl : f = 7 := Option.some.inj ((show Tryd.prog.funcNamed "stirrup/stirruplaw06.SubsetsMost" = some 7 by kernel_rfl).symm.trans hf) |>.symm
      obtain rfl : fn = Tryd.f7 := (Option.some.inj (Tryd.func7.symm.trans hfn)).symm
      exact ⟨by kernel_rfl, fun j t ht => by
        rw [Tryd.params7] at ht
        have hm : t ∈ [22, 52] := by simpa using Array.mem_of_getElem? ht
        have hall : ([22, 52].all fun u => !Tryd.prog.wantsStandIn u) = true := by kernel_rfl
        exact (show Tryd.prog.wantsStandIn t = false by simpa using List.all_eq_true.1 hall t hm)⟩)
    (by kernel_rfl)
#print axioms subsetsMost7_holds
end Go.Proofs.YtapbhppfecfobaaDoor
