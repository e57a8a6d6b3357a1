/-
  No cell of these rows narrows 'for every input' (looked for: loops, veiled, ifaces, maps, wideKeys, modest, calm, conditions, laid).
  DERIVED. THE GIVEN ROWS OF THIS SEAT. 8 by the template 'for every input the law returns true; each argument reads behind the call as it read before'; 0 by the template 'total and deterministic' (their statements: YtekokeiajgcfkaaTotals.lean).
  GIVEN WITH THE SEED: the statements are not yours to turn. If you find one false, say at which input.
  Laid BY PROGRAM, IN A SANDBOX (cutbox-rows.mjs): the forced cells as the released guide's own fill.sh prints them over the translation 881ee76f016f0f7a… (all of the seat's roots in one cut). By AI agents, Wed Nov 11 2026. No macro, syntax, notation, axiom, sorry.
-/
import Derived.Test.YtekokeiajgcfkaaChecked
import GoSem.Claim
import GoSem.ClaimJoined
import GoSem.ClaimMapViews
import Derived.JoinedTies
import Derived.KernelRfl
namespace Go.Proofs.Ytekokeiajgcfkaa
/- THE CELL 'sum', in the pinned program and in every row, IS THE sha256 OF THE DUMP (.gsa) THAT YtekokeiajgcfkaaProg.lean LOADS. Nothing in Lean hashes anything: it is a label: what it is worth is what the hold of that sum in a sandbox is worth. -/
noncomputable def Try.pinned : Pinned := { name := "ytekokeiajgcfkaa", sum := "881ee76f016f0f7a3592fd07ff3c0b5f11a60749d57dbbcf9c4e3e31e787791b", checked := Try.checked }
namespace Rows
def none {H : Type} : Left H := { results := [], args := [] }

/-- 'stirruplaw10.StepsSums': WHATEVER THE INPUT: true; the input reads as it did. -/
def stepsSumsSpec : ChangeSpec := { name := "stepsSums", fn := fun _ => fun
  | [d1, d2] => { results := [.lit (.bool true)], args := [d1, d2] }
  | _ => none }
def stepsSumsRow : OpenClaim := { program := "ytekokeiajgcfkaa", sum := "881ee76f016f0f7a3592fd07ff3c0b5f11a60749d57dbbcf9c4e3e31e787791b", func := "stirrup/stirruplaw10.StepsSums", spec := "stepsSums", unfollowed := true, recurses := true, apart := false }
def StepsSumsSaid : Prop := stepsSumsRow.holds Try.pinned (OpenSpec.ofChange stepsSumsSpec)

/-- ITS FALSE NEIGHBOUR: 'it returns false'. Refute it at one input. -/
def stepsSumsWrong : ChangeSpec := { name := "stepsSums", fn := fun _ => fun
  | [d1, d2] => { results := [.lit (.bool false)], args := [d1, d2] }
  | _ => none }
def StepsSumsWrongFalsely : Prop := stepsSumsRow.holds Try.pinned (OpenSpec.ofChange stepsSumsWrong)

/-- 'stirruplaw10.StepsRanges': WHATEVER THE INPUT: true; the input reads as it did. -/
def stepsRangesSpec : ChangeSpec := { name := "stepsRanges", fn := fun _ => fun
  | [d1, d2, d3, d4] => { results := [.lit (.bool true)], args := [d1, d2, d3, d4] }
  | _ => none }
def stepsRangesRow : OpenClaim := { program := "ytekokeiajgcfkaa", sum := "881ee76f016f0f7a3592fd07ff3c0b5f11a60749d57dbbcf9c4e3e31e787791b", func := "stirrup/stirruplaw10.StepsRanges", spec := "stepsRanges", unfollowed := true, recurses := true, apart := false }
def StepsRangesSaid : Prop := stepsRangesRow.holds Try.pinned (OpenSpec.ofChange stepsRangesSpec)

/-- ITS FALSE NEIGHBOUR: 'it returns false'. Refute it at one input. -/
def stepsRangesWrong : ChangeSpec := { name := "stepsRanges", fn := fun _ => fun
  | [d1, d2, d3, d4] => { results := [.lit (.bool false)], args := [d1, d2, d3, d4] }
  | _ => none }
def StepsRangesWrongFalsely : Prop := stepsRangesRow.holds Try.pinned (OpenSpec.ofChange stepsRangesWrong)

/-- 'stirruplaw10.StepsPulses': WHATEVER THE INPUT: true; the input reads as it did. -/
def stepsPulsesSpec : ChangeSpec := { name := "stepsPulses", fn := fun _ => fun
  | [d1, d2, d3] => { results := [.lit (.bool true)], args := [d1, d2, d3] }
  | _ => none }
def stepsPulsesRow : OpenClaim := { program := "ytekokeiajgcfkaa", sum := "881ee76f016f0f7a3592fd07ff3c0b5f11a60749d57dbbcf9c4e3e31e787791b", func := "stirrup/stirruplaw10.StepsPulses", spec := "stepsPulses", unfollowed := true, recurses := true, apart := false }
def StepsPulsesSaid : Prop := stepsPulsesRow.holds Try.pinned (OpenSpec.ofChange stepsPulsesSpec)

/-- ITS FALSE NEIGHBOUR: 'it returns false'. Refute it at one input. -/
def stepsPulsesWrong : ChangeSpec := { name := "stepsPulses", fn := fun _ => fun
  | [d1, d2, d3] => { results := [.lit (.bool false)], args := [d1, d2, d3] }
  | _ => none }
def StepsPulsesWrongFalsely : Prop := stepsPulsesRow.holds Try.pinned (OpenSpec.ofChange stepsPulsesWrong)

/-- 'stirruplaw10.StepsPoints': WHATEVER THE INPUT: true; the input reads as it did. -/
def stepsPointsSpec : ChangeSpec := { name := "stepsPoints", fn := fun _ => fun
  | [d1, d2, d3] => { results := [.lit (.bool true)], args := [d1, d2, d3] }
  | _ => none }
def stepsPointsRow : OpenClaim := { program := "ytekokeiajgcfkaa", sum := "881ee76f016f0f7a3592fd07ff3c0b5f11a60749d57dbbcf9c4e3e31e787791b", func := "stirrup/stirruplaw10.StepsPoints", spec := "stepsPoints", unfollowed := true, recurses := true, apart := false }
def StepsPointsSaid : Prop := stepsPointsRow.holds Try.pinned (OpenSpec.ofChange stepsPointsSpec)

/-- ITS FALSE NEIGHBOUR: 'it returns false'. Refute it at one input. -/
def stepsPointsWrong : ChangeSpec := { name := "stepsPoints", fn := fun _ => fun
  | [d1, d2, d3] => { results := [.lit (.bool false)], args := [d1, d2, d3] }
  | _ => none }
def StepsPointsWrongFalsely : Prop := stepsPointsRow.holds Try.pinned (OpenSpec.ofChange stepsPointsWrong)

/-- 'stirruplaw10.StepsForms': WHATEVER THE INPUT: true; the input reads as it did. -/
def stepsFormsSpec : ChangeSpec := { name := "stepsForms", fn := fun _ => fun
  | [d1, d2] => { results := [.lit (.bool true)], args := [d1, d2] }
  | _ => none }
def stepsFormsRow : OpenClaim := { program := "ytekokeiajgcfkaa", sum := "881ee76f016f0f7a3592fd07ff3c0b5f11a60749d57dbbcf9c4e3e31e787791b", func := "stirrup/stirruplaw10.StepsForms", spec := "stepsForms", unfollowed := true, recurses := true, apart := false }
def StepsFormsSaid : Prop := stepsFormsRow.holds Try.pinned (OpenSpec.ofChange stepsFormsSpec)

/-- ITS FALSE NEIGHBOUR: 'it returns false'. Refute it at one input. -/
def stepsFormsWrong : ChangeSpec := { name := "stepsForms", fn := fun _ => fun
  | [d1, d2] => { results := [.lit (.bool false)], args := [d1, d2] }
  | _ => none }
def StepsFormsWrongFalsely : Prop := stepsFormsRow.holds Try.pinned (OpenSpec.ofChange stepsFormsWrong)

/-- 'stirruplaw10.StepsFirst': WHATEVER THE INPUT: true; the input reads as it did. -/
def stepsFirstSpec : ChangeSpec := { name := "stepsFirst", fn := fun _ => fun
  | [d1, d2, d3, d4, d5] => { results := [.lit (.bool true)], args := [d1, d2, d3, d4, d5] }
  | _ => none }
def stepsFirstRow : OpenClaim := { program := "ytekokeiajgcfkaa", sum := "881ee76f016f0f7a3592fd07ff3c0b5f11a60749d57dbbcf9c4e3e31e787791b", func := "stirrup/stirruplaw10.StepsFirst", spec := "stepsFirst", unfollowed := true, recurses := true, apart := false }
def StepsFirstSaid : Prop := stepsFirstRow.holds Try.pinned (OpenSpec.ofChange stepsFirstSpec)

/-- ITS FALSE NEIGHBOUR: 'it returns false'. Refute it at one input. -/
def stepsFirstWrong : ChangeSpec := { name := "stepsFirst", fn := fun _ => fun
  | [d1, d2, d3, d4, d5] => { results := [.lit (.bool false)], args := [d1, d2, d3, d4, d5] }
  | _ => none }
def StepsFirstWrongFalsely : Prop := stepsFirstRow.holds Try.pinned (OpenSpec.ofChange stepsFirstWrong)

/-- 'stirruplaw10.StepsShort': WHATEVER THE INPUT: true; the input reads as it did. -/
def stepsShortSpec : ChangeSpec := { name := "stepsShort", fn := fun _ => fun
  | [d1, d2] => { results := [.lit (.bool true)], args := [d1, d2] }
  | _ => none }
def stepsShortRow : OpenClaim := { program := "ytekokeiajgcfkaa", sum := "881ee76f016f0f7a3592fd07ff3c0b5f11a60749d57dbbcf9c4e3e31e787791b", func := "stirrup/stirruplaw10.StepsShort", spec := "stepsShort", inPlace := ["slices.overlaps[stirrup/api.Step]"], unfollowed := true, recurses := true, apart := false }
def StepsShortSaid : Prop := stepsShortRow.holds Try.pinned (OpenSpec.ofChange stepsShortSpec)

/-- ITS FALSE NEIGHBOUR: 'it returns false'. Refute it at one input. -/
def stepsShortWrong : ChangeSpec := { name := "stepsShort", fn := fun _ => fun
  | [d1, d2] => { results := [.lit (.bool false)], args := [d1, d2] }
  | _ => none }
def StepsShortWrongFalsely : Prop := stepsShortRow.holds Try.pinned (OpenSpec.ofChange stepsShortWrong)

/-- 'stirruplaw10.StepsParts': WHATEVER THE INPUT: true; the input reads as it did. -/
def stepsPartsSpec : ChangeSpec := { name := "stepsParts", fn := fun _ => fun
  | [d1, d2, d3, d4, d5] => { results := [.lit (.bool true)], args := [d1, d2, d3, d4, d5] }
  | _ => none }
def stepsPartsRow : OpenClaim := { program := "ytekokeiajgcfkaa", sum := "881ee76f016f0f7a3592fd07ff3c0b5f11a60749d57dbbcf9c4e3e31e787791b", func := "stirrup/stirruplaw10.StepsParts", spec := "stepsParts", unfollowed := true, recurses := true, apart := false }
def StepsPartsSaid : Prop := stepsPartsRow.holds Try.pinned (OpenSpec.ofChange stepsPartsSpec)

/-- ITS FALSE NEIGHBOUR: 'it returns false'. Refute it at one input. -/
def stepsPartsWrong : ChangeSpec := { name := "stepsParts", fn := fun _ => fun
  | [d1, d2, d3, d4, d5] => { results := [.lit (.bool false)], args := [d1, d2, d3, d4, d5] }
  | _ => none }
def StepsPartsWrongFalsely : Prop := stepsPartsRow.holds Try.pinned (OpenSpec.ofChange stepsPartsWrong)

/- THE SECOND FORM. 'bulk': how many values and letters a reading holds, each counted each time it is reached (what is shared counts as often as it is met; a slice's spare places count too). A statement '..UptoSaid' is the law's where the arguments, and the package variables that the reading takes, are together of bulk at most 1048576: NARROWER than '..Said'. Prove '..Said' where nothing that the law and all that it calls make is longer than what came in: it says more and counts as full. Else prove '..UptoSaid'. A law counts once. -/
mutual
def uptoBulk {H : Type} : DataW H → Nat
  | .lit (.string bytes) => bytes.length + 1
  | .lit _ => 1
  | .nil => 1
  | .ptr d => uptoBulk d + 1
  | .slice elems spare => uptoBulkAll elems + uptoBulkAll spare + 1
  | .agg parts => uptoBulkAll parts + 1
  | .iface _ d => uptoBulk d + 1
  | .map entries => uptoBulkEntries entries + 1
  | .held _ => 1
def uptoBulkAll {H : Type} : List (DataW H) → Nat
  | [] => 0
  | d :: r => uptoBulk d + uptoBulkAll r
def uptoBulkEntries {H : Type} : List (Lit × DataW H) → Nat
  | [] => 0
  | x :: r => uptoBulkEntry x + uptoBulkEntries r
def uptoBulkEntry {H : Type} : Lit × DataW H → Nat
  | (.string bytes, d) => bytes.length + uptoBulk d + 1
  | (_, d) => uptoBulk d + 1
 end
def uptoSmall : (H : Type) → List (DataW H) → Bool := fun _ ds => decide (uptoBulkAll ds ≤ 1048576)
def OpenSpec.upto (s : _root_.Go.ChangeSpec) : _root_.Go.OpenSpec := { _root_.Go.OpenSpec.ofChange s with cond := some uptoSmall }

/-- 'stirruplaw10.StepsSums', WHERE WHAT IT READS IS OF BULK AT MOST 1048576: true; the input reads as it did. -/
def stepsSumsUptoRow : OpenClaim := { program := "ytekokeiajgcfkaa", sum := "881ee76f016f0f7a3592fd07ff3c0b5f11a60749d57dbbcf9c4e3e31e787791b", func := "stirrup/stirruplaw10.StepsSums", spec := "stepsSums", unfollowed := true, recurses := true, apart := false, narrowed := true }
def StepsSumsUptoSaid : Prop := stepsSumsUptoRow.holds Try.pinned (OpenSpec.upto stepsSumsSpec)

/-- 'stirruplaw10.StepsRanges', WHERE WHAT IT READS IS OF BULK AT MOST 1048576: true; the input reads as it did. -/
def stepsRangesUptoRow : OpenClaim := { program := "ytekokeiajgcfkaa", sum := "881ee76f016f0f7a3592fd07ff3c0b5f11a60749d57dbbcf9c4e3e31e787791b", func := "stirrup/stirruplaw10.StepsRanges", spec := "stepsRanges", unfollowed := true, recurses := true, apart := false, narrowed := true }
def StepsRangesUptoSaid : Prop := stepsRangesUptoRow.holds Try.pinned (OpenSpec.upto stepsRangesSpec)

/-- 'stirruplaw10.StepsPulses', WHERE WHAT IT READS IS OF BULK AT MOST 1048576: true; the input reads as it did. -/
def stepsPulsesUptoRow : OpenClaim := { program := "ytekokeiajgcfkaa", sum := "881ee76f016f0f7a3592fd07ff3c0b5f11a60749d57dbbcf9c4e3e31e787791b", func := "stirrup/stirruplaw10.StepsPulses", spec := "stepsPulses", unfollowed := true, recurses := true, apart := false, narrowed := true }
def StepsPulsesUptoSaid : Prop := stepsPulsesUptoRow.holds Try.pinned (OpenSpec.upto stepsPulsesSpec)

/-- 'stirruplaw10.StepsPoints', WHERE WHAT IT READS IS OF BULK AT MOST 1048576: true; the input reads as it did. -/
def stepsPointsUptoRow : OpenClaim := { program := "ytekokeiajgcfkaa", sum := "881ee76f016f0f7a3592fd07ff3c0b5f11a60749d57dbbcf9c4e3e31e787791b", func := "stirrup/stirruplaw10.StepsPoints", spec := "stepsPoints", unfollowed := true, recurses := true, apart := false, narrowed := true }
def StepsPointsUptoSaid : Prop := stepsPointsUptoRow.holds Try.pinned (OpenSpec.upto stepsPointsSpec)

/-- 'stirruplaw10.StepsForms', WHERE WHAT IT READS IS OF BULK AT MOST 1048576: true; the input reads as it did. -/
def stepsFormsUptoRow : OpenClaim := { program := "ytekokeiajgcfkaa", sum := "881ee76f016f0f7a3592fd07ff3c0b5f11a60749d57dbbcf9c4e3e31e787791b", func := "stirrup/stirruplaw10.StepsForms", spec := "stepsForms", unfollowed := true, recurses := true, apart := false, narrowed := true }
def StepsFormsUptoSaid : Prop := stepsFormsUptoRow.holds Try.pinned (OpenSpec.upto stepsFormsSpec)

/-- 'stirruplaw10.StepsFirst', WHERE WHAT IT READS IS OF BULK AT MOST 1048576: true; the input reads as it did. -/
def stepsFirstUptoRow : OpenClaim := { program := "ytekokeiajgcfkaa", sum := "881ee76f016f0f7a3592fd07ff3c0b5f11a60749d57dbbcf9c4e3e31e787791b", func := "stirrup/stirruplaw10.StepsFirst", spec := "stepsFirst", unfollowed := true, recurses := true, apart := false, narrowed := true }
def StepsFirstUptoSaid : Prop := stepsFirstUptoRow.holds Try.pinned (OpenSpec.upto stepsFirstSpec)

/-- 'stirruplaw10.StepsShort', WHERE WHAT IT READS IS OF BULK AT MOST 1048576: true; the input reads as it did. -/
def stepsShortUptoRow : OpenClaim := { program := "ytekokeiajgcfkaa", sum := "881ee76f016f0f7a3592fd07ff3c0b5f11a60749d57dbbcf9c4e3e31e787791b", func := "stirrup/stirruplaw10.StepsShort", spec := "stepsShort", inPlace := ["slices.overlaps[stirrup/api.Step]"], unfollowed := true, recurses := true, apart := false, narrowed := true }
def StepsShortUptoSaid : Prop := stepsShortUptoRow.holds Try.pinned (OpenSpec.upto stepsShortSpec)

/-- 'stirruplaw10.StepsParts', WHERE WHAT IT READS IS OF BULK AT MOST 1048576: true; the input reads as it did. -/
def stepsPartsUptoRow : OpenClaim := { program := "ytekokeiajgcfkaa", sum := "881ee76f016f0f7a3592fd07ff3c0b5f11a60749d57dbbcf9c4e3e31e787791b", func := "stirrup/stirruplaw10.StepsParts", spec := "stepsParts", unfollowed := true, recurses := true, apart := false, narrowed := true }
def StepsPartsUptoSaid : Prop := stepsPartsUptoRow.holds Try.pinned (OpenSpec.upto stepsPartsSpec)

end Rows
end Go.Proofs.Ytekokeiajgcfkaa
