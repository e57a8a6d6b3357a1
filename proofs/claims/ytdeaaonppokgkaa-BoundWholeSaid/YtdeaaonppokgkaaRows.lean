/-
  No cell of these rows narrows 'for every input' (looked for: loops, veiled, ifaces, maps, wideKeys, modest, calm, conditions, laid).
  DERIVED. THE GIVEN ROWS OF THIS SEAT. 6 by the template 'for every input the law returns true; each argument reads behind the call as it read before'; 0 by the template 'total and deterministic' (their statements: YtdeaaonppokgkaaTotals.lean).
  GIVEN WITH THE SEED: the statements are not yours to turn. If you find one false, say at which input.
  Laid BY PROGRAM, IN A SANDBOX (cutbox-rows.mjs): the forced cells as the released guide's own fill.sh prints them over the translation c462aa9c1c5f883f… (all of the seat's roots in one cut). By AI agents, Wed Nov 11 2026. No macro, syntax, notation, axiom, sorry.
-/
import Derived.Test.YtdeaaonppokgkaaChecked
import GoSem.Claim
import GoSem.ClaimJoined
import GoSem.ClaimMapViews
import Derived.JoinedTies
import Derived.KernelRfl
namespace Go.Proofs.Ytdeaaonppokgkaa
/- THE CELL 'sum', in the pinned program and in every row, IS THE sha256 OF THE DUMP (.gsa) THAT YtdeaaonppokgkaaProg.lean LOADS. Nothing in Lean hashes anything: it is a label: what it is worth is what the hold of that sum in a sandbox is worth. -/
noncomputable def Try.pinned : Pinned := { name := "ytdeaaonppokgkaa", sum := "c462aa9c1c5f883f2046beddc07cddfb009d9434158b3eb4d5652b2b7c4b2e7e", checked := Try.checked }
namespace Rows
def none {H : Type} : Left H := { results := [], args := [] }

/-- 'stirruplaw32.BoundProves': WHATEVER THE INPUT: true; the input reads as it did. -/
def boundProvesSpec : ChangeSpec := { name := "boundProves", fn := fun _ => fun
  | [d1, d2, d3, d4] => { results := [.lit (.bool true)], args := [d1, d2, d3, d4] }
  | _ => none }
def boundProvesRow : OpenClaim := { program := "ytdeaaonppokgkaa", sum := "c462aa9c1c5f883f2046beddc07cddfb009d9434158b3eb4d5652b2b7c4b2e7e", func := "stirrup/stirruplaw32.BoundProves", spec := "boundProves", inPlace := ["math/bits.Add64", "math/bits.Sub64"], unfollowed := true, recurses := true, named := ["math/bits.divideError", "math/bits.overflowError"], apart := false }
def BoundProvesSaid : Prop := boundProvesRow.holds Try.pinned (OpenSpec.ofChange boundProvesSpec)

/-- ITS FALSE NEIGHBOUR: 'it returns false'. Refute it at one input. -/
def boundProvesWrong : ChangeSpec := { name := "boundProves", fn := fun _ => fun
  | [d1, d2, d3, d4] => { results := [.lit (.bool false)], args := [d1, d2, d3, d4] }
  | _ => none }
def BoundProvesWrongFalsely : Prop := boundProvesRow.holds Try.pinned (OpenSpec.ofChange boundProvesWrong)

/-- 'stirruplaw32.BoundWhole': WHATEVER THE INPUT: true; the input reads as it did. -/
def boundWholeSpec : ChangeSpec := { name := "boundWhole", fn := fun _ => fun
  | [d1, d2] => { results := [.lit (.bool true)], args := [d1, d2] }
  | _ => none }
def boundWholeRow : OpenClaim := { program := "ytdeaaonppokgkaa", sum := "c462aa9c1c5f883f2046beddc07cddfb009d9434158b3eb4d5652b2b7c4b2e7e", func := "stirrup/stirruplaw32.BoundWhole", spec := "boundWhole", inPlace := ["math/bits.Add64", "math/bits.Sub64"], unfollowed := true, recurses := true, named := ["math/bits.divideError", "math/bits.overflowError"], apart := false }
def BoundWholeSaid : Prop := boundWholeRow.holds Try.pinned (OpenSpec.ofChange boundWholeSpec)

/-- ITS FALSE NEIGHBOUR: 'it returns false'. Refute it at one input. -/
def boundWholeWrong : ChangeSpec := { name := "boundWhole", fn := fun _ => fun
  | [d1, d2] => { results := [.lit (.bool false)], args := [d1, d2] }
  | _ => none }
def BoundWholeWrongFalsely : Prop := boundWholeRow.holds Try.pinned (OpenSpec.ofChange boundWholeWrong)

/-- 'stirruplaw32.BoundDuals': WHATEVER THE INPUT: true; the input reads as it did. -/
def boundDualsSpec : ChangeSpec := { name := "boundDuals", fn := fun _ => fun
  | [d1, d2, d3] => { results := [.lit (.bool true)], args := [d1, d2, d3] }
  | _ => none }
def boundDualsRow : OpenClaim := { program := "ytdeaaonppokgkaa", sum := "c462aa9c1c5f883f2046beddc07cddfb009d9434158b3eb4d5652b2b7c4b2e7e", func := "stirrup/stirruplaw32.BoundDuals", spec := "boundDuals", inPlace := ["math/bits.Add64", "math/bits.Sub64"], unfollowed := true, recurses := true, named := ["math/bits.divideError", "math/bits.overflowError"], apart := false }
def BoundDualsSaid : Prop := boundDualsRow.holds Try.pinned (OpenSpec.ofChange boundDualsSpec)

/-- ITS FALSE NEIGHBOUR: 'it returns false'. Refute it at one input. -/
def boundDualsWrong : ChangeSpec := { name := "boundDuals", fn := fun _ => fun
  | [d1, d2, d3] => { results := [.lit (.bool false)], args := [d1, d2, d3] }
  | _ => none }
def BoundDualsWrongFalsely : Prop := boundDualsRow.holds Try.pinned (OpenSpec.ofChange boundDualsWrong)

/-- 'stirruplaw32.BoundSimple': WHATEVER THE INPUT: true; the input reads as it did. -/
def boundSimpleSpec : ChangeSpec := { name := "boundSimple", fn := fun _ => fun
  | [d1, d2] => { results := [.lit (.bool true)], args := [d1, d2] }
  | _ => none }
def boundSimpleRow : OpenClaim := { program := "ytdeaaonppokgkaa", sum := "c462aa9c1c5f883f2046beddc07cddfb009d9434158b3eb4d5652b2b7c4b2e7e", func := "stirrup/stirruplaw32.BoundSimple", spec := "boundSimple", inPlace := ["math/bits.Add64", "math/bits.Sub64"], unfollowed := true, recurses := true, named := ["math/bits.divideError", "math/bits.overflowError"], apart := false }
def BoundSimpleSaid : Prop := boundSimpleRow.holds Try.pinned (OpenSpec.ofChange boundSimpleSpec)

/-- ITS FALSE NEIGHBOUR: 'it returns false'. Refute it at one input. -/
def boundSimpleWrong : ChangeSpec := { name := "boundSimple", fn := fun _ => fun
  | [d1, d2] => { results := [.lit (.bool false)], args := [d1, d2] }
  | _ => none }
def BoundSimpleWrongFalsely : Prop := boundSimpleRow.holds Try.pinned (OpenSpec.ofChange boundSimpleWrong)

/-- 'stirruplaw32.BoundMore': WHATEVER THE INPUT: true; the input reads as it did. -/
def boundMoreSpec : ChangeSpec := { name := "boundMore", fn := fun _ => fun
  | [d1, d2, d3, d4, d5] => { results := [.lit (.bool true)], args := [d1, d2, d3, d4, d5] }
  | _ => none }
def boundMoreRow : OpenClaim := { program := "ytdeaaonppokgkaa", sum := "c462aa9c1c5f883f2046beddc07cddfb009d9434158b3eb4d5652b2b7c4b2e7e", func := "stirrup/stirruplaw32.BoundMore", spec := "boundMore", inPlace := ["math/bits.Add64", "math/bits.Sub64"], unfollowed := true, recurses := true, named := ["math/bits.divideError", "math/bits.overflowError"], apart := false }
def BoundMoreSaid : Prop := boundMoreRow.holds Try.pinned (OpenSpec.ofChange boundMoreSpec)

/-- ITS FALSE NEIGHBOUR: 'it returns false'. Refute it at one input. -/
def boundMoreWrong : ChangeSpec := { name := "boundMore", fn := fun _ => fun
  | [d1, d2, d3, d4, d5] => { results := [.lit (.bool false)], args := [d1, d2, d3, d4, d5] }
  | _ => none }
def BoundMoreWrongFalsely : Prop := boundMoreRow.holds Try.pinned (OpenSpec.ofChange boundMoreWrong)

/-- 'stirruplaw32.BoundUnder': WHATEVER THE INPUT: true; the input reads as it did. -/
def boundUnderSpec : ChangeSpec := { name := "boundUnder", fn := fun _ => fun
  | [d1, d2, d3, d4, d5, d6, d7] => { results := [.lit (.bool true)], args := [d1, d2, d3, d4, d5, d6, d7] }
  | _ => none }
def boundUnderRow : OpenClaim := { program := "ytdeaaonppokgkaa", sum := "c462aa9c1c5f883f2046beddc07cddfb009d9434158b3eb4d5652b2b7c4b2e7e", func := "stirrup/stirruplaw32.BoundUnder", spec := "boundUnder", inPlace := ["math/bits.Add64", "math/bits.Sub64"], unfollowed := true, recurses := true, named := ["math/bits.divideError", "math/bits.overflowError"], apart := false }
def BoundUnderSaid : Prop := boundUnderRow.holds Try.pinned (OpenSpec.ofChange boundUnderSpec)

/-- ITS FALSE NEIGHBOUR: 'it returns false'. Refute it at one input. -/
def boundUnderWrong : ChangeSpec := { name := "boundUnder", fn := fun _ => fun
  | [d1, d2, d3, d4, d5, d6, d7] => { results := [.lit (.bool false)], args := [d1, d2, d3, d4, d5, d6, d7] }
  | _ => none }
def BoundUnderWrongFalsely : Prop := boundUnderRow.holds Try.pinned (OpenSpec.ofChange boundUnderWrong)

/- THE SECOND FORM. 'bulk': how many values and letters a reading holds, each counted each time it is reached (what is shared counts as often as it is met; a slice's spare places count too). A statement '..UptoSaid' is the law's where the arguments, and the package variables that the reading takes, are together of bulk at most 1048576: NARROWER than '..Said'. Prove '..Said' where nothing that the law and all that it calls make is longer than what came in: it says more and counts as full. Else prove '..UptoSaid'. A law counts once. -/
mutual
def uptoBulk {H : Type} : DataW H → Nat
  | .lit (.string bytes) => bytes.length + 1
  | .lit _ => 1
  | .nil => 1
  | .ptr d => uptoBulk d + 1
  | .slice elems spare => uptoBulkAll elems + uptoBulkAll spare + 1
  | .agg parts => uptoBulkAll parts + 1
  | .iface _ d => uptoBulk d + 1
  | .map entries => uptoBulkEntries entries + 1
  | .held _ => 1
def uptoBulkAll {H : Type} : List (DataW H) → Nat
  | [] => 0
  | d :: r => uptoBulk d + uptoBulkAll r
def uptoBulkEntries {H : Type} : List (Lit × DataW H) → Nat
  | [] => 0
  | x :: r => uptoBulkEntry x + uptoBulkEntries r
def uptoBulkEntry {H : Type} : Lit × DataW H → Nat
  | (.string bytes, d) => bytes.length + uptoBulk d + 1
  | (_, d) => uptoBulk d + 1
 end
def uptoSmall : (H : Type) → List (DataW H) → Bool := fun _ ds => decide (uptoBulkAll ds ≤ 1048576)
def OpenSpec.upto (s : _root_.Go.ChangeSpec) : _root_.Go.OpenSpec := { _root_.Go.OpenSpec.ofChange s with cond := some uptoSmall }

/-- 'stirruplaw32.BoundProves', WHERE WHAT IT READS IS OF BULK AT MOST 1048576: true; the input reads as it did. -/
def boundProvesUptoRow : OpenClaim := { program := "ytdeaaonppokgkaa", sum := "c462aa9c1c5f883f2046beddc07cddfb009d9434158b3eb4d5652b2b7c4b2e7e", func := "stirrup/stirruplaw32.BoundProves", spec := "boundProves", inPlace := ["math/bits.Add64", "math/bits.Sub64"], unfollowed := true, recurses := true, named := ["math/bits.divideError", "math/bits.overflowError"], apart := false, narrowed := true }
def BoundProvesUptoSaid : Prop := boundProvesUptoRow.holds Try.pinned (OpenSpec.upto boundProvesSpec)

/-- 'stirruplaw32.BoundWhole', WHERE WHAT IT READS IS OF BULK AT MOST 1048576: true; the input reads as it did. -/
def boundWholeUptoRow : OpenClaim := { program := "ytdeaaonppokgkaa", sum := "c462aa9c1c5f883f2046beddc07cddfb009d9434158b3eb4d5652b2b7c4b2e7e", func := "stirrup/stirruplaw32.BoundWhole", spec := "boundWhole", inPlace := ["math/bits.Add64", "math/bits.Sub64"], unfollowed := true, recurses := true, named := ["math/bits.divideError", "math/bits.overflowError"], apart := false, narrowed := true }
def BoundWholeUptoSaid : Prop := boundWholeUptoRow.holds Try.pinned (OpenSpec.upto boundWholeSpec)

/-- 'stirruplaw32.BoundDuals', WHERE WHAT IT READS IS OF BULK AT MOST 1048576: true; the input reads as it did. -/
def boundDualsUptoRow : OpenClaim := { program := "ytdeaaonppokgkaa", sum := "c462aa9c1c5f883f2046beddc07cddfb009d9434158b3eb4d5652b2b7c4b2e7e", func := "stirrup/stirruplaw32.BoundDuals", spec := "boundDuals", inPlace := ["math/bits.Add64", "math/bits.Sub64"], unfollowed := true, recurses := true, named := ["math/bits.divideError", "math/bits.overflowError"], apart := false, narrowed := true }
def BoundDualsUptoSaid : Prop := boundDualsUptoRow.holds Try.pinned (OpenSpec.upto boundDualsSpec)

/-- 'stirruplaw32.BoundSimple', WHERE WHAT IT READS IS OF BULK AT MOST 1048576: true; the input reads as it did. -/
def boundSimpleUptoRow : OpenClaim := { program := "ytdeaaonppokgkaa", sum := "c462aa9c1c5f883f2046beddc07cddfb009d9434158b3eb4d5652b2b7c4b2e7e", func := "stirrup/stirruplaw32.BoundSimple", spec := "boundSimple", inPlace := ["math/bits.Add64", "math/bits.Sub64"], unfollowed := true, recurses := true, named := ["math/bits.divideError", "math/bits.overflowError"], apart := false, narrowed := true }
def BoundSimpleUptoSaid : Prop := boundSimpleUptoRow.holds Try.pinned (OpenSpec.upto boundSimpleSpec)

/-- 'stirruplaw32.BoundMore', WHERE WHAT IT READS IS OF BULK AT MOST 1048576: true; the input reads as it did. -/
def boundMoreUptoRow : OpenClaim := { program := "ytdeaaonppokgkaa", sum := "c462aa9c1c5f883f2046beddc07cddfb009d9434158b3eb4d5652b2b7c4b2e7e", func := "stirrup/stirruplaw32.BoundMore", spec := "boundMore", inPlace := ["math/bits.Add64", "math/bits.Sub64"], unfollowed := true, recurses := true, named := ["math/bits.divideError", "math/bits.overflowError"], apart := false, narrowed := true }
def BoundMoreUptoSaid : Prop := boundMoreUptoRow.holds Try.pinned (OpenSpec.upto boundMoreSpec)

/-- 'stirruplaw32.BoundUnder', WHERE WHAT IT READS IS OF BULK AT MOST 1048576: true; the input reads as it did. -/
def boundUnderUptoRow : OpenClaim := { program := "ytdeaaonppokgkaa", sum := "c462aa9c1c5f883f2046beddc07cddfb009d9434158b3eb4d5652b2b7c4b2e7e", func := "stirrup/stirruplaw32.BoundUnder", spec := "boundUnder", inPlace := ["math/bits.Add64", "math/bits.Sub64"], unfollowed := true, recurses := true, named := ["math/bits.divideError", "math/bits.overflowError"], apart := false, narrowed := true }
def BoundUnderUptoSaid : Prop := boundUnderUptoRow.holds Try.pinned (OpenSpec.upto boundUnderSpec)

end Rows
end Go.Proofs.Ytdeaaonppokgkaa
