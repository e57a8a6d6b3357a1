/-
  No cell of these rows narrows 'for every input' (looked for: loops, veiled, ifaces, maps, wideKeys, modest, calm, conditions, laid).
  DERIVED. THE GIVEN ROWS OF THIS SEAT. 7 by the template 'for every input the law returns true; each argument reads behind the call as it read before'; 0 by the template 'total and deterministic' (their statements: YthlpfjcjfhdmaaaTotals.lean).
  GIVEN WITH THE SEED: the statements are not yours to turn. If you find one false, say at which input.
  Laid BY PROGRAM, IN A SANDBOX (cutbox-rows.mjs): the forced cells as the released guide's own fill.sh prints them over the translation db81586da77673be… (all of the seat's roots in one cut). By AI agents, Wed Nov 11 2026. No macro, syntax, notation, axiom, sorry.
-/
import Derived.Test.YthlpfjcjfhdmaaaChecked
import GoSem.Claim
import GoSem.ClaimJoined
import GoSem.ClaimMapViews
import Derived.JoinedTies
import Derived.KernelRfl
namespace Go.Proofs.Ythlpfjcjfhdmaaa
/- THE CELL 'sum', in the pinned program and in every row, IS THE sha256 OF THE DUMP (.gsa) THAT YthlpfjcjfhdmaaaProg.lean LOADS. Nothing in Lean hashes anything: it is a label: what it is worth is what the hold of that sum in a sandbox is worth. -/
noncomputable def Try.pinned : Pinned := { name := "ythlpfjcjfhdmaaa", sum := "db81586da77673be05909a12879f460c092610a4da1a77c3f06abe24979cadea", checked := Try.checked }
namespace Rows
def none {H : Type} : Left H := { results := [], args := [] }

/-- 'stirruplaw33.CuttingGreedy': WHATEVER THE INPUT: true; the input reads as it did. -/
def cuttingGreedySpec : ChangeSpec := { name := "cuttingGreedy", fn := fun _ => fun
  | [d1, d2] => { results := [.lit (.bool true)], args := [d1, d2] }
  | _ => none }
def cuttingGreedyRow : OpenClaim := { program := "ythlpfjcjfhdmaaa", sum := "db81586da77673be05909a12879f460c092610a4da1a77c3f06abe24979cadea", func := "stirrup/stirruplaw33.CuttingGreedy", spec := "cuttingGreedy", unfollowed := true, recurses := true, apart := false }
def CuttingGreedySaid : Prop := cuttingGreedyRow.holds Try.pinned (OpenSpec.ofChange cuttingGreedySpec)

/-- ITS FALSE NEIGHBOUR: 'it returns false'. Refute it at one input. -/
def cuttingGreedyWrong : ChangeSpec := { name := "cuttingGreedy", fn := fun _ => fun
  | [d1, d2] => { results := [.lit (.bool false)], args := [d1, d2] }
  | _ => none }
def CuttingGreedyWrongFalsely : Prop := cuttingGreedyRow.holds Try.pinned (OpenSpec.ofChange cuttingGreedyWrong)

/-- 'stirruplaw33.CuttingMore': WHATEVER THE INPUT: true; the input reads as it did. -/
def cuttingMoreSpec : ChangeSpec := { name := "cuttingMore", fn := fun _ => fun
  | [d1, d2, d3, d4] => { results := [.lit (.bool true)], args := [d1, d2, d3, d4] }
  | _ => none }
def cuttingMoreRow : OpenClaim := { program := "ythlpfjcjfhdmaaa", sum := "db81586da77673be05909a12879f460c092610a4da1a77c3f06abe24979cadea", func := "stirrup/stirruplaw33.CuttingMore", spec := "cuttingMore", unfollowed := true, recurses := true, apart := false }
def CuttingMoreSaid : Prop := cuttingMoreRow.holds Try.pinned (OpenSpec.ofChange cuttingMoreSpec)

/-- ITS FALSE NEIGHBOUR: 'it returns false'. Refute it at one input. -/
def cuttingMoreWrong : ChangeSpec := { name := "cuttingMore", fn := fun _ => fun
  | [d1, d2, d3, d4] => { results := [.lit (.bool false)], args := [d1, d2, d3, d4] }
  | _ => none }
def CuttingMoreWrongFalsely : Prop := cuttingMoreRow.holds Try.pinned (OpenSpec.ofChange cuttingMoreWrong)

/-- 'stirruplaw33.CuttingAltered': WHATEVER THE INPUT: true; the input reads as it did. -/
def cuttingAlteredSpec : ChangeSpec := { name := "cuttingAltered", fn := fun _ => fun
  | [d1, d2, d3, d4] => { results := [.lit (.bool true)], args := [d1, d2, d3, d4] }
  | _ => none }
def cuttingAlteredRow : OpenClaim := { program := "ythlpfjcjfhdmaaa", sum := "db81586da77673be05909a12879f460c092610a4da1a77c3f06abe24979cadea", func := "stirrup/stirruplaw33.CuttingAltered", spec := "cuttingAltered", unfollowed := true, recurses := true, apart := false }
def CuttingAlteredSaid : Prop := cuttingAlteredRow.holds Try.pinned (OpenSpec.ofChange cuttingAlteredSpec)

/-- ITS FALSE NEIGHBOUR: 'it returns false'. Refute it at one input. -/
def cuttingAlteredWrong : ChangeSpec := { name := "cuttingAltered", fn := fun _ => fun
  | [d1, d2, d3, d4] => { results := [.lit (.bool false)], args := [d1, d2, d3, d4] }
  | _ => none }
def CuttingAlteredWrongFalsely : Prop := cuttingAlteredRow.holds Try.pinned (OpenSpec.ofChange cuttingAlteredWrong)

/-- 'stirruplaw33.CuttingChecks': WHATEVER THE INPUT: true; the input reads as it did. -/
def cuttingChecksSpec : ChangeSpec := { name := "cuttingChecks", fn := fun _ => fun
  | [d1, d2, d3] => { results := [.lit (.bool true)], args := [d1, d2, d3] }
  | _ => none }
def cuttingChecksRow : OpenClaim := { program := "ythlpfjcjfhdmaaa", sum := "db81586da77673be05909a12879f460c092610a4da1a77c3f06abe24979cadea", func := "stirrup/stirruplaw33.CuttingChecks", spec := "cuttingChecks", unfollowed := true, recurses := true, apart := false }
def CuttingChecksSaid : Prop := cuttingChecksRow.holds Try.pinned (OpenSpec.ofChange cuttingChecksSpec)

/-- ITS FALSE NEIGHBOUR: 'it returns false'. Refute it at one input. -/
def cuttingChecksWrong : ChangeSpec := { name := "cuttingChecks", fn := fun _ => fun
  | [d1, d2, d3] => { results := [.lit (.bool false)], args := [d1, d2, d3] }
  | _ => none }
def CuttingChecksWrongFalsely : Prop := cuttingChecksRow.holds Try.pinned (OpenSpec.ofChange cuttingChecksWrong)

/-- 'stirruplaw33.CuttingYields': WHATEVER THE INPUT: true; the input reads as it did. -/
def cuttingYieldsSpec : ChangeSpec := { name := "cuttingYields", fn := fun _ => fun
  | [d1, d2] => { results := [.lit (.bool true)], args := [d1, d2] }
  | _ => none }
def cuttingYieldsRow : OpenClaim := { program := "ythlpfjcjfhdmaaa", sum := "db81586da77673be05909a12879f460c092610a4da1a77c3f06abe24979cadea", func := "stirrup/stirruplaw33.CuttingYields", spec := "cuttingYields", unfollowed := true, recurses := true, apart := false }
def CuttingYieldsSaid : Prop := cuttingYieldsRow.holds Try.pinned (OpenSpec.ofChange cuttingYieldsSpec)

/-- ITS FALSE NEIGHBOUR: 'it returns false'. Refute it at one input. -/
def cuttingYieldsWrong : ChangeSpec := { name := "cuttingYields", fn := fun _ => fun
  | [d1, d2] => { results := [.lit (.bool false)], args := [d1, d2] }
  | _ => none }
def CuttingYieldsWrongFalsely : Prop := cuttingYieldsRow.holds Try.pinned (OpenSpec.ofChange cuttingYieldsWrong)

/-- 'stirruplaw33.CuttingLeast': WHATEVER THE INPUT: true; the input reads as it did. -/
def cuttingLeastSpec : ChangeSpec := { name := "cuttingLeast", fn := fun _ => fun
  | [d1, d2, d3] => { results := [.lit (.bool true)], args := [d1, d2, d3] }
  | _ => none }
def cuttingLeastRow : OpenClaim := { program := "ythlpfjcjfhdmaaa", sum := "db81586da77673be05909a12879f460c092610a4da1a77c3f06abe24979cadea", func := "stirrup/stirruplaw33.CuttingLeast", spec := "cuttingLeast", unfollowed := true, recurses := true, apart := false }
def CuttingLeastSaid : Prop := cuttingLeastRow.holds Try.pinned (OpenSpec.ofChange cuttingLeastSpec)

/-- ITS FALSE NEIGHBOUR: 'it returns false'. Refute it at one input. -/
def cuttingLeastWrong : ChangeSpec := { name := "cuttingLeast", fn := fun _ => fun
  | [d1, d2, d3] => { results := [.lit (.bool false)], args := [d1, d2, d3] }
  | _ => none }
def CuttingLeastWrongFalsely : Prop := cuttingLeastRow.holds Try.pinned (OpenSpec.ofChange cuttingLeastWrong)

/-- 'stirruplaw33.CuttingBounds': WHATEVER THE INPUT: true; the input reads as it did. -/
def cuttingBoundsSpec : ChangeSpec := { name := "cuttingBounds", fn := fun _ => fun
  | [d1, d2, d3] => { results := [.lit (.bool true)], args := [d1, d2, d3] }
  | _ => none }
def cuttingBoundsRow : OpenClaim := { program := "ythlpfjcjfhdmaaa", sum := "db81586da77673be05909a12879f460c092610a4da1a77c3f06abe24979cadea", func := "stirrup/stirruplaw33.CuttingBounds", spec := "cuttingBounds", unfollowed := true, recurses := true, apart := false }
def CuttingBoundsSaid : Prop := cuttingBoundsRow.holds Try.pinned (OpenSpec.ofChange cuttingBoundsSpec)

/-- ITS FALSE NEIGHBOUR: 'it returns false'. Refute it at one input. -/
def cuttingBoundsWrong : ChangeSpec := { name := "cuttingBounds", fn := fun _ => fun
  | [d1, d2, d3] => { results := [.lit (.bool false)], args := [d1, d2, d3] }
  | _ => none }
def CuttingBoundsWrongFalsely : Prop := cuttingBoundsRow.holds Try.pinned (OpenSpec.ofChange cuttingBoundsWrong)

/- THE SECOND FORM. 'bulk': how many values and letters a reading holds, each counted each time it is reached (what is shared counts as often as it is met; a slice's spare places count too). A statement '..UptoSaid' is the law's where the arguments, and the package variables that the reading takes, are together of bulk at most 1048576: NARROWER than '..Said'. Prove '..Said' where nothing that the law and all that it calls make is longer than what came in: it says more and counts as full. Else prove '..UptoSaid'. A law counts once. -/
mutual
def uptoBulk {H : Type} : DataW H → Nat
  | .lit (.string bytes) => bytes.length + 1
  | .lit _ => 1
  | .nil => 1
  | .ptr d => uptoBulk d + 1
  | .slice elems spare => uptoBulkAll elems + uptoBulkAll spare + 1
  | .agg parts => uptoBulkAll parts + 1
  | .iface _ d => uptoBulk d + 1
  | .map entries => uptoBulkEntries entries + 1
  | .held _ => 1
def uptoBulkAll {H : Type} : List (DataW H) → Nat
  | [] => 0
  | d :: r => uptoBulk d + uptoBulkAll r
def uptoBulkEntries {H : Type} : List (Lit × DataW H) → Nat
  | [] => 0
  | x :: r => uptoBulkEntry x + uptoBulkEntries r
def uptoBulkEntry {H : Type} : Lit × DataW H → Nat
  | (.string bytes, d) => bytes.length + uptoBulk d + 1
  | (_, d) => uptoBulk d + 1
 end
def uptoSmall : (H : Type) → List (DataW H) → Bool := fun _ ds => decide (uptoBulkAll ds ≤ 1048576)
def OpenSpec.upto (s : _root_.Go.ChangeSpec) : _root_.Go.OpenSpec := { _root_.Go.OpenSpec.ofChange s with cond := some uptoSmall }

/-- 'stirruplaw33.CuttingGreedy', WHERE WHAT IT READS IS OF BULK AT MOST 1048576: true; the input reads as it did. -/
def cuttingGreedyUptoRow : OpenClaim := { program := "ythlpfjcjfhdmaaa", sum := "db81586da77673be05909a12879f460c092610a4da1a77c3f06abe24979cadea", func := "stirrup/stirruplaw33.CuttingGreedy", spec := "cuttingGreedy", unfollowed := true, recurses := true, apart := false, narrowed := true }
def CuttingGreedyUptoSaid : Prop := cuttingGreedyUptoRow.holds Try.pinned (OpenSpec.upto cuttingGreedySpec)

/-- 'stirruplaw33.CuttingMore', WHERE WHAT IT READS IS OF BULK AT MOST 1048576: true; the input reads as it did. -/
def cuttingMoreUptoRow : OpenClaim := { program := "ythlpfjcjfhdmaaa", sum := "db81586da77673be05909a12879f460c092610a4da1a77c3f06abe24979cadea", func := "stirrup/stirruplaw33.CuttingMore", spec := "cuttingMore", unfollowed := true, recurses := true, apart := false, narrowed := true }
def CuttingMoreUptoSaid : Prop := cuttingMoreUptoRow.holds Try.pinned (OpenSpec.upto cuttingMoreSpec)

/-- 'stirruplaw33.CuttingAltered', WHERE WHAT IT READS IS OF BULK AT MOST 1048576: true; the input reads as it did. -/
def cuttingAlteredUptoRow : OpenClaim := { program := "ythlpfjcjfhdmaaa", sum := "db81586da77673be05909a12879f460c092610a4da1a77c3f06abe24979cadea", func := "stirrup/stirruplaw33.CuttingAltered", spec := "cuttingAltered", unfollowed := true, recurses := true, apart := false, narrowed := true }
def CuttingAlteredUptoSaid : Prop := cuttingAlteredUptoRow.holds Try.pinned (OpenSpec.upto cuttingAlteredSpec)

/-- 'stirruplaw33.CuttingChecks', WHERE WHAT IT READS IS OF BULK AT MOST 1048576: true; the input reads as it did. -/
def cuttingChecksUptoRow : OpenClaim := { program := "ythlpfjcjfhdmaaa", sum := "db81586da77673be05909a12879f460c092610a4da1a77c3f06abe24979cadea", func := "stirrup/stirruplaw33.CuttingChecks", spec := "cuttingChecks", unfollowed := true, recurses := true, apart := false, narrowed := true }
def CuttingChecksUptoSaid : Prop := cuttingChecksUptoRow.holds Try.pinned (OpenSpec.upto cuttingChecksSpec)

/-- 'stirruplaw33.CuttingYields', WHERE WHAT IT READS IS OF BULK AT MOST 1048576: true; the input reads as it did. -/
def cuttingYieldsUptoRow : OpenClaim := { program := "ythlpfjcjfhdmaaa", sum := "db81586da77673be05909a12879f460c092610a4da1a77c3f06abe24979cadea", func := "stirrup/stirruplaw33.CuttingYields", spec := "cuttingYields", unfollowed := true, recurses := true, apart := false, narrowed := true }
def CuttingYieldsUptoSaid : Prop := cuttingYieldsUptoRow.holds Try.pinned (OpenSpec.upto cuttingYieldsSpec)

/-- 'stirruplaw33.CuttingLeast', WHERE WHAT IT READS IS OF BULK AT MOST 1048576: true; the input reads as it did. -/
def cuttingLeastUptoRow : OpenClaim := { program := "ythlpfjcjfhdmaaa", sum := "db81586da77673be05909a12879f460c092610a4da1a77c3f06abe24979cadea", func := "stirrup/stirruplaw33.CuttingLeast", spec := "cuttingLeast", unfollowed := true, recurses := true, apart := false, narrowed := true }
def CuttingLeastUptoSaid : Prop := cuttingLeastUptoRow.holds Try.pinned (OpenSpec.upto cuttingLeastSpec)

/-- 'stirruplaw33.CuttingBounds', WHERE WHAT IT READS IS OF BULK AT MOST 1048576: true; the input reads as it did. -/
def cuttingBoundsUptoRow : OpenClaim := { program := "ythlpfjcjfhdmaaa", sum := "db81586da77673be05909a12879f460c092610a4da1a77c3f06abe24979cadea", func := "stirrup/stirruplaw33.CuttingBounds", spec := "cuttingBounds", unfollowed := true, recurses := true, apart := false, narrowed := true }
def CuttingBoundsUptoSaid : Prop := cuttingBoundsUptoRow.holds Try.pinned (OpenSpec.upto cuttingBoundsSpec)

end Rows
end Go.Proofs.Ythlpfjcjfhdmaaa
