/-
  No cell of these rows narrows 'for every input' (looked for: loops, veiled, ifaces, maps, wideKeys, modest, calm, conditions, laid).
  DERIVED. THE GIVEN ROWS OF THIS SEAT. 7 by the template 'for every input the law returns true; each argument reads behind the call as it read before'; 0 by the template 'total and deterministic' (their statements: YtgbldceimdjblaaTotals.lean).
  GIVEN WITH THE SEED: the statements are not yours to turn. If you find one false, say at which input.
  Laid BY PROGRAM, IN A SANDBOX (cutbox-rows.mjs): the forced cells as the released guide's own fill.sh prints them over the translation be840957a542ce4b… (all of the seat's roots in one cut). By AI agents, Wed Nov 11 2026. No macro, syntax, notation, axiom, sorry.
-/
import Derived.Test.YtgbldceimdjblaaChecked
import GoSem.Claim
import GoSem.ClaimJoined
import GoSem.ClaimMapViews
import Derived.JoinedTies
import Derived.KernelRfl
namespace Go.Proofs.Ytgbldceimdjblaa
/- THE CELL 'sum', in the pinned program and in every row, IS THE sha256 OF THE DUMP (.gsa) THAT YtgbldceimdjblaaProg.lean LOADS. Nothing in Lean hashes anything: it is a label: what it is worth is what the hold of that sum in a sandbox is worth. -/
noncomputable def Try.pinned : Pinned := { name := "ytgbldceimdjblaa", sum := "be840957a542ce4b51f942dbf4396e46eff70d3150bdcf5efabcc0cf77afbd04", checked := Try.checked }
namespace Rows
def none {H : Type} : Left H := { results := [], args := [] }

/-- 'stirruplaw35.MachineJohnson': WHATEVER THE INPUT: true; the input reads as it did. -/
def machineJohnsonSpec : ChangeSpec := { name := "machineJohnson", fn := fun _ => fun
  | [d] => { results := [.lit (.bool true)], args := [d] }
  | _ => none }
def machineJohnsonRow : OpenClaim := { program := "ytgbldceimdjblaa", sum := "be840957a542ce4b51f942dbf4396e46eff70d3150bdcf5efabcc0cf77afbd04", func := "stirrup/stirruplaw35.MachineJohnson", spec := "machineJohnson", unfollowed := true, recurses := true, apart := false }
def MachineJohnsonSaid : Prop := machineJohnsonRow.holds Try.pinned (OpenSpec.ofChange machineJohnsonSpec)

/-- ITS FALSE NEIGHBOUR: 'it returns false'. Refute it at one input. -/
def machineJohnsonWrong : ChangeSpec := { name := "machineJohnson", fn := fun _ => fun
  | [d] => { results := [.lit (.bool false)], args := [d] }
  | _ => none }
def MachineJohnsonWrongFalsely : Prop := machineJohnsonRow.holds Try.pinned (OpenSpec.ofChange machineJohnsonWrong)

/-- 'stirruplaw35.MachineOrders': WHATEVER THE INPUT: true; the input reads as it did. -/
def machineOrdersSpec : ChangeSpec := { name := "machineOrders", fn := fun _ => fun
  | [d1, d2] => { results := [.lit (.bool true)], args := [d1, d2] }
  | _ => none }
def machineOrdersRow : OpenClaim := { program := "ytgbldceimdjblaa", sum := "be840957a542ce4b51f942dbf4396e46eff70d3150bdcf5efabcc0cf77afbd04", func := "stirrup/stirruplaw35.MachineOrders", spec := "machineOrders", unfollowed := true, recurses := true, apart := false }
def MachineOrdersSaid : Prop := machineOrdersRow.holds Try.pinned (OpenSpec.ofChange machineOrdersSpec)

/-- ITS FALSE NEIGHBOUR: 'it returns false'. Refute it at one input. -/
def machineOrdersWrong : ChangeSpec := { name := "machineOrders", fn := fun _ => fun
  | [d1, d2] => { results := [.lit (.bool false)], args := [d1, d2] }
  | _ => none }
def MachineOrdersWrongFalsely : Prop := machineOrdersRow.holds Try.pinned (OpenSpec.ofChange machineOrdersWrong)

/-- 'stirruplaw35.MachineShortest': WHATEVER THE INPUT: true; the input reads as it did. -/
def machineShortestSpec : ChangeSpec := { name := "machineShortest", fn := fun _ => fun
  | [d1, d2] => { results := [.lit (.bool true)], args := [d1, d2] }
  | _ => none }
def machineShortestRow : OpenClaim := { program := "ytgbldceimdjblaa", sum := "be840957a542ce4b51f942dbf4396e46eff70d3150bdcf5efabcc0cf77afbd04", func := "stirrup/stirruplaw35.MachineShortest", spec := "machineShortest", unfollowed := true, recurses := true, apart := false }
def MachineShortestSaid : Prop := machineShortestRow.holds Try.pinned (OpenSpec.ofChange machineShortestSpec)

/-- ITS FALSE NEIGHBOUR: 'it returns false'. Refute it at one input. -/
def machineShortestWrong : ChangeSpec := { name := "machineShortest", fn := fun _ => fun
  | [d1, d2] => { results := [.lit (.bool false)], args := [d1, d2] }
  | _ => none }
def MachineShortestWrongFalsely : Prop := machineShortestRow.holds Try.pinned (OpenSpec.ofChange machineShortestWrong)

/-- 'stirruplaw35.MachineRuns': WHATEVER THE INPUT: true; the input reads as it did. -/
def machineRunsSpec : ChangeSpec := { name := "machineRuns", fn := fun _ => fun
  | [d1, d2] => { results := [.lit (.bool true)], args := [d1, d2] }
  | _ => none }
def machineRunsRow : OpenClaim := { program := "ytgbldceimdjblaa", sum := "be840957a542ce4b51f942dbf4396e46eff70d3150bdcf5efabcc0cf77afbd04", func := "stirrup/stirruplaw35.MachineRuns", spec := "machineRuns", unfollowed := true, recurses := true, apart := false }
def MachineRunsSaid : Prop := machineRunsRow.holds Try.pinned (OpenSpec.ofChange machineRunsSpec)

/-- ITS FALSE NEIGHBOUR: 'it returns false'. Refute it at one input. -/
def machineRunsWrong : ChangeSpec := { name := "machineRuns", fn := fun _ => fun
  | [d1, d2] => { results := [.lit (.bool false)], args := [d1, d2] }
  | _ => none }
def MachineRunsWrongFalsely : Prop := machineRunsRow.holds Try.pinned (OpenSpec.ofChange machineRunsWrong)

/-- 'stirruplaw35.MachineMore': WHATEVER THE INPUT: true; the input reads as it did. -/
def machineMoreSpec : ChangeSpec := { name := "machineMore", fn := fun _ => fun
  | [d1, d2, d3, d4] => { results := [.lit (.bool true)], args := [d1, d2, d3, d4] }
  | _ => none }
def machineMoreRow : OpenClaim := { program := "ytgbldceimdjblaa", sum := "be840957a542ce4b51f942dbf4396e46eff70d3150bdcf5efabcc0cf77afbd04", func := "stirrup/stirruplaw35.MachineMore", spec := "machineMore", unfollowed := true, recurses := true, apart := false }
def MachineMoreSaid : Prop := machineMoreRow.holds Try.pinned (OpenSpec.ofChange machineMoreSpec)

/-- ITS FALSE NEIGHBOUR: 'it returns false'. Refute it at one input. -/
def machineMoreWrong : ChangeSpec := { name := "machineMore", fn := fun _ => fun
  | [d1, d2, d3, d4] => { results := [.lit (.bool false)], args := [d1, d2, d3, d4] }
  | _ => none }
def MachineMoreWrongFalsely : Prop := machineMoreRow.holds Try.pinned (OpenSpec.ofChange machineMoreWrong)

/-- 'stirruplaw35.MachineBars': WHATEVER THE INPUT: true; the input reads as it did. -/
def machineBarsSpec : ChangeSpec := { name := "machineBars", fn := fun _ => fun
  | [d1, d2, d3, d4, d5] => { results := [.lit (.bool true)], args := [d1, d2, d3, d4, d5] }
  | _ => none }
def machineBarsRow : OpenClaim := { program := "ytgbldceimdjblaa", sum := "be840957a542ce4b51f942dbf4396e46eff70d3150bdcf5efabcc0cf77afbd04", func := "stirrup/stirruplaw35.MachineBars", spec := "machineBars", unfollowed := true, recurses := true, apart := false }
def MachineBarsSaid : Prop := machineBarsRow.holds Try.pinned (OpenSpec.ofChange machineBarsSpec)

/-- ITS FALSE NEIGHBOUR: 'it returns false'. Refute it at one input. -/
def machineBarsWrong : ChangeSpec := { name := "machineBars", fn := fun _ => fun
  | [d1, d2, d3, d4, d5] => { results := [.lit (.bool false)], args := [d1, d2, d3, d4, d5] }
  | _ => none }
def MachineBarsWrongFalsely : Prop := machineBarsRow.holds Try.pinned (OpenSpec.ofChange machineBarsWrong)

/-- 'stirruplaw35.MachineSorted': WHATEVER THE INPUT: true; the input reads as it did. -/
def machineSortedSpec : ChangeSpec := { name := "machineSorted", fn := fun _ => fun
  | [d1, d2, d3, d4] => { results := [.lit (.bool true)], args := [d1, d2, d3, d4] }
  | _ => none }
def machineSortedRow : OpenClaim := { program := "ytgbldceimdjblaa", sum := "be840957a542ce4b51f942dbf4396e46eff70d3150bdcf5efabcc0cf77afbd04", func := "stirrup/stirruplaw35.MachineSorted", spec := "machineSorted", unfollowed := true, recurses := true, apart := false }
def MachineSortedSaid : Prop := machineSortedRow.holds Try.pinned (OpenSpec.ofChange machineSortedSpec)

/-- ITS FALSE NEIGHBOUR: 'it returns false'. Refute it at one input. -/
def machineSortedWrong : ChangeSpec := { name := "machineSorted", fn := fun _ => fun
  | [d1, d2, d3, d4] => { results := [.lit (.bool false)], args := [d1, d2, d3, d4] }
  | _ => none }
def MachineSortedWrongFalsely : Prop := machineSortedRow.holds Try.pinned (OpenSpec.ofChange machineSortedWrong)

/- THE SECOND FORM. 'bulk': how many values and letters a reading holds, each counted each time it is reached (what is shared counts as often as it is met; a slice's spare places count too). A statement '..UptoSaid' is the law's where the arguments, and the package variables that the reading takes, are together of bulk at most 1048576: NARROWER than '..Said'. Prove '..Said' where nothing that the law and all that it calls make is longer than what came in: it says more and counts as full. Else prove '..UptoSaid'. A law counts once. -/
mutual
def uptoBulk {H : Type} : DataW H → Nat
  | .lit (.string bytes) => bytes.length + 1
  | .lit _ => 1
  | .nil => 1
  | .ptr d => uptoBulk d + 1
  | .slice elems spare => uptoBulkAll elems + uptoBulkAll spare + 1
  | .agg parts => uptoBulkAll parts + 1
  | .iface _ d => uptoBulk d + 1
  | .map entries => uptoBulkEntries entries + 1
  | .held _ => 1
def uptoBulkAll {H : Type} : List (DataW H) → Nat
  | [] => 0
  | d :: r => uptoBulk d + uptoBulkAll r
def uptoBulkEntries {H : Type} : List (Lit × DataW H) → Nat
  | [] => 0
  | x :: r => uptoBulkEntry x + uptoBulkEntries r
def uptoBulkEntry {H : Type} : Lit × DataW H → Nat
  | (.string bytes, d) => bytes.length + uptoBulk d + 1
  | (_, d) => uptoBulk d + 1
 end
def uptoSmall : (H : Type) → List (DataW H) → Bool := fun _ ds => decide (uptoBulkAll ds ≤ 1048576)
def OpenSpec.upto (s : _root_.Go.ChangeSpec) : _root_.Go.OpenSpec := { _root_.Go.OpenSpec.ofChange s with cond := some uptoSmall }

/-- 'stirruplaw35.MachineJohnson', WHERE WHAT IT READS IS OF BULK AT MOST 1048576: true; the input reads as it did. -/
def machineJohnsonUptoRow : OpenClaim := { program := "ytgbldceimdjblaa", sum := "be840957a542ce4b51f942dbf4396e46eff70d3150bdcf5efabcc0cf77afbd04", func := "stirrup/stirruplaw35.MachineJohnson", spec := "machineJohnson", unfollowed := true, recurses := true, apart := false, narrowed := true }
def MachineJohnsonUptoSaid : Prop := machineJohnsonUptoRow.holds Try.pinned (OpenSpec.upto machineJohnsonSpec)

/-- 'stirruplaw35.MachineOrders', WHERE WHAT IT READS IS OF BULK AT MOST 1048576: true; the input reads as it did. -/
def machineOrdersUptoRow : OpenClaim := { program := "ytgbldceimdjblaa", sum := "be840957a542ce4b51f942dbf4396e46eff70d3150bdcf5efabcc0cf77afbd04", func := "stirrup/stirruplaw35.MachineOrders", spec := "machineOrders", unfollowed := true, recurses := true, apart := false, narrowed := true }
def MachineOrdersUptoSaid : Prop := machineOrdersUptoRow.holds Try.pinned (OpenSpec.upto machineOrdersSpec)

/-- 'stirruplaw35.MachineShortest', WHERE WHAT IT READS IS OF BULK AT MOST 1048576: true; the input reads as it did. -/
def machineShortestUptoRow : OpenClaim := { program := "ytgbldceimdjblaa", sum := "be840957a542ce4b51f942dbf4396e46eff70d3150bdcf5efabcc0cf77afbd04", func := "stirrup/stirruplaw35.MachineShortest", spec := "machineShortest", unfollowed := true, recurses := true, apart := false, narrowed := true }
def MachineShortestUptoSaid : Prop := machineShortestUptoRow.holds Try.pinned (OpenSpec.upto machineShortestSpec)

/-- 'stirruplaw35.MachineRuns', WHERE WHAT IT READS IS OF BULK AT MOST 1048576: true; the input reads as it did. -/
def machineRunsUptoRow : OpenClaim := { program := "ytgbldceimdjblaa", sum := "be840957a542ce4b51f942dbf4396e46eff70d3150bdcf5efabcc0cf77afbd04", func := "stirrup/stirruplaw35.MachineRuns", spec := "machineRuns", unfollowed := true, recurses := true, apart := false, narrowed := true }
def MachineRunsUptoSaid : Prop := machineRunsUptoRow.holds Try.pinned (OpenSpec.upto machineRunsSpec)

/-- 'stirruplaw35.MachineMore', WHERE WHAT IT READS IS OF BULK AT MOST 1048576: true; the input reads as it did. -/
def machineMoreUptoRow : OpenClaim := { program := "ytgbldceimdjblaa", sum := "be840957a542ce4b51f942dbf4396e46eff70d3150bdcf5efabcc0cf77afbd04", func := "stirrup/stirruplaw35.MachineMore", spec := "machineMore", unfollowed := true, recurses := true, apart := false, narrowed := true }
def MachineMoreUptoSaid : Prop := machineMoreUptoRow.holds Try.pinned (OpenSpec.upto machineMoreSpec)

/-- 'stirruplaw35.MachineBars', WHERE WHAT IT READS IS OF BULK AT MOST 1048576: true; the input reads as it did. -/
def machineBarsUptoRow : OpenClaim := { program := "ytgbldceimdjblaa", sum := "be840957a542ce4b51f942dbf4396e46eff70d3150bdcf5efabcc0cf77afbd04", func := "stirrup/stirruplaw35.MachineBars", spec := "machineBars", unfollowed := true, recurses := true, apart := false, narrowed := true }
def MachineBarsUptoSaid : Prop := machineBarsUptoRow.holds Try.pinned (OpenSpec.upto machineBarsSpec)

/-- 'stirruplaw35.MachineSorted', WHERE WHAT IT READS IS OF BULK AT MOST 1048576: true; the input reads as it did. -/
def machineSortedUptoRow : OpenClaim := { program := "ytgbldceimdjblaa", sum := "be840957a542ce4b51f942dbf4396e46eff70d3150bdcf5efabcc0cf77afbd04", func := "stirrup/stirruplaw35.MachineSorted", spec := "machineSorted", unfollowed := true, recurses := true, apart := false, narrowed := true }
def MachineSortedUptoSaid : Prop := machineSortedUptoRow.holds Try.pinned (OpenSpec.upto machineSortedSpec)

end Rows
end Go.Proofs.Ytgbldceimdjblaa
