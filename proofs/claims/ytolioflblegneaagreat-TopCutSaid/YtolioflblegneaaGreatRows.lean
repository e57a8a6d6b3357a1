/-
  No cell of these rows narrows 'for every input' (looked for: loops, veiled, ifaces, maps, wideKeys, modest, calm, conditions, laid).
  DERIVED. THE GIVEN ROWS OF THIS SEAT. 3 by the template 'for every input the law returns true; each argument reads behind the call as it read before'; 0 by the template 'total and deterministic' (their statements: YtolioflblegneaaGreatTotals.lean).
  GIVEN WITH THE SEED: the statements are not yours to turn. If you find one false, say at which input.
  Laid BY PROGRAM, IN A SANDBOX (cutbox-rows.mjs): the forced cells as the released guide's own fill.sh prints them over the translation 09ec26eefe680ce6… (all of the seat's roots in one cut). By AI agents, Wed Nov 11 2026. No macro, syntax, notation, axiom, sorry.
-/
import Derived.Test.YtolioflblegneaaGreatChecked
import GoSem.Claim
import GoSem.ClaimJoined
import GoSem.ClaimMapViews
import Derived.JoinedTies
import Derived.KernelRfl
namespace Go.Proofs.YtolioflblegneaaGreat
/- THE CELL 'sum', in the pinned program and in every row, IS THE sha256 OF THE DUMP (.gsa) THAT YtolioflblegneaaGreatProg.lean LOADS. Nothing in Lean hashes anything: it is a label: what it is worth is what the hold of that sum in a sandbox is worth. -/
noncomputable def Tryz.pinned : Pinned := { name := "ytolioflblegneaagreat", sum := "09ec26eefe680ce645bbfb360614195263309cab915a03de25951e9e257e6979", checked := Tryz.checked }
namespace Rows
def none {H : Type} : Left H := { results := [], args := [] }

/-- 'stirruptop.TopCut': WHATEVER THE INPUT: true; the input reads as it did. -/
def topCutSpec : ChangeSpec := { name := "topCut", fn := fun _ => fun
  | [d1, d2, d3, d4] => { results := [.lit (.bool true)], args := [d1, d2, d3, d4] }
  | _ => none }
def topCutRow : OpenClaim := { program := "ytolioflblegneaagreat", sum := "09ec26eefe680ce645bbfb360614195263309cab915a03de25951e9e257e6979", func := "stirrup/stirruptop.TopCut", spec := "topCut", unfollowed := true, recurses := true, apart := false }
def TopCutSaid : Prop := topCutRow.holds Tryz.pinned (OpenSpec.ofChange topCutSpec)

/-- ITS FALSE NEIGHBOUR: 'it returns false'. Refute it at one input. -/
def topCutWrong : ChangeSpec := { name := "topCut", fn := fun _ => fun
  | [d1, d2, d3, d4] => { results := [.lit (.bool false)], args := [d1, d2, d3, d4] }
  | _ => none }
def TopCutWrongFalsely : Prop := topCutRow.holds Tryz.pinned (OpenSpec.ofChange topCutWrong)

/-- 'stirruptop.TopOrdered': WHATEVER THE INPUT: true; the input reads as it did. -/
def topOrderedSpec : ChangeSpec := { name := "topOrdered", fn := fun _ => fun
  | [d1, d2, d3] => { results := [.lit (.bool true)], args := [d1, d2, d3] }
  | _ => none }
def topOrderedRow : OpenClaim := { program := "ytolioflblegneaagreat", sum := "09ec26eefe680ce645bbfb360614195263309cab915a03de25951e9e257e6979", func := "stirrup/stirruptop.TopOrdered", spec := "topOrdered", unfollowed := true, recurses := true, apart := false }
def TopOrderedSaid : Prop := topOrderedRow.holds Tryz.pinned (OpenSpec.ofChange topOrderedSpec)

/-- ITS FALSE NEIGHBOUR: 'it returns false'. Refute it at one input. -/
def topOrderedWrong : ChangeSpec := { name := "topOrdered", fn := fun _ => fun
  | [d1, d2, d3] => { results := [.lit (.bool false)], args := [d1, d2, d3] }
  | _ => none }
def TopOrderedWrongFalsely : Prop := topOrderedRow.holds Tryz.pinned (OpenSpec.ofChange topOrderedWrong)

/-- 'stirruptop.TopOffcuts': WHATEVER THE INPUT: true; the input reads as it did. -/
def topOffcutsSpec : ChangeSpec := { name := "topOffcuts", fn := fun _ => fun
  | [d1, d2, d3, d4] => { results := [.lit (.bool true)], args := [d1, d2, d3, d4] }
  | _ => none }
def topOffcutsRow : OpenClaim := { program := "ytolioflblegneaagreat", sum := "09ec26eefe680ce645bbfb360614195263309cab915a03de25951e9e257e6979", func := "stirrup/stirruptop.TopOffcuts", spec := "topOffcuts", inPlace := ["maps.clone"], unfollowed := true, recurses := true, apart := false }
def TopOffcutsSaid : Prop := topOffcutsRow.holds Tryz.pinned (OpenSpec.ofChange topOffcutsSpec)

/-- ITS FALSE NEIGHBOUR: 'it returns false'. Refute it at one input. -/
def topOffcutsWrong : ChangeSpec := { name := "topOffcuts", fn := fun _ => fun
  | [d1, d2, d3, d4] => { results := [.lit (.bool false)], args := [d1, d2, d3, d4] }
  | _ => none }
def TopOffcutsWrongFalsely : Prop := topOffcutsRow.holds Tryz.pinned (OpenSpec.ofChange topOffcutsWrong)

/- THE SECOND FORM. 'bulk': how many values and letters a reading holds, each counted each time it is reached (what is shared counts as often as it is met; a slice's spare places count too). A statement '..UptoSaid' is the law's where the arguments, and the package variables that the reading takes, are together of bulk at most 1048576: NARROWER than '..Said'. Prove '..Said' where nothing that the law and all that it calls make is longer than what came in: it says more and counts as full. Else prove '..UptoSaid'. A law counts once. -/
mutual
def uptoBulk {H : Type} : DataW H → Nat
  | .lit (.string bytes) => bytes.length + 1
  | .lit _ => 1
  | .nil => 1
  | .ptr d => uptoBulk d + 1
  | .slice elems spare => uptoBulkAll elems + uptoBulkAll spare + 1
  | .agg parts => uptoBulkAll parts + 1
  | .iface _ d => uptoBulk d + 1
  | .map entries => uptoBulkEntries entries + 1
  | .held _ => 1
def uptoBulkAll {H : Type} : List (DataW H) → Nat
  | [] => 0
  | d :: r => uptoBulk d + uptoBulkAll r
def uptoBulkEntries {H : Type} : List (Lit × DataW H) → Nat
  | [] => 0
  | x :: r => uptoBulkEntry x + uptoBulkEntries r
def uptoBulkEntry {H : Type} : Lit × DataW H → Nat
  | (.string bytes, d) => bytes.length + uptoBulk d + 1
  | (_, d) => uptoBulk d + 1
 end
def uptoSmall : (H : Type) → List (DataW H) → Bool := fun _ ds => decide (uptoBulkAll ds ≤ 1048576)
def OpenSpec.upto (s : _root_.Go.ChangeSpec) : _root_.Go.OpenSpec := { _root_.Go.OpenSpec.ofChange s with cond := some uptoSmall }

/-- 'stirruptop.TopCut', WHERE WHAT IT READS IS OF BULK AT MOST 1048576: true; the input reads as it did. -/
def topCutUptoRow : OpenClaim := { program := "ytolioflblegneaagreat", sum := "09ec26eefe680ce645bbfb360614195263309cab915a03de25951e9e257e6979", func := "stirrup/stirruptop.TopCut", spec := "topCut", unfollowed := true, recurses := true, apart := false, narrowed := true }
def TopCutUptoSaid : Prop := topCutUptoRow.holds Tryz.pinned (OpenSpec.upto topCutSpec)

/-- 'stirruptop.TopOrdered', WHERE WHAT IT READS IS OF BULK AT MOST 1048576: true; the input reads as it did. -/
def topOrderedUptoRow : OpenClaim := { program := "ytolioflblegneaagreat", sum := "09ec26eefe680ce645bbfb360614195263309cab915a03de25951e9e257e6979", func := "stirrup/stirruptop.TopOrdered", spec := "topOrdered", unfollowed := true, recurses := true, apart := false, narrowed := true }
def TopOrderedUptoSaid : Prop := topOrderedUptoRow.holds Tryz.pinned (OpenSpec.upto topOrderedSpec)

/-- 'stirruptop.TopOffcuts', WHERE WHAT IT READS IS OF BULK AT MOST 1048576: true; the input reads as it did. -/
def topOffcutsUptoRow : OpenClaim := { program := "ytolioflblegneaagreat", sum := "09ec26eefe680ce645bbfb360614195263309cab915a03de25951e9e257e6979", func := "stirrup/stirruptop.TopOffcuts", spec := "topOffcuts", inPlace := ["maps.clone"], unfollowed := true, recurses := true, apart := false, narrowed := true }
def TopOffcutsUptoSaid : Prop := topOffcutsUptoRow.holds Tryz.pinned (OpenSpec.upto topOffcutsSpec)

end Rows
end Go.Proofs.YtolioflblegneaaGreat
