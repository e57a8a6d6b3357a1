/-
  No cell of these rows narrows 'for every input' (looked for: loops, veiled, ifaces, maps, wideKeys, modest, calm, conditions, laid).
  DERIVED. THE GIVEN ROWS OF THIS SEAT. 7 by the template 'for every input the law returns true; each argument reads behind the call as it read before'; 0 by the template 'total and deterministic' (their statements: YtjpnijnbfjgnfaaTotals.lean).
  GIVEN WITH THE SEED: the statements are not yours to turn. If you find one false, say at which input.
  Laid BY PROGRAM, IN A SANDBOX (cutbox-rows.mjs): the forced cells as the released guide's own fill.sh prints them over the translation 61a75891c2f82e5b… (all of the seat's roots in one cut). By AI agents, Wed Nov 11 2026. No macro, syntax, notation, axiom, sorry.
-/
import Derived.Test.YtjpnijnbfjgnfaaChecked
import GoSem.Claim
import GoSem.ClaimJoined
import GoSem.ClaimMapViews
import Derived.JoinedTies
import Derived.KernelRfl
namespace Go.Proofs.Ytjpnijnbfjgnfaa
/- THE CELL 'sum', in the pinned program and in every row, IS THE sha256 OF THE DUMP (.gsa) THAT YtjpnijnbfjgnfaaProg.lean LOADS. Nothing in Lean hashes anything: it is a label: what it is worth is what the hold of that sum in a sandbox is worth. -/
noncomputable def Try.pinned : Pinned := { name := "ytjpnijnbfjgnfaa", sum := "61a75891c2f82e5bbc1f262bfebf3f282c8191eed8e0828dfd9626aced122958", checked := Try.checked }
namespace Rows
def none {H : Type} : Left H := { results := [], args := [] }

/-- 'stirruplaw15.FrameTurns': WHATEVER THE INPUT: true; the input reads as it did. -/
def frameTurnsSpec : ChangeSpec := { name := "frameTurns", fn := fun _ => fun
  | [d1, d2] => { results := [.lit (.bool true)], args := [d1, d2] }
  | _ => none }
def frameTurnsRow : OpenClaim := { program := "ytjpnijnbfjgnfaa", sum := "61a75891c2f82e5bbc1f262bfebf3f282c8191eed8e0828dfd9626aced122958", func := "stirrup/stirruplaw15.FrameTurns", spec := "frameTurns", recurses := true, apart := false }
def FrameTurnsSaid : Prop := frameTurnsRow.holds Try.pinned (OpenSpec.ofChange frameTurnsSpec)

/-- ITS FALSE NEIGHBOUR: 'it returns false'. Refute it at one input. -/
def frameTurnsWrong : ChangeSpec := { name := "frameTurns", fn := fun _ => fun
  | [d1, d2] => { results := [.lit (.bool false)], args := [d1, d2] }
  | _ => none }
def FrameTurnsWrongFalsely : Prop := frameTurnsRow.holds Try.pinned (OpenSpec.ofChange frameTurnsWrong)

/-- 'stirruplaw15.FrameKeeps': WHATEVER THE INPUT: true; the input reads as it did. -/
def frameKeepsSpec : ChangeSpec := { name := "frameKeeps", fn := fun _ => fun
  | [d1, d2, d3, d4] => { results := [.lit (.bool true)], args := [d1, d2, d3, d4] }
  | _ => none }
def frameKeepsRow : OpenClaim := { program := "ytjpnijnbfjgnfaa", sum := "61a75891c2f82e5bbc1f262bfebf3f282c8191eed8e0828dfd9626aced122958", func := "stirrup/stirruplaw15.FrameKeeps", spec := "frameKeeps", unfollowed := true, recurses := true, apart := false }
def FrameKeepsSaid : Prop := frameKeepsRow.holds Try.pinned (OpenSpec.ofChange frameKeepsSpec)

/-- ITS FALSE NEIGHBOUR: 'it returns false'. Refute it at one input. -/
def frameKeepsWrong : ChangeSpec := { name := "frameKeeps", fn := fun _ => fun
  | [d1, d2, d3, d4] => { results := [.lit (.bool false)], args := [d1, d2, d3, d4] }
  | _ => none }
def FrameKeepsWrongFalsely : Prop := frameKeepsRow.holds Try.pinned (OpenSpec.ofChange frameKeepsWrong)

/-- 'stirruplaw15.FrameBack': WHATEVER THE INPUT: true; the input reads as it did. -/
def frameBackSpec : ChangeSpec := { name := "frameBack", fn := fun _ => fun
  | [d1, d2] => { results := [.lit (.bool true)], args := [d1, d2] }
  | _ => none }
def frameBackRow : OpenClaim := { program := "ytjpnijnbfjgnfaa", sum := "61a75891c2f82e5bbc1f262bfebf3f282c8191eed8e0828dfd9626aced122958", func := "stirrup/stirruplaw15.FrameBack", spec := "frameBack", unfollowed := true, recurses := true, apart := false }
def FrameBackSaid : Prop := frameBackRow.holds Try.pinned (OpenSpec.ofChange frameBackSpec)

/-- ITS FALSE NEIGHBOUR: 'it returns false'. Refute it at one input. -/
def frameBackWrong : ChangeSpec := { name := "frameBack", fn := fun _ => fun
  | [d1, d2] => { results := [.lit (.bool false)], args := [d1, d2] }
  | _ => none }
def FrameBackWrongFalsely : Prop := frameBackRow.holds Try.pinned (OpenSpec.ofChange frameBackWrong)

/-- 'stirruplaw15.FrameGroups': WHATEVER THE INPUT: true; the input reads as it did. -/
def frameGroupsSpec : ChangeSpec := { name := "frameGroups", fn := fun _ => fun
  | [d1, d2, d3, d4] => { results := [.lit (.bool true)], args := [d1, d2, d3, d4] }
  | _ => none }
def frameGroupsRow : OpenClaim := { program := "ytjpnijnbfjgnfaa", sum := "61a75891c2f82e5bbc1f262bfebf3f282c8191eed8e0828dfd9626aced122958", func := "stirrup/stirruplaw15.FrameGroups", spec := "frameGroups", unfollowed := true, recurses := true, apart := false }
def FrameGroupsSaid : Prop := frameGroupsRow.holds Try.pinned (OpenSpec.ofChange frameGroupsSpec)

/-- ITS FALSE NEIGHBOUR: 'it returns false'. Refute it at one input. -/
def frameGroupsWrong : ChangeSpec := { name := "frameGroups", fn := fun _ => fun
  | [d1, d2, d3, d4] => { results := [.lit (.bool false)], args := [d1, d2, d3, d4] }
  | _ => none }
def FrameGroupsWrongFalsely : Prop := frameGroupsRow.holds Try.pinned (OpenSpec.ofChange frameGroupsWrong)

/-- 'stirruplaw15.FrameImages': WHATEVER THE INPUT: true; the input reads as it did. -/
def frameImagesSpec : ChangeSpec := { name := "frameImages", fn := fun _ => fun
  | [d1, d2, d3, d4] => { results := [.lit (.bool true)], args := [d1, d2, d3, d4] }
  | _ => none }
def frameImagesRow : OpenClaim := { program := "ytjpnijnbfjgnfaa", sum := "61a75891c2f82e5bbc1f262bfebf3f282c8191eed8e0828dfd9626aced122958", func := "stirrup/stirruplaw15.FrameImages", spec := "frameImages", recurses := true, apart := false }
def FrameImagesSaid : Prop := frameImagesRow.holds Try.pinned (OpenSpec.ofChange frameImagesSpec)

/-- ITS FALSE NEIGHBOUR: 'it returns false'. Refute it at one input. -/
def frameImagesWrong : ChangeSpec := { name := "frameImages", fn := fun _ => fun
  | [d1, d2, d3, d4] => { results := [.lit (.bool false)], args := [d1, d2, d3, d4] }
  | _ => none }
def FrameImagesWrongFalsely : Prop := frameImagesRow.holds Try.pinned (OpenSpec.ofChange frameImagesWrong)

/-- 'stirruplaw15.FramePaths': WHATEVER THE INPUT: true; the input reads as it did. -/
def framePathsSpec : ChangeSpec := { name := "framePaths", fn := fun _ => fun
  | [d1, d2, d3] => { results := [.lit (.bool true)], args := [d1, d2, d3] }
  | _ => none }
def framePathsRow : OpenClaim := { program := "ytjpnijnbfjgnfaa", sum := "61a75891c2f82e5bbc1f262bfebf3f282c8191eed8e0828dfd9626aced122958", func := "stirrup/stirruplaw15.FramePaths", spec := "framePaths", recurses := true, apart := false }
def FramePathsSaid : Prop := framePathsRow.holds Try.pinned (OpenSpec.ofChange framePathsSpec)

/-- ITS FALSE NEIGHBOUR: 'it returns false'. Refute it at one input. -/
def framePathsWrong : ChangeSpec := { name := "framePaths", fn := fun _ => fun
  | [d1, d2, d3] => { results := [.lit (.bool false)], args := [d1, d2, d3] }
  | _ => none }
def FramePathsWrongFalsely : Prop := framePathsRow.holds Try.pinned (OpenSpec.ofChange framePathsWrong)

/-- 'stirruplaw15.FrameBoxes': WHATEVER THE INPUT: true; the input reads as it did. -/
def frameBoxesSpec : ChangeSpec := { name := "frameBoxes", fn := fun _ => fun
  | [d1, d2, d3, d4, d5, d6] => { results := [.lit (.bool true)], args := [d1, d2, d3, d4, d5, d6] }
  | _ => none }
def frameBoxesRow : OpenClaim := { program := "ytjpnijnbfjgnfaa", sum := "61a75891c2f82e5bbc1f262bfebf3f282c8191eed8e0828dfd9626aced122958", func := "stirrup/stirruplaw15.FrameBoxes", spec := "frameBoxes", unfollowed := true, recurses := true, apart := false }
def FrameBoxesSaid : Prop := frameBoxesRow.holds Try.pinned (OpenSpec.ofChange frameBoxesSpec)

/-- ITS FALSE NEIGHBOUR: 'it returns false'. Refute it at one input. -/
def frameBoxesWrong : ChangeSpec := { name := "frameBoxes", fn := fun _ => fun
  | [d1, d2, d3, d4, d5, d6] => { results := [.lit (.bool false)], args := [d1, d2, d3, d4, d5, d6] }
  | _ => none }
def FrameBoxesWrongFalsely : Prop := frameBoxesRow.holds Try.pinned (OpenSpec.ofChange frameBoxesWrong)

/- THE SECOND FORM. 'bulk': how many values and letters a reading holds, each counted each time it is reached (what is shared counts as often as it is met; a slice's spare places count too). A statement '..UptoSaid' is the law's where the arguments, and the package variables that the reading takes, are together of bulk at most 1048576: NARROWER than '..Said'. Prove '..Said' where nothing that the law and all that it calls make is longer than what came in: it says more and counts as full. Else prove '..UptoSaid'. A law counts once. -/
mutual
def uptoBulk {H : Type} : DataW H → Nat
  | .lit (.string bytes) => bytes.length + 1
  | .lit _ => 1
  | .nil => 1
  | .ptr d => uptoBulk d + 1
  | .slice elems spare => uptoBulkAll elems + uptoBulkAll spare + 1
  | .agg parts => uptoBulkAll parts + 1
  | .iface _ d => uptoBulk d + 1
  | .map entries => uptoBulkEntries entries + 1
  | .held _ => 1
def uptoBulkAll {H : Type} : List (DataW H) → Nat
  | [] => 0
  | d :: r => uptoBulk d + uptoBulkAll r
def uptoBulkEntries {H : Type} : List (Lit × DataW H) → Nat
  | [] => 0
  | x :: r => uptoBulkEntry x + uptoBulkEntries r
def uptoBulkEntry {H : Type} : Lit × DataW H → Nat
  | (.string bytes, d) => bytes.length + uptoBulk d + 1
  | (_, d) => uptoBulk d + 1
 end
def uptoSmall : (H : Type) → List (DataW H) → Bool := fun _ ds => decide (uptoBulkAll ds ≤ 1048576)
def OpenSpec.upto (s : _root_.Go.ChangeSpec) : _root_.Go.OpenSpec := { _root_.Go.OpenSpec.ofChange s with cond := some uptoSmall }

/-- 'stirruplaw15.FrameTurns', WHERE WHAT IT READS IS OF BULK AT MOST 1048576: true; the input reads as it did. -/
def frameTurnsUptoRow : OpenClaim := { program := "ytjpnijnbfjgnfaa", sum := "61a75891c2f82e5bbc1f262bfebf3f282c8191eed8e0828dfd9626aced122958", func := "stirrup/stirruplaw15.FrameTurns", spec := "frameTurns", recurses := true, apart := false, narrowed := true }
def FrameTurnsUptoSaid : Prop := frameTurnsUptoRow.holds Try.pinned (OpenSpec.upto frameTurnsSpec)

/-- 'stirruplaw15.FrameKeeps', WHERE WHAT IT READS IS OF BULK AT MOST 1048576: true; the input reads as it did. -/
def frameKeepsUptoRow : OpenClaim := { program := "ytjpnijnbfjgnfaa", sum := "61a75891c2f82e5bbc1f262bfebf3f282c8191eed8e0828dfd9626aced122958", func := "stirrup/stirruplaw15.FrameKeeps", spec := "frameKeeps", unfollowed := true, recurses := true, apart := false, narrowed := true }
def FrameKeepsUptoSaid : Prop := frameKeepsUptoRow.holds Try.pinned (OpenSpec.upto frameKeepsSpec)

/-- 'stirruplaw15.FrameBack', WHERE WHAT IT READS IS OF BULK AT MOST 1048576: true; the input reads as it did. -/
def frameBackUptoRow : OpenClaim := { program := "ytjpnijnbfjgnfaa", sum := "61a75891c2f82e5bbc1f262bfebf3f282c8191eed8e0828dfd9626aced122958", func := "stirrup/stirruplaw15.FrameBack", spec := "frameBack", unfollowed := true, recurses := true, apart := false, narrowed := true }
def FrameBackUptoSaid : Prop := frameBackUptoRow.holds Try.pinned (OpenSpec.upto frameBackSpec)

/-- 'stirruplaw15.FrameGroups', WHERE WHAT IT READS IS OF BULK AT MOST 1048576: true; the input reads as it did. -/
def frameGroupsUptoRow : OpenClaim := { program := "ytjpnijnbfjgnfaa", sum := "61a75891c2f82e5bbc1f262bfebf3f282c8191eed8e0828dfd9626aced122958", func := "stirrup/stirruplaw15.FrameGroups", spec := "frameGroups", unfollowed := true, recurses := true, apart := false, narrowed := true }
def FrameGroupsUptoSaid : Prop := frameGroupsUptoRow.holds Try.pinned (OpenSpec.upto frameGroupsSpec)

/-- 'stirruplaw15.FrameImages', WHERE WHAT IT READS IS OF BULK AT MOST 1048576: true; the input reads as it did. -/
def frameImagesUptoRow : OpenClaim := { program := "ytjpnijnbfjgnfaa", sum := "61a75891c2f82e5bbc1f262bfebf3f282c8191eed8e0828dfd9626aced122958", func := "stirrup/stirruplaw15.FrameImages", spec := "frameImages", recurses := true, apart := false, narrowed := true }
def FrameImagesUptoSaid : Prop := frameImagesUptoRow.holds Try.pinned (OpenSpec.upto frameImagesSpec)

/-- 'stirruplaw15.FramePaths', WHERE WHAT IT READS IS OF BULK AT MOST 1048576: true; the input reads as it did. -/
def framePathsUptoRow : OpenClaim := { program := "ytjpnijnbfjgnfaa", sum := "61a75891c2f82e5bbc1f262bfebf3f282c8191eed8e0828dfd9626aced122958", func := "stirrup/stirruplaw15.FramePaths", spec := "framePaths", recurses := true, apart := false, narrowed := true }
def FramePathsUptoSaid : Prop := framePathsUptoRow.holds Try.pinned (OpenSpec.upto framePathsSpec)

/-- 'stirruplaw15.FrameBoxes', WHERE WHAT IT READS IS OF BULK AT MOST 1048576: true; the input reads as it did. -/
def frameBoxesUptoRow : OpenClaim := { program := "ytjpnijnbfjgnfaa", sum := "61a75891c2f82e5bbc1f262bfebf3f282c8191eed8e0828dfd9626aced122958", func := "stirrup/stirruplaw15.FrameBoxes", spec := "frameBoxes", unfollowed := true, recurses := true, apart := false, narrowed := true }
def FrameBoxesUptoSaid : Prop := frameBoxesUptoRow.holds Try.pinned (OpenSpec.upto frameBoxesSpec)

end Rows
end Go.Proofs.Ytjpnijnbfjgnfaa
