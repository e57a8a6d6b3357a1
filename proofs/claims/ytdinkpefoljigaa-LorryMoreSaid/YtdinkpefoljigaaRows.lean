/-
  No cell of these rows narrows 'for every input' (looked for: loops, veiled, ifaces, maps, wideKeys, modest, calm, conditions, laid).
  DERIVED. THE GIVEN ROWS OF THIS SEAT. 7 by the template 'for every input the law returns true; each argument reads behind the call as it read before'; 0 by the template 'total and deterministic' (their statements: YtdinkpefoljigaaTotals.lean).
  GIVEN WITH THE SEED: the statements are not yours to turn. If you find one false, say at which input.
  Laid BY PROGRAM, IN A SANDBOX (cutbox-rows.mjs): the forced cells as the released guide's own fill.sh prints them over the translation b23e7a8a3f30c962… (all of the seat's roots in one cut). By AI agents, Wed Nov 11 2026. No macro, syntax, notation, axiom, sorry.
-/
import Derived.Test.YtdinkpefoljigaaChecked
import GoSem.Claim
import GoSem.ClaimJoined
import GoSem.ClaimMapViews
import Derived.JoinedTies
import Derived.KernelRfl
namespace Go.Proofs.Ytdinkpefoljigaa
/- THE CELL 'sum', in the pinned program and in every row, IS THE sha256 OF THE DUMP (.gsa) THAT YtdinkpefoljigaaProg.lean LOADS. Nothing in Lean hashes anything: it is a label: what it is worth is what the hold of that sum in a sandbox is worth. -/
noncomputable def Try.pinned : Pinned := { name := "ytdinkpefoljigaa", sum := "b23e7a8a3f30c96214003f1cd248cbb619a9704d163e254875fdca9515669c81", checked := Try.checked }
namespace Rows
def none {H : Type} : Left H := { results := [], args := [] }

/-- 'stirruplaw37.LorryGreedy': WHATEVER THE INPUT: true; the input reads as it did. -/
def lorryGreedySpec : ChangeSpec := { name := "lorryGreedy", fn := fun _ => fun
  | [d1, d2] => { results := [.lit (.bool true)], args := [d1, d2] }
  | _ => none }
def lorryGreedyRow : OpenClaim := { program := "ytdinkpefoljigaa", sum := "b23e7a8a3f30c96214003f1cd248cbb619a9704d163e254875fdca9515669c81", func := "stirrup/stirruplaw37.LorryGreedy", spec := "lorryGreedy", unfollowed := true, recurses := true, apart := false }
def LorryGreedySaid : Prop := lorryGreedyRow.holds Try.pinned (OpenSpec.ofChange lorryGreedySpec)

/-- ITS FALSE NEIGHBOUR: 'it returns false'. Refute it at one input. -/
def lorryGreedyWrong : ChangeSpec := { name := "lorryGreedy", fn := fun _ => fun
  | [d1, d2] => { results := [.lit (.bool false)], args := [d1, d2] }
  | _ => none }
def LorryGreedyWrongFalsely : Prop := lorryGreedyRow.holds Try.pinned (OpenSpec.ofChange lorryGreedyWrong)

/-- 'stirruplaw37.LorryAltered': WHATEVER THE INPUT: true; the input reads as it did. -/
def lorryAlteredSpec : ChangeSpec := { name := "lorryAltered", fn := fun _ => fun
  | [d1, d2, d3] => { results := [.lit (.bool true)], args := [d1, d2, d3] }
  | _ => none }
def lorryAlteredRow : OpenClaim := { program := "ytdinkpefoljigaa", sum := "b23e7a8a3f30c96214003f1cd248cbb619a9704d163e254875fdca9515669c81", func := "stirrup/stirruplaw37.LorryAltered", spec := "lorryAltered", unfollowed := true, recurses := true, apart := false }
def LorryAlteredSaid : Prop := lorryAlteredRow.holds Try.pinned (OpenSpec.ofChange lorryAlteredSpec)

/-- ITS FALSE NEIGHBOUR: 'it returns false'. Refute it at one input. -/
def lorryAlteredWrong : ChangeSpec := { name := "lorryAltered", fn := fun _ => fun
  | [d1, d2, d3] => { results := [.lit (.bool false)], args := [d1, d2, d3] }
  | _ => none }
def LorryAlteredWrongFalsely : Prop := lorryAlteredRow.holds Try.pinned (OpenSpec.ofChange lorryAlteredWrong)

/-- 'stirruplaw37.LorryLeast': WHATEVER THE INPUT: true; the input reads as it did. -/
def lorryLeastSpec : ChangeSpec := { name := "lorryLeast", fn := fun _ => fun
  | [d1, d2] => { results := [.lit (.bool true)], args := [d1, d2] }
  | _ => none }
def lorryLeastRow : OpenClaim := { program := "ytdinkpefoljigaa", sum := "b23e7a8a3f30c96214003f1cd248cbb619a9704d163e254875fdca9515669c81", func := "stirrup/stirruplaw37.LorryLeast", spec := "lorryLeast", unfollowed := true, recurses := true, apart := false }
def LorryLeastSaid : Prop := lorryLeastRow.holds Try.pinned (OpenSpec.ofChange lorryLeastSpec)

/-- ITS FALSE NEIGHBOUR: 'it returns false'. Refute it at one input. -/
def lorryLeastWrong : ChangeSpec := { name := "lorryLeast", fn := fun _ => fun
  | [d1, d2] => { results := [.lit (.bool false)], args := [d1, d2] }
  | _ => none }
def LorryLeastWrongFalsely : Prop := lorryLeastRow.holds Try.pinned (OpenSpec.ofChange lorryLeastWrong)

/-- 'stirruplaw37.LorryBounds': WHATEVER THE INPUT: true; the input reads as it did. -/
def lorryBoundsSpec : ChangeSpec := { name := "lorryBounds", fn := fun _ => fun
  | [d1, d2, d3] => { results := [.lit (.bool true)], args := [d1, d2, d3] }
  | _ => none }
def lorryBoundsRow : OpenClaim := { program := "ytdinkpefoljigaa", sum := "b23e7a8a3f30c96214003f1cd248cbb619a9704d163e254875fdca9515669c81", func := "stirrup/stirruplaw37.LorryBounds", spec := "lorryBounds", unfollowed := true, recurses := true, apart := false }
def LorryBoundsSaid : Prop := lorryBoundsRow.holds Try.pinned (OpenSpec.ofChange lorryBoundsSpec)

/-- ITS FALSE NEIGHBOUR: 'it returns false'. Refute it at one input. -/
def lorryBoundsWrong : ChangeSpec := { name := "lorryBounds", fn := fun _ => fun
  | [d1, d2, d3] => { results := [.lit (.bool false)], args := [d1, d2, d3] }
  | _ => none }
def LorryBoundsWrongFalsely : Prop := lorryBoundsRow.holds Try.pinned (OpenSpec.ofChange lorryBoundsWrong)

/-- 'stirruplaw37.LorryMore': WHATEVER THE INPUT: true; the input reads as it did. -/
def lorryMoreSpec : ChangeSpec := { name := "lorryMore", fn := fun _ => fun
  | [d1, d2, d3, d4] => { results := [.lit (.bool true)], args := [d1, d2, d3, d4] }
  | _ => none }
def lorryMoreRow : OpenClaim := { program := "ytdinkpefoljigaa", sum := "b23e7a8a3f30c96214003f1cd248cbb619a9704d163e254875fdca9515669c81", func := "stirrup/stirruplaw37.LorryMore", spec := "lorryMore", unfollowed := true, recurses := true, apart := false }
def LorryMoreSaid : Prop := lorryMoreRow.holds Try.pinned (OpenSpec.ofChange lorryMoreSpec)

/-- ITS FALSE NEIGHBOUR: 'it returns false'. Refute it at one input. -/
def lorryMoreWrong : ChangeSpec := { name := "lorryMore", fn := fun _ => fun
  | [d1, d2, d3, d4] => { results := [.lit (.bool false)], args := [d1, d2, d3, d4] }
  | _ => none }
def LorryMoreWrongFalsely : Prop := lorryMoreRow.holds Try.pinned (OpenSpec.ofChange lorryMoreWrong)

/-- 'stirruplaw37.LorryChecks': WHATEVER THE INPUT: true; the input reads as it did. -/
def lorryChecksSpec : ChangeSpec := { name := "lorryChecks", fn := fun _ => fun
  | [d1, d2, d3, d4] => { results := [.lit (.bool true)], args := [d1, d2, d3, d4] }
  | _ => none }
def lorryChecksRow : OpenClaim := { program := "ytdinkpefoljigaa", sum := "b23e7a8a3f30c96214003f1cd248cbb619a9704d163e254875fdca9515669c81", func := "stirrup/stirruplaw37.LorryChecks", spec := "lorryChecks", unfollowed := true, recurses := true, apart := false }
def LorryChecksSaid : Prop := lorryChecksRow.holds Try.pinned (OpenSpec.ofChange lorryChecksSpec)

/-- ITS FALSE NEIGHBOUR: 'it returns false'. Refute it at one input. -/
def lorryChecksWrong : ChangeSpec := { name := "lorryChecks", fn := fun _ => fun
  | [d1, d2, d3, d4] => { results := [.lit (.bool false)], args := [d1, d2, d3, d4] }
  | _ => none }
def LorryChecksWrongFalsely : Prop := lorryChecksRow.holds Try.pinned (OpenSpec.ofChange lorryChecksWrong)

/-- 'stirruplaw37.LorryLoads': WHATEVER THE INPUT: true; the input reads as it did. -/
def lorryLoadsSpec : ChangeSpec := { name := "lorryLoads", fn := fun _ => fun
  | [d1, d2] => { results := [.lit (.bool true)], args := [d1, d2] }
  | _ => none }
def lorryLoadsRow : OpenClaim := { program := "ytdinkpefoljigaa", sum := "b23e7a8a3f30c96214003f1cd248cbb619a9704d163e254875fdca9515669c81", func := "stirrup/stirruplaw37.LorryLoads", spec := "lorryLoads", unfollowed := true, recurses := true, apart := false }
def LorryLoadsSaid : Prop := lorryLoadsRow.holds Try.pinned (OpenSpec.ofChange lorryLoadsSpec)

/-- ITS FALSE NEIGHBOUR: 'it returns false'. Refute it at one input. -/
def lorryLoadsWrong : ChangeSpec := { name := "lorryLoads", fn := fun _ => fun
  | [d1, d2] => { results := [.lit (.bool false)], args := [d1, d2] }
  | _ => none }
def LorryLoadsWrongFalsely : Prop := lorryLoadsRow.holds Try.pinned (OpenSpec.ofChange lorryLoadsWrong)

/- THE SECOND FORM. 'bulk': how many values and letters a reading holds, each counted each time it is reached (what is shared counts as often as it is met; a slice's spare places count too). A statement '..UptoSaid' is the law's where the arguments, and the package variables that the reading takes, are together of bulk at most 1048576: NARROWER than '..Said'. Prove '..Said' where nothing that the law and all that it calls make is longer than what came in: it says more and counts as full. Else prove '..UptoSaid'. A law counts once. -/
mutual
def uptoBulk {H : Type} : DataW H → Nat
  | .lit (.string bytes) => bytes.length + 1
  | .lit _ => 1
  | .nil => 1
  | .ptr d => uptoBulk d + 1
  | .slice elems spare => uptoBulkAll elems + uptoBulkAll spare + 1
  | .agg parts => uptoBulkAll parts + 1
  | .iface _ d => uptoBulk d + 1
  | .map entries => uptoBulkEntries entries + 1
  | .held _ => 1
def uptoBulkAll {H : Type} : List (DataW H) → Nat
  | [] => 0
  | d :: r => uptoBulk d + uptoBulkAll r
def uptoBulkEntries {H : Type} : List (Lit × DataW H) → Nat
  | [] => 0
  | x :: r => uptoBulkEntry x + uptoBulkEntries r
def uptoBulkEntry {H : Type} : Lit × DataW H → Nat
  | (.string bytes, d) => bytes.length + uptoBulk d + 1
  | (_, d) => uptoBulk d + 1
 end
def uptoSmall : (H : Type) → List (DataW H) → Bool := fun _ ds => decide (uptoBulkAll ds ≤ 1048576)
def OpenSpec.upto (s : _root_.Go.ChangeSpec) : _root_.Go.OpenSpec := { _root_.Go.OpenSpec.ofChange s with cond := some uptoSmall }

/-- 'stirruplaw37.LorryGreedy', WHERE WHAT IT READS IS OF BULK AT MOST 1048576: true; the input reads as it did. -/
def lorryGreedyUptoRow : OpenClaim := { program := "ytdinkpefoljigaa", sum := "b23e7a8a3f30c96214003f1cd248cbb619a9704d163e254875fdca9515669c81", func := "stirrup/stirruplaw37.LorryGreedy", spec := "lorryGreedy", unfollowed := true, recurses := true, apart := false, narrowed := true }
def LorryGreedyUptoSaid : Prop := lorryGreedyUptoRow.holds Try.pinned (OpenSpec.upto lorryGreedySpec)

/-- 'stirruplaw37.LorryAltered', WHERE WHAT IT READS IS OF BULK AT MOST 1048576: true; the input reads as it did. -/
def lorryAlteredUptoRow : OpenClaim := { program := "ytdinkpefoljigaa", sum := "b23e7a8a3f30c96214003f1cd248cbb619a9704d163e254875fdca9515669c81", func := "stirrup/stirruplaw37.LorryAltered", spec := "lorryAltered", unfollowed := true, recurses := true, apart := false, narrowed := true }
def LorryAlteredUptoSaid : Prop := lorryAlteredUptoRow.holds Try.pinned (OpenSpec.upto lorryAlteredSpec)

/-- 'stirruplaw37.LorryLeast', WHERE WHAT IT READS IS OF BULK AT MOST 1048576: true; the input reads as it did. -/
def lorryLeastUptoRow : OpenClaim := { program := "ytdinkpefoljigaa", sum := "b23e7a8a3f30c96214003f1cd248cbb619a9704d163e254875fdca9515669c81", func := "stirrup/stirruplaw37.LorryLeast", spec := "lorryLeast", unfollowed := true, recurses := true, apart := false, narrowed := true }
def LorryLeastUptoSaid : Prop := lorryLeastUptoRow.holds Try.pinned (OpenSpec.upto lorryLeastSpec)

/-- 'stirruplaw37.LorryBounds', WHERE WHAT IT READS IS OF BULK AT MOST 1048576: true; the input reads as it did. -/
def lorryBoundsUptoRow : OpenClaim := { program := "ytdinkpefoljigaa", sum := "b23e7a8a3f30c96214003f1cd248cbb619a9704d163e254875fdca9515669c81", func := "stirrup/stirruplaw37.LorryBounds", spec := "lorryBounds", unfollowed := true, recurses := true, apart := false, narrowed := true }
def LorryBoundsUptoSaid : Prop := lorryBoundsUptoRow.holds Try.pinned (OpenSpec.upto lorryBoundsSpec)

/-- 'stirruplaw37.LorryMore', WHERE WHAT IT READS IS OF BULK AT MOST 1048576: true; the input reads as it did. -/
def lorryMoreUptoRow : OpenClaim := { program := "ytdinkpefoljigaa", sum := "b23e7a8a3f30c96214003f1cd248cbb619a9704d163e254875fdca9515669c81", func := "stirrup/stirruplaw37.LorryMore", spec := "lorryMore", unfollowed := true, recurses := true, apart := false, narrowed := true }
def LorryMoreUptoSaid : Prop := lorryMoreUptoRow.holds Try.pinned (OpenSpec.upto lorryMoreSpec)

/-- 'stirruplaw37.LorryChecks', WHERE WHAT IT READS IS OF BULK AT MOST 1048576: true; the input reads as it did. -/
def lorryChecksUptoRow : OpenClaim := { program := "ytdinkpefoljigaa", sum := "b23e7a8a3f30c96214003f1cd248cbb619a9704d163e254875fdca9515669c81", func := "stirrup/stirruplaw37.LorryChecks", spec := "lorryChecks", unfollowed := true, recurses := true, apart := false, narrowed := true }
def LorryChecksUptoSaid : Prop := lorryChecksUptoRow.holds Try.pinned (OpenSpec.upto lorryChecksSpec)

/-- 'stirruplaw37.LorryLoads', WHERE WHAT IT READS IS OF BULK AT MOST 1048576: true; the input reads as it did. -/
def lorryLoadsUptoRow : OpenClaim := { program := "ytdinkpefoljigaa", sum := "b23e7a8a3f30c96214003f1cd248cbb619a9704d163e254875fdca9515669c81", func := "stirrup/stirruplaw37.LorryLoads", spec := "lorryLoads", unfollowed := true, recurses := true, apart := false, narrowed := true }
def LorryLoadsUptoSaid : Prop := lorryLoadsUptoRow.holds Try.pinned (OpenSpec.upto lorryLoadsSpec)

end Rows
end Go.Proofs.Ytdinkpefoljigaa
