/-
  No cell of these rows narrows 'for every input' (looked for: loops, veiled, ifaces, maps, wideKeys, modest, calm, conditions, laid).
  DERIVED. THE GIVEN ROWS OF THIS SEAT. 7 by the template 'for every input the law returns true; each argument reads behind the call as it read before'; 0 by the template 'total and deterministic' (their statements: YtmmabnoemckdiaaTotals.lean).
  GIVEN WITH THE SEED: the statements are not yours to turn. If you find one false, say at which input.
  Laid BY PROGRAM, IN A SANDBOX (cutbox-rows.mjs): the forced cells as the released guide's own fill.sh prints them over the translation fe8d766633218c92… (all of the seat's roots in one cut). By AI agents, Wed Nov 11 2026. No macro, syntax, notation, axiom, sorry.
-/
import Derived.Test.YtmmabnoemckdiaaChecked
import GoSem.Claim
import GoSem.ClaimJoined
import GoSem.ClaimMapViews
import Derived.JoinedTies
import Derived.KernelRfl
namespace Go.Proofs.Ytmmabnoemckdiaa
/- THE CELL 'sum', in the pinned program and in every row, IS THE sha256 OF THE DUMP (.gsa) THAT YtmmabnoemckdiaaProg.lean LOADS. Nothing in Lean hashes anything: it is a label: what it is worth is what the hold of that sum in a sandbox is worth. -/
noncomputable def Try.pinned : Pinned := { name := "ytmmabnoemckdiaa", sum := "fe8d766633218c92de87c26a490eb109a58a10b82b1fa0e4e5a0509bc85d8fa9", checked := Try.checked }
namespace Rows
def none {H : Type} : Left H := { results := [], args := [] }

/-- 'stirruplaw07.BipartiteWeighs': WHATEVER THE INPUT: true; the input reads as it did. -/
def bipartiteWeighsSpec : ChangeSpec := { name := "bipartiteWeighs", fn := fun _ => fun
  | [d] => { results := [.lit (.bool true)], args := [d] }
  | _ => none }
def bipartiteWeighsRow : OpenClaim := { program := "ytmmabnoemckdiaa", sum := "fe8d766633218c92de87c26a490eb109a58a10b82b1fa0e4e5a0509bc85d8fa9", func := "stirrup/stirruplaw07.BipartiteWeighs", spec := "bipartiteWeighs", unfollowed := true, recurses := true, apart := false }
def BipartiteWeighsSaid : Prop := bipartiteWeighsRow.holds Try.pinned (OpenSpec.ofChange bipartiteWeighsSpec)

/-- ITS FALSE NEIGHBOUR: 'it returns false'. Refute it at one input. -/
def bipartiteWeighsWrong : ChangeSpec := { name := "bipartiteWeighs", fn := fun _ => fun
  | [d] => { results := [.lit (.bool false)], args := [d] }
  | _ => none }
def BipartiteWeighsWrongFalsely : Prop := bipartiteWeighsRow.holds Try.pinned (OpenSpec.ofChange bipartiteWeighsWrong)

/-- 'stirruplaw07.BipartiteHeaviest': WHATEVER THE INPUT: true; the input reads as it did. -/
def bipartiteHeaviestSpec : ChangeSpec := { name := "bipartiteHeaviest", fn := fun _ => fun
  | [d1, d2] => { results := [.lit (.bool true)], args := [d1, d2] }
  | _ => none }
def bipartiteHeaviestRow : OpenClaim := { program := "ytmmabnoemckdiaa", sum := "fe8d766633218c92de87c26a490eb109a58a10b82b1fa0e4e5a0509bc85d8fa9", func := "stirrup/stirruplaw07.BipartiteHeaviest", spec := "bipartiteHeaviest", unfollowed := true, recurses := true, apart := false }
def BipartiteHeaviestSaid : Prop := bipartiteHeaviestRow.holds Try.pinned (OpenSpec.ofChange bipartiteHeaviestSpec)

/-- ITS FALSE NEIGHBOUR: 'it returns false'. Refute it at one input. -/
def bipartiteHeaviestWrong : ChangeSpec := { name := "bipartiteHeaviest", fn := fun _ => fun
  | [d1, d2] => { results := [.lit (.bool false)], args := [d1, d2] }
  | _ => none }
def BipartiteHeaviestWrongFalsely : Prop := bipartiteHeaviestRow.holds Try.pinned (OpenSpec.ofChange bipartiteHeaviestWrong)

/-- 'stirruplaw07.BipartiteMatches': WHATEVER THE INPUT: true; the input reads as it did. -/
def bipartiteMatchesSpec : ChangeSpec := { name := "bipartiteMatches", fn := fun _ => fun
  | [d1, d2, d3] => { results := [.lit (.bool true)], args := [d1, d2, d3] }
  | _ => none }
def bipartiteMatchesRow : OpenClaim := { program := "ytmmabnoemckdiaa", sum := "fe8d766633218c92de87c26a490eb109a58a10b82b1fa0e4e5a0509bc85d8fa9", func := "stirrup/stirruplaw07.BipartiteMatches", spec := "bipartiteMatches", unfollowed := true, recurses := true, apart := false }
def BipartiteMatchesSaid : Prop := bipartiteMatchesRow.holds Try.pinned (OpenSpec.ofChange bipartiteMatchesSpec)

/-- ITS FALSE NEIGHBOUR: 'it returns false'. Refute it at one input. -/
def bipartiteMatchesWrong : ChangeSpec := { name := "bipartiteMatches", fn := fun _ => fun
  | [d1, d2, d3] => { results := [.lit (.bool false)], args := [d1, d2, d3] }
  | _ => none }
def BipartiteMatchesWrongFalsely : Prop := bipartiteMatchesRow.holds Try.pinned (OpenSpec.ofChange bipartiteMatchesWrong)

/-- 'stirruplaw07.BipartiteDual': WHATEVER THE INPUT: true; the input reads as it did. -/
def bipartiteDualSpec : ChangeSpec := { name := "bipartiteDual", fn := fun _ => fun
  | [d1, d2, d3] => { results := [.lit (.bool true)], args := [d1, d2, d3] }
  | _ => none }
def bipartiteDualRow : OpenClaim := { program := "ytmmabnoemckdiaa", sum := "fe8d766633218c92de87c26a490eb109a58a10b82b1fa0e4e5a0509bc85d8fa9", func := "stirrup/stirruplaw07.BipartiteDual", spec := "bipartiteDual", unfollowed := true, recurses := true, apart := false }
def BipartiteDualSaid : Prop := bipartiteDualRow.holds Try.pinned (OpenSpec.ofChange bipartiteDualSpec)

/-- ITS FALSE NEIGHBOUR: 'it returns false'. Refute it at one input. -/
def bipartiteDualWrong : ChangeSpec := { name := "bipartiteDual", fn := fun _ => fun
  | [d1, d2, d3] => { results := [.lit (.bool false)], args := [d1, d2, d3] }
  | _ => none }
def BipartiteDualWrongFalsely : Prop := bipartiteDualRow.holds Try.pinned (OpenSpec.ofChange bipartiteDualWrong)

/-- 'stirruplaw07.BipartiteViolates': WHATEVER THE INPUT: true; the input reads as it did. -/
def bipartiteViolatesSpec : ChangeSpec := { name := "bipartiteViolates", fn := fun _ => fun
  | [d1, d2, d3] => { results := [.lit (.bool true)], args := [d1, d2, d3] }
  | _ => none }
def bipartiteViolatesRow : OpenClaim := { program := "ytmmabnoemckdiaa", sum := "fe8d766633218c92de87c26a490eb109a58a10b82b1fa0e4e5a0509bc85d8fa9", func := "stirrup/stirruplaw07.BipartiteViolates", spec := "bipartiteViolates", unfollowed := true, recurses := true, apart := false }
def BipartiteViolatesSaid : Prop := bipartiteViolatesRow.holds Try.pinned (OpenSpec.ofChange bipartiteViolatesSpec)

/-- ITS FALSE NEIGHBOUR: 'it returns false'. Refute it at one input. -/
def bipartiteViolatesWrong : ChangeSpec := { name := "bipartiteViolates", fn := fun _ => fun
  | [d1, d2, d3] => { results := [.lit (.bool false)], args := [d1, d2, d3] }
  | _ => none }
def BipartiteViolatesWrongFalsely : Prop := bipartiteViolatesRow.holds Try.pinned (OpenSpec.ofChange bipartiteViolatesWrong)

/-- 'stirruplaw07.BipartiteCovers': WHATEVER THE INPUT: true; the input reads as it did. -/
def bipartiteCoversSpec : ChangeSpec := { name := "bipartiteCovers", fn := fun _ => fun
  | [d1, d2, d3] => { results := [.lit (.bool true)], args := [d1, d2, d3] }
  | _ => none }
def bipartiteCoversRow : OpenClaim := { program := "ytmmabnoemckdiaa", sum := "fe8d766633218c92de87c26a490eb109a58a10b82b1fa0e4e5a0509bc85d8fa9", func := "stirrup/stirruplaw07.BipartiteCovers", spec := "bipartiteCovers", unfollowed := true, recurses := true, apart := false }
def BipartiteCoversSaid : Prop := bipartiteCoversRow.holds Try.pinned (OpenSpec.ofChange bipartiteCoversSpec)

/-- ITS FALSE NEIGHBOUR: 'it returns false'. Refute it at one input. -/
def bipartiteCoversWrong : ChangeSpec := { name := "bipartiteCovers", fn := fun _ => fun
  | [d1, d2, d3] => { results := [.lit (.bool false)], args := [d1, d2, d3] }
  | _ => none }
def BipartiteCoversWrongFalsely : Prop := bipartiteCoversRow.holds Try.pinned (OpenSpec.ofChange bipartiteCoversWrong)

/-- 'stirruplaw07.BipartiteForces': WHATEVER THE INPUT: true; the input reads as it did. -/
def bipartiteForcesSpec : ChangeSpec := { name := "bipartiteForces", fn := fun _ => fun
  | [d1, d2, d3, d4] => { results := [.lit (.bool true)], args := [d1, d2, d3, d4] }
  | _ => none }
def bipartiteForcesRow : OpenClaim := { program := "ytmmabnoemckdiaa", sum := "fe8d766633218c92de87c26a490eb109a58a10b82b1fa0e4e5a0509bc85d8fa9", func := "stirrup/stirruplaw07.BipartiteForces", spec := "bipartiteForces", unfollowed := true, recurses := true, apart := false }
def BipartiteForcesSaid : Prop := bipartiteForcesRow.holds Try.pinned (OpenSpec.ofChange bipartiteForcesSpec)

/-- ITS FALSE NEIGHBOUR: 'it returns false'. Refute it at one input. -/
def bipartiteForcesWrong : ChangeSpec := { name := "bipartiteForces", fn := fun _ => fun
  | [d1, d2, d3, d4] => { results := [.lit (.bool false)], args := [d1, d2, d3, d4] }
  | _ => none }
def BipartiteForcesWrongFalsely : Prop := bipartiteForcesRow.holds Try.pinned (OpenSpec.ofChange bipartiteForcesWrong)

/- THE SECOND FORM. 'bulk': how many values and letters a reading holds, each counted each time it is reached (what is shared counts as often as it is met; a slice's spare places count too). A statement '..UptoSaid' is the law's where the arguments, and the package variables that the reading takes, are together of bulk at most 1048576: NARROWER than '..Said'. Prove '..Said' where nothing that the law and all that it calls make is longer than what came in: it says more and counts as full. Else prove '..UptoSaid'. A law counts once. -/
mutual
def uptoBulk {H : Type} : DataW H → Nat
  | .lit (.string bytes) => bytes.length + 1
  | .lit _ => 1
  | .nil => 1
  | .ptr d => uptoBulk d + 1
  | .slice elems spare => uptoBulkAll elems + uptoBulkAll spare + 1
  | .agg parts => uptoBulkAll parts + 1
  | .iface _ d => uptoBulk d + 1
  | .map entries => uptoBulkEntries entries + 1
  | .held _ => 1
def uptoBulkAll {H : Type} : List (DataW H) → Nat
  | [] => 0
  | d :: r => uptoBulk d + uptoBulkAll r
def uptoBulkEntries {H : Type} : List (Lit × DataW H) → Nat
  | [] => 0
  | x :: r => uptoBulkEntry x + uptoBulkEntries r
def uptoBulkEntry {H : Type} : Lit × DataW H → Nat
  | (.string bytes, d) => bytes.length + uptoBulk d + 1
  | (_, d) => uptoBulk d + 1
 end
def uptoSmall : (H : Type) → List (DataW H) → Bool := fun _ ds => decide (uptoBulkAll ds ≤ 1048576)
def OpenSpec.upto (s : _root_.Go.ChangeSpec) : _root_.Go.OpenSpec := { _root_.Go.OpenSpec.ofChange s with cond := some uptoSmall }

/-- 'stirruplaw07.BipartiteWeighs', WHERE WHAT IT READS IS OF BULK AT MOST 1048576: true; the input reads as it did. -/
def bipartiteWeighsUptoRow : OpenClaim := { program := "ytmmabnoemckdiaa", sum := "fe8d766633218c92de87c26a490eb109a58a10b82b1fa0e4e5a0509bc85d8fa9", func := "stirrup/stirruplaw07.BipartiteWeighs", spec := "bipartiteWeighs", unfollowed := true, recurses := true, apart := false, narrowed := true }
def BipartiteWeighsUptoSaid : Prop := bipartiteWeighsUptoRow.holds Try.pinned (OpenSpec.upto bipartiteWeighsSpec)

/-- 'stirruplaw07.BipartiteHeaviest', WHERE WHAT IT READS IS OF BULK AT MOST 1048576: true; the input reads as it did. -/
def bipartiteHeaviestUptoRow : OpenClaim := { program := "ytmmabnoemckdiaa", sum := "fe8d766633218c92de87c26a490eb109a58a10b82b1fa0e4e5a0509bc85d8fa9", func := "stirrup/stirruplaw07.BipartiteHeaviest", spec := "bipartiteHeaviest", unfollowed := true, recurses := true, apart := false, narrowed := true }
def BipartiteHeaviestUptoSaid : Prop := bipartiteHeaviestUptoRow.holds Try.pinned (OpenSpec.upto bipartiteHeaviestSpec)

/-- 'stirruplaw07.BipartiteMatches', WHERE WHAT IT READS IS OF BULK AT MOST 1048576: true; the input reads as it did. -/
def bipartiteMatchesUptoRow : OpenClaim := { program := "ytmmabnoemckdiaa", sum := "fe8d766633218c92de87c26a490eb109a58a10b82b1fa0e4e5a0509bc85d8fa9", func := "stirrup/stirruplaw07.BipartiteMatches", spec := "bipartiteMatches", unfollowed := true, recurses := true, apart := false, narrowed := true }
def BipartiteMatchesUptoSaid : Prop := bipartiteMatchesUptoRow.holds Try.pinned (OpenSpec.upto bipartiteMatchesSpec)

/-- 'stirruplaw07.BipartiteDual', WHERE WHAT IT READS IS OF BULK AT MOST 1048576: true; the input reads as it did. -/
def bipartiteDualUptoRow : OpenClaim := { program := "ytmmabnoemckdiaa", sum := "fe8d766633218c92de87c26a490eb109a58a10b82b1fa0e4e5a0509bc85d8fa9", func := "stirrup/stirruplaw07.BipartiteDual", spec := "bipartiteDual", unfollowed := true, recurses := true, apart := false, narrowed := true }
def BipartiteDualUptoSaid : Prop := bipartiteDualUptoRow.holds Try.pinned (OpenSpec.upto bipartiteDualSpec)

/-- 'stirruplaw07.BipartiteViolates', WHERE WHAT IT READS IS OF BULK AT MOST 1048576: true; the input reads as it did. -/
def bipartiteViolatesUptoRow : OpenClaim := { program := "ytmmabnoemckdiaa", sum := "fe8d766633218c92de87c26a490eb109a58a10b82b1fa0e4e5a0509bc85d8fa9", func := "stirrup/stirruplaw07.BipartiteViolates", spec := "bipartiteViolates", unfollowed := true, recurses := true, apart := false, narrowed := true }
def BipartiteViolatesUptoSaid : Prop := bipartiteViolatesUptoRow.holds Try.pinned (OpenSpec.upto bipartiteViolatesSpec)

/-- 'stirruplaw07.BipartiteCovers', WHERE WHAT IT READS IS OF BULK AT MOST 1048576: true; the input reads as it did. -/
def bipartiteCoversUptoRow : OpenClaim := { program := "ytmmabnoemckdiaa", sum := "fe8d766633218c92de87c26a490eb109a58a10b82b1fa0e4e5a0509bc85d8fa9", func := "stirrup/stirruplaw07.BipartiteCovers", spec := "bipartiteCovers", unfollowed := true, recurses := true, apart := false, narrowed := true }
def BipartiteCoversUptoSaid : Prop := bipartiteCoversUptoRow.holds Try.pinned (OpenSpec.upto bipartiteCoversSpec)

/-- 'stirruplaw07.BipartiteForces', WHERE WHAT IT READS IS OF BULK AT MOST 1048576: true; the input reads as it did. -/
def bipartiteForcesUptoRow : OpenClaim := { program := "ytmmabnoemckdiaa", sum := "fe8d766633218c92de87c26a490eb109a58a10b82b1fa0e4e5a0509bc85d8fa9", func := "stirrup/stirruplaw07.BipartiteForces", spec := "bipartiteForces", unfollowed := true, recurses := true, apart := false, narrowed := true }
def BipartiteForcesUptoSaid : Prop := bipartiteForcesUptoRow.holds Try.pinned (OpenSpec.upto bipartiteForcesSpec)

end Rows
end Go.Proofs.Ytmmabnoemckdiaa
