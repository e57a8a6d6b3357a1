/-
  No cell of these rows narrows 'for every input' (looked for: loops, veiled, ifaces, maps, wideKeys, modest, calm, conditions, laid).
  DERIVED. THE GIVEN ROWS OF THIS SEAT. 6 by the template 'for every input the law returns true; each argument reads behind the call as it read before'; 0 by the template 'total and deterministic' (their statements: YthnpnoclhmneoaaTotals.lean).
  GIVEN WITH THE SEED: the statements are not yours to turn. If you find one false, say at which input.
  Laid BY PROGRAM, IN A SANDBOX (cutbox-rows.mjs): the forced cells as the released guide's own fill.sh prints them over the translation bbdf39543794ab95… (all of the seat's roots in one cut). By AI agents, Wed Nov 11 2026. No macro, syntax, notation, axiom, sorry.
-/
import Derived.Test.YthnpnoclhmneoaaChecked
import GoSem.Claim
import GoSem.ClaimJoined
import GoSem.ClaimMapViews
import Derived.JoinedTies
import Derived.KernelRfl
namespace Go.Proofs.Ythnpnoclhmneoaa
/- THE CELL 'sum', in the pinned program and in every row, IS THE sha256 OF THE DUMP (.gsa) THAT YthnpnoclhmneoaaProg.lean LOADS. Nothing in Lean hashes anything: it is a label: what it is worth is what the hold of that sum in a sandbox is worth. -/
noncomputable def Try.pinned : Pinned := { name := "ythnpnoclhmneoaa", sum := "bbdf39543794ab95b86e2b16971cd74be6f39d05458f97c5aa0acb7c526710e6", checked := Try.checked }
namespace Rows
def none {H : Type} : Left H := { results := [], args := [] }

/-- 'stirruplaw31.PatternAll': WHATEVER THE INPUT: true; the input reads as it did. -/
def patternAllSpec : ChangeSpec := { name := "patternAll", fn := fun _ => fun
  | [d1, d2] => { results := [.lit (.bool true)], args := [d1, d2] }
  | _ => none }
def patternAllRow : OpenClaim := { program := "ythnpnoclhmneoaa", sum := "bbdf39543794ab95b86e2b16971cd74be6f39d05458f97c5aa0acb7c526710e6", func := "stirrup/stirruplaw31.PatternAll", spec := "patternAll", unfollowed := true, recurses := true, apart := false }
def PatternAllSaid : Prop := patternAllRow.holds Try.pinned (OpenSpec.ofChange patternAllSpec)

/-- ITS FALSE NEIGHBOUR: 'it returns false'. Refute it at one input. -/
def patternAllWrong : ChangeSpec := { name := "patternAll", fn := fun _ => fun
  | [d1, d2] => { results := [.lit (.bool false)], args := [d1, d2] }
  | _ => none }
def PatternAllWrongFalsely : Prop := patternAllRow.holds Try.pinned (OpenSpec.ofChange patternAllWrong)

/-- 'stirruplaw31.PatternBest': WHATEVER THE INPUT: true; the input reads as it did. -/
def patternBestSpec : ChangeSpec := { name := "patternBest", fn := fun _ => fun
  | [d1, d2, d3] => { results := [.lit (.bool true)], args := [d1, d2, d3] }
  | _ => none }
def patternBestRow : OpenClaim := { program := "ythnpnoclhmneoaa", sum := "bbdf39543794ab95b86e2b16971cd74be6f39d05458f97c5aa0acb7c526710e6", func := "stirrup/stirruplaw31.PatternBest", spec := "patternBest", unfollowed := true, recurses := true, apart := false }
def PatternBestSaid : Prop := patternBestRow.holds Try.pinned (OpenSpec.ofChange patternBestSpec)

/-- ITS FALSE NEIGHBOUR: 'it returns false'. Refute it at one input. -/
def patternBestWrong : ChangeSpec := { name := "patternBest", fn := fun _ => fun
  | [d1, d2, d3] => { results := [.lit (.bool false)], args := [d1, d2, d3] }
  | _ => none }
def PatternBestWrongFalsely : Prop := patternBestRow.holds Try.pinned (OpenSpec.ofChange patternBestWrong)

/-- 'stirruplaw31.PatternMore': WHATEVER THE INPUT: true; the input reads as it did. -/
def patternMoreSpec : ChangeSpec := { name := "patternMore", fn := fun _ => fun
  | [d1, d2, d3, d4, d5] => { results := [.lit (.bool true)], args := [d1, d2, d3, d4, d5] }
  | _ => none }
def patternMoreRow : OpenClaim := { program := "ythnpnoclhmneoaa", sum := "bbdf39543794ab95b86e2b16971cd74be6f39d05458f97c5aa0acb7c526710e6", func := "stirrup/stirruplaw31.PatternMore", spec := "patternMore", unfollowed := true, recurses := true, apart := false }
def PatternMoreSaid : Prop := patternMoreRow.holds Try.pinned (OpenSpec.ofChange patternMoreSpec)

/-- ITS FALSE NEIGHBOUR: 'it returns false'. Refute it at one input. -/
def patternMoreWrong : ChangeSpec := { name := "patternMore", fn := fun _ => fun
  | [d1, d2, d3, d4, d5] => { results := [.lit (.bool false)], args := [d1, d2, d3, d4, d5] }
  | _ => none }
def PatternMoreWrongFalsely : Prop := patternMoreRow.holds Try.pinned (OpenSpec.ofChange patternMoreWrong)

/-- 'stirruplaw31.PatternForms': WHATEVER THE INPUT: true; the input reads as it did. -/
def patternFormsSpec : ChangeSpec := { name := "patternForms", fn := fun _ => fun
  | [d1, d2, d3] => { results := [.lit (.bool true)], args := [d1, d2, d3] }
  | _ => none }
def patternFormsRow : OpenClaim := { program := "ythnpnoclhmneoaa", sum := "bbdf39543794ab95b86e2b16971cd74be6f39d05458f97c5aa0acb7c526710e6", func := "stirrup/stirruplaw31.PatternForms", spec := "patternForms", unfollowed := true, recurses := true, apart := false }
def PatternFormsSaid : Prop := patternFormsRow.holds Try.pinned (OpenSpec.ofChange patternFormsSpec)

/-- ITS FALSE NEIGHBOUR: 'it returns false'. Refute it at one input. -/
def patternFormsWrong : ChangeSpec := { name := "patternForms", fn := fun _ => fun
  | [d1, d2, d3] => { results := [.lit (.bool false)], args := [d1, d2, d3] }
  | _ => none }
def PatternFormsWrongFalsely : Prop := patternFormsRow.holds Try.pinned (OpenSpec.ofChange patternFormsWrong)

/-- 'stirruplaw31.PatternBetter': WHATEVER THE INPUT: true; the input reads as it did. -/
def patternBetterSpec : ChangeSpec := { name := "patternBetter", fn := fun _ => fun
  | [d1, d2, d3, d4] => { results := [.lit (.bool true)], args := [d1, d2, d3, d4] }
  | _ => none }
def patternBetterRow : OpenClaim := { program := "ythnpnoclhmneoaa", sum := "bbdf39543794ab95b86e2b16971cd74be6f39d05458f97c5aa0acb7c526710e6", func := "stirrup/stirruplaw31.PatternBetter", spec := "patternBetter", unfollowed := true, recurses := true, apart := false }
def PatternBetterSaid : Prop := patternBetterRow.holds Try.pinned (OpenSpec.ofChange patternBetterSpec)

/-- ITS FALSE NEIGHBOUR: 'it returns false'. Refute it at one input. -/
def patternBetterWrong : ChangeSpec := { name := "patternBetter", fn := fun _ => fun
  | [d1, d2, d3, d4] => { results := [.lit (.bool false)], args := [d1, d2, d3, d4] }
  | _ => none }
def PatternBetterWrongFalsely : Prop := patternBetterRow.holds Try.pinned (OpenSpec.ofChange patternBetterWrong)

/-- 'stirruplaw31.PatternEach': WHATEVER THE INPUT: true; the input reads as it did. -/
def patternEachSpec : ChangeSpec := { name := "patternEach", fn := fun _ => fun
  | [d1, d2, d3] => { results := [.lit (.bool true)], args := [d1, d2, d3] }
  | _ => none }
def patternEachRow : OpenClaim := { program := "ythnpnoclhmneoaa", sum := "bbdf39543794ab95b86e2b16971cd74be6f39d05458f97c5aa0acb7c526710e6", func := "stirrup/stirruplaw31.PatternEach", spec := "patternEach", unfollowed := true, recurses := true, apart := false }
def PatternEachSaid : Prop := patternEachRow.holds Try.pinned (OpenSpec.ofChange patternEachSpec)

/-- ITS FALSE NEIGHBOUR: 'it returns false'. Refute it at one input. -/
def patternEachWrong : ChangeSpec := { name := "patternEach", fn := fun _ => fun
  | [d1, d2, d3] => { results := [.lit (.bool false)], args := [d1, d2, d3] }
  | _ => none }
def PatternEachWrongFalsely : Prop := patternEachRow.holds Try.pinned (OpenSpec.ofChange patternEachWrong)

/- THE SECOND FORM. 'bulk': how many values and letters a reading holds, each counted each time it is reached (what is shared counts as often as it is met; a slice's spare places count too). A statement '..UptoSaid' is the law's where the arguments, and the package variables that the reading takes, are together of bulk at most 1048576: NARROWER than '..Said'. Prove '..Said' where nothing that the law and all that it calls make is longer than what came in: it says more and counts as full. Else prove '..UptoSaid'. A law counts once. -/
mutual
def uptoBulk {H : Type} : DataW H → Nat
  | .lit (.string bytes) => bytes.length + 1
  | .lit _ => 1
  | .nil => 1
  | .ptr d => uptoBulk d + 1
  | .slice elems spare => uptoBulkAll elems + uptoBulkAll spare + 1
  | .agg parts => uptoBulkAll parts + 1
  | .iface _ d => uptoBulk d + 1
  | .map entries => uptoBulkEntries entries + 1
  | .held _ => 1
def uptoBulkAll {H : Type} : List (DataW H) → Nat
  | [] => 0
  | d :: r => uptoBulk d + uptoBulkAll r
def uptoBulkEntries {H : Type} : List (Lit × DataW H) → Nat
  | [] => 0
  | x :: r => uptoBulkEntry x + uptoBulkEntries r
def uptoBulkEntry {H : Type} : Lit × DataW H → Nat
  | (.string bytes, d) => bytes.length + uptoBulk d + 1
  | (_, d) => uptoBulk d + 1
 end
def uptoSmall : (H : Type) → List (DataW H) → Bool := fun _ ds => decide (uptoBulkAll ds ≤ 1048576)
def OpenSpec.upto (s : _root_.Go.ChangeSpec) : _root_.Go.OpenSpec := { _root_.Go.OpenSpec.ofChange s with cond := some uptoSmall }

/-- 'stirruplaw31.PatternAll', WHERE WHAT IT READS IS OF BULK AT MOST 1048576: true; the input reads as it did. -/
def patternAllUptoRow : OpenClaim := { program := "ythnpnoclhmneoaa", sum := "bbdf39543794ab95b86e2b16971cd74be6f39d05458f97c5aa0acb7c526710e6", func := "stirrup/stirruplaw31.PatternAll", spec := "patternAll", unfollowed := true, recurses := true, apart := false, narrowed := true }
def PatternAllUptoSaid : Prop := patternAllUptoRow.holds Try.pinned (OpenSpec.upto patternAllSpec)

/-- 'stirruplaw31.PatternBest', WHERE WHAT IT READS IS OF BULK AT MOST 1048576: true; the input reads as it did. -/
def patternBestUptoRow : OpenClaim := { program := "ythnpnoclhmneoaa", sum := "bbdf39543794ab95b86e2b16971cd74be6f39d05458f97c5aa0acb7c526710e6", func := "stirrup/stirruplaw31.PatternBest", spec := "patternBest", unfollowed := true, recurses := true, apart := false, narrowed := true }
def PatternBestUptoSaid : Prop := patternBestUptoRow.holds Try.pinned (OpenSpec.upto patternBestSpec)

/-- 'stirruplaw31.PatternMore', WHERE WHAT IT READS IS OF BULK AT MOST 1048576: true; the input reads as it did. -/
def patternMoreUptoRow : OpenClaim := { program := "ythnpnoclhmneoaa", sum := "bbdf39543794ab95b86e2b16971cd74be6f39d05458f97c5aa0acb7c526710e6", func := "stirrup/stirruplaw31.PatternMore", spec := "patternMore", unfollowed := true, recurses := true, apart := false, narrowed := true }
def PatternMoreUptoSaid : Prop := patternMoreUptoRow.holds Try.pinned (OpenSpec.upto patternMoreSpec)

/-- 'stirruplaw31.PatternForms', WHERE WHAT IT READS IS OF BULK AT MOST 1048576: true; the input reads as it did. -/
def patternFormsUptoRow : OpenClaim := { program := "ythnpnoclhmneoaa", sum := "bbdf39543794ab95b86e2b16971cd74be6f39d05458f97c5aa0acb7c526710e6", func := "stirrup/stirruplaw31.PatternForms", spec := "patternForms", unfollowed := true, recurses := true, apart := false, narrowed := true }
def PatternFormsUptoSaid : Prop := patternFormsUptoRow.holds Try.pinned (OpenSpec.upto patternFormsSpec)

/-- 'stirruplaw31.PatternBetter', WHERE WHAT IT READS IS OF BULK AT MOST 1048576: true; the input reads as it did. -/
def patternBetterUptoRow : OpenClaim := { program := "ythnpnoclhmneoaa", sum := "bbdf39543794ab95b86e2b16971cd74be6f39d05458f97c5aa0acb7c526710e6", func := "stirrup/stirruplaw31.PatternBetter", spec := "patternBetter", unfollowed := true, recurses := true, apart := false, narrowed := true }
def PatternBetterUptoSaid : Prop := patternBetterUptoRow.holds Try.pinned (OpenSpec.upto patternBetterSpec)

/-- 'stirruplaw31.PatternEach', WHERE WHAT IT READS IS OF BULK AT MOST 1048576: true; the input reads as it did. -/
def patternEachUptoRow : OpenClaim := { program := "ythnpnoclhmneoaa", sum := "bbdf39543794ab95b86e2b16971cd74be6f39d05458f97c5aa0acb7c526710e6", func := "stirrup/stirruplaw31.PatternEach", spec := "patternEach", unfollowed := true, recurses := true, apart := false, narrowed := true }
def PatternEachUptoSaid : Prop := patternEachUptoRow.holds Try.pinned (OpenSpec.upto patternEachSpec)

end Rows
end Go.Proofs.Ythnpnoclhmneoaa
