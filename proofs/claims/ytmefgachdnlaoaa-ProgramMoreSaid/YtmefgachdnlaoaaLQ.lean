/- Opener: a row that comes in. -/
import Derived.Test.YtmefgachdnlaoaaLO
set_option linter.unusedSimpArgs false
set_option linter.unusedVariables false
namespace Go.Proofs.Ytmefgachdnlaoaa
open Go.ChangeShapes Go.WideShapes Go.ChangeAt Go.RowKit Go.Joins
section
variable {H : Type} {enc : TypeId × Value → H} {W : World} {base b0 : Nat} {held : Bool} {r : Reach} {v : Value} {d : DataW H} {p : List MemPlace}
set_option maxRecDepth 100000 in
theorem open_row45 (hv : Value.okWide Try.prog W r b0 45 v) (h : DataW.Trod enc Try.prog W base (fun _ => true) held 45 v d p) :
    ∃ q : RwQ, v = .agg #[.slice q.A q.co.length q.cap, .int .i64 q.kd, .int .i64 q.b] ∧ RowIn W q.A q.co.length q.cap 1 q.L (fun k => [.v (.int .i64 (ix q.co k))]) := by
  obtain ⟨fuel, hf⟩ := h
  obtain ⟨xs0, rfl, hsz⟩ := okWide_struct Try.underlying45 hv
  rw [Try.cells45] at hsz
  have hf : DataW.trod enc Try.prog W base (fun _ => true) held fuel 45 xs0.toList = some (d, p) := hf
  obtain ⟨q, h1, h2⟩ := open_rw hf (by simpa using hsz)
  refine ⟨q, ?_, h2⟩
  obtain ⟨l0⟩ := xs0
  simp only at h1
  rw [h1]
theorem ok_row45 {Fs : List (Nat → Option (Nat × Nat))} {a b : Int} {A1 : Option Addr} {n1 c1 : Nat} {L1 : Option (Nat × Nat)} {f1 : Nat → List SV} (h1 : RowIn W A1 n1 c1 1 L1 f1) (j1 : Fs[3]? = some (one0 L1)) :
    Ok (inBsF Fs) (.a [.s 3 0 0 n1 c1 1, .v (.int .i64 a), .v (.int .i64 b)]) (.agg #[.slice A1 n1 c1, .int .i64 a, .int .i64 b]) := by
  have k1 : Ok (inBsF Fs) (.s 3 0 0 n1 c1 1) (.slice A1 n1 c1) := ok_inF h1 j1 (by simp [one0])
  simp only [Ok]
  refine ⟨_, rfl, ?_⟩
  simp only [OkL, Ok]
  exact ⟨_, _, rfl, k1, _, _, rfl, rfl, _, _, rfl, rfl, rfl⟩
end
end Go.Proofs.Ytmefgachdnlaoaa
