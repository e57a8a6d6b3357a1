/- Opener: an answer (a value, a point, and multipliers) that comes in. -/
import Derived.Test.YtmefgachdnlaoaaLO
set_option linter.unusedSimpArgs false
set_option linter.unusedVariables false
namespace Go.Proofs.Ytmefgachdnlaoaa
open Go.ChangeShapes Go.WideShapes Go.ChangeAt Go.RowKit Go.Joins
theorem Try.cells28 : Try.prog.cellsOf 28 = 1 := by kernel_rfl
theorem Try.cells30 : Try.prog.cellsOf 30 = 4 := by kernel_rfl
section
variable {H : Type} {enc : TypeId × Value → H} {W : World} {base b0 : Nat} {held : Bool} {r : Reach} {v : Value} {d : DataW H} {p : List MemPlace}
set_option maxRecDepth 100000 in
theorem open_fr {fuel : Nat} {cs : List Value} {x : DataW H × List MemPlace} (hf : DataW.trod enc Try.prog W base (fun _ => true) held fuel 27 cs = some x) (hl : cs.length = 2) : ∃ q : Int × Int, cs = [.int .i64 q.1, .int .i64 q.2] ∧ isI64 q.1 ∧ isI64 q.2 := by
  obtain ⟨xs, n, _, _, _, hx, hfs⟩ := DataW.trod_struct Try.underlying27 hf
  match cs, hl, xs, hx with
  | [u0, u1], _, [y0, y1], _ =>
    have i0 : DataW.trod enc Try.prog W base (fun _ => true) held n 3 [u0] = some y0 := by
      have h := hfs 0 _ rfl
      simp only [List.getElem_toArray, List.getElem_cons_zero, List.getElem_cons_succ] at h
      rw [Try.cells3] at h
      exact h
    have i1 : DataW.trod enc Try.prog W base (fun _ => true) held n 3 [u1] = some y1 := by
      have h := hfs 1 _ rfl
      simp only [List.getElem_toArray, List.getElem_cons_zero, List.getElem_cons_succ] at h
      rw [Try.cells3] at h
      exact h
    obtain ⟨a0, e0, _, w0⟩ := DataW.trod_int Try.underlying3 i0
    obtain ⟨a1, e1, _, w1⟩ := DataW.trod_int Try.underlying3 i1
    simp only [List.cons.injEq, and_true] at e0 e1
    subst e0 e1
    exact ⟨(a0, a1), rfl, i64_wf w0, i64_wf w1⟩
theorem open_frs {fuel : Nat} {cs : List Value} {x : DataW H × List MemPlace} (hf : DataW.trod enc Try.prog W base (fun _ => true) held fuel 28 cs = some x) :
    ∃ (A : Option Addr) (l : List (Int × Int)) (cap : Nat) (L : Option (Nat × Nat)), cs = [.slice A l.length cap] ∧ (∀ x ∈ l, isI64 x.1 ∧ isI64 x.2) ∧ RowIn W A l.length cap 2 L (fun k => [.v (.int .i64 (ix l k).1), .v (.int .i64 (ix l k).2)]) := by
  obtain ⟨A, n, cap, L, G, hv, hQ, hr⟩ := open_row0 Try.underlying28 Try.cells27 (by omega) hf (fun cs => ∃ q : Int × Int, cs = [.int .i64 q.1, .int .i64 q.2] ∧ isI64 q.1 ∧ isI64 q.2) fun fuel cs x hx hl => open_fr hx hl
  obtain ⟨l, rfl, hl⟩ := list_of (α := Int × Int) hQ
  refine ⟨A, l, cap, L, hv, fun x hx => ?_, hr.as fun k hk => by rw [(hl k hk).1]; rfl⟩
  obtain ⟨k, hk, rfl⟩ := List.getElem_of_mem hx
  have h := (hl k hk).2
  rwa [ix_eq hk] at h
set_option maxRecDepth 100000 in
theorem open_ans (hv : Value.okWide Try.prog W r b0 30 v) (h : DataW.Trod enc Try.prog W base (fun _ => true) held 30 v d p) :
    ∃ (a : Int × Int) (A1 : Option Addr) (x : List (Int × Int)) (c1 : Nat) (L1 : Option (Nat × Nat)) (A2 : Option Addr) (y : List (Int × Int)) (c2 : Nat) (L2 : Option (Nat × Nat)), v = .agg #[.int .i64 a.1, .int .i64 a.2, .slice A1 x.length c1, .slice A2 y.length c2] ∧ (isI64 a.1 ∧ isI64 a.2) ∧
      (∀ q ∈ x, isI64 q.1 ∧ isI64 q.2) ∧ RowIn W A1 x.length c1 2 L1 (fun k => [.v (.int .i64 (ix x k).1), .v (.int .i64 (ix x k).2)]) ∧ (∀ q ∈ y, isI64 q.1 ∧ isI64 q.2) ∧ RowIn W A2 y.length c2 2 L2 (fun k => [.v (.int .i64 (ix y k).1), .v (.int .i64 (ix y k).2)]) := by
  obtain ⟨fuel, hf⟩ := h
  obtain ⟨xs0, rfl, hsz⟩ := okWide_struct Try.underlying30 hv
  rw [Try.cells30] at hsz
  have hf : DataW.trod enc Try.prog W base (fun _ => true) held fuel 30 xs0.toList = some (d, p) := hf
  have hl : xs0.toList.length = 4 := by simpa using hsz
  obtain ⟨xs, n, _, _, _, hx, hfs⟩ := DataW.trod_struct Try.underlying30 hf
  obtain ⟨l0⟩ := xs0
  simp only at hl hf hfs
  match l0, hl, xs, hx with
  | [u0, u1, u2, u3], _, [y0, y1, y2], _ =>
    have i0 : DataW.trod enc Try.prog W base (fun _ => true) held n 27 [u0, u1] = some y0 := by
      have h := hfs 0 _ rfl
      simp only [List.getElem_toArray, List.getElem_cons_zero, List.getElem_cons_succ] at h
      rw [Try.cells27] at h
      exact h
    have i1 : DataW.trod enc Try.prog W base (fun _ => true) held n 28 [u2] = some y1 := by
      have h := hfs 1 _ rfl
      simp only [List.getElem_toArray, List.getElem_cons_zero, List.getElem_cons_succ] at h
      rw [Try.cells28] at h
      exact h
    have i2 : DataW.trod enc Try.prog W base (fun _ => true) held n 28 [u3] = some y2 := by
      have h := hfs 2 _ rfl
      simp only [List.getElem_toArray, List.getElem_cons_zero, List.getElem_cons_succ] at h
      rw [Try.cells28] at h
      exact h
    obtain ⟨a, e0, w0, w1⟩ := open_fr i0 rfl
    obtain ⟨A1, l1, c1, L1, e1, b1, hr1⟩ := open_frs i1
    obtain ⟨A2, l2, c2, L2, e2, b2, hr2⟩ := open_frs i2
    simp only [List.cons.injEq, and_true] at e0 e1 e2
    obtain ⟨rfl, rfl⟩ := e0
    subst e1 e2
    exact ⟨a, A1, l1, c1, L1, A2, l2, c2, L2, rfl, ⟨w0, w1⟩, b1, hr1, b2, hr2⟩
theorem ok_ans {Fs : List (Nat → Option (Nat × Nat))} {a b : Int} {A1 A2 : Option Addr} {n1 c1 n2 c2 : Nat} {L1 L2 : Option (Nat × Nat)} {f1 f2 : Nat → List SV} (h1 : RowIn W A1 n1 c1 2 L1 f1) (h2 : RowIn W A2 n2 c2 2 L2 f2) (j1 : Fs[3]? = some (one0 L1)) (j2 : Fs[4]? = some (one0 L2)) :
    Ok (inBsF Fs) (.a [.v (.int .i64 a), .v (.int .i64 b), .s 3 0 0 n1 c1 2, .s 4 0 0 n2 c2 2]) (.agg #[.int .i64 a, .int .i64 b, .slice A1 n1 c1, .slice A2 n2 c2]) := by
  have k1 : Ok (inBsF Fs) (.s 3 0 0 n1 c1 2) (.slice A1 n1 c1) := ok_inF h1 j1 (by simp [one0])
  have k2 : Ok (inBsF Fs) (.s 4 0 0 n2 c2 2) (.slice A2 n2 c2) := ok_inF h2 j2 (by simp [one0])
  simp only [Ok]
  refine ⟨_, rfl, ?_⟩
  simp only [OkL, Ok]
  exact ⟨_, _, rfl, rfl, _, _, rfl, rfl, _, _, rfl, k1, _, _, rfl, k2, rfl⟩
end
end Go.Proofs.Ytmefgachdnlaoaa
