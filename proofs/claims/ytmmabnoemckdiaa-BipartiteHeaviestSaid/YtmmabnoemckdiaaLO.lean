/- Openers: edges, and lists of lists, that come in. -/
import Derived.Test.YtmmabnoemckdiaaD
import Derived.Test.YtmmabnoemckdiaaIn
import Derived.OpenShut
import Derived.Deep.Strs
import Derived.Lib.SmallJoins
import Derived.Carry
set_option linter.unusedSimpArgs false
set_option linter.unusedVariables false
namespace Go.Proofs.Ytmmabnoemckdiaa
open Go.ChangeShapes Go.WideShapes Go.ChangeAt Go.RowKit Go.Joins
theorem Try.cells3 : Try.prog.cellsOf 3 = 1 := by kernel_rfl
theorem Try.cells25 : Try.prog.cellsOf 25 = 1 := by kernel_rfl
theorem Try.cells49 : Try.prog.cellsOf 49 = 2 := by kernel_rfl
section
variable {H : Type} {enc : TypeId × Value → H} {W : World} {base b0 : Nat} {held : Bool} {r : Reach} {v : Value} {d : DataW H} {p : List MemPlace}
theorem i64_of {cs : List Value} {fuel : Nat} {x : DataW H × List MemPlace} (h : DataW.trod enc Try.prog W base (fun _ => true) held fuel 3 cs = some x) : ∃ z : Int, cs = [.int .i64 z] ∧ isI64 z := by
  obtain ⟨a, e0, _, w0⟩ := DataW.trod_int Try.underlying3 h
  exact ⟨a, e0, i64_wf w0⟩
set_option maxRecDepth 100000 in
theorem open_edges (hv : Value.okWide Try.prog W r b0 38 v) (h : DataW.Trod enc Try.prog W base (fun _ => true) held 38 v d p) :
    ∃ (A : Option Addr) (l : List Ed) (cap : Nat) (L : Option (Nat × Nat)), v = .slice A l.length cap ∧ (∀ x ∈ l, isI64 x.x ∧ isI64 x.y) ∧ RowIn W A l.length cap 2 L (fun k => cEd (ix l k)) := by
  obtain ⟨A, n, cap, L, G, hv, hQ, hr⟩ := open_row Try.underlying38 Try.cells49 (by omega) hv h (fun cs => ∃ x : Ed, cs = [.int .i64 x.x, .int .i64 x.y] ∧ isI64 x.x ∧ isI64 x.y) fun fuel cs x hx hl => by
    obtain ⟨xs, m, _, _, _, hlen, hel⟩ := DataW.trod_array Try.underlying49 hx
    match cs, hl with
    | [u, w], _ =>
      have h0 := hel 0 (by omega)
      have h1 := hel 1 (by omega)
      rw [Try.cells3] at h0 h1
      match xs, hlen with
      | [y0, y1], _ =>
        obtain ⟨a, e0, w0⟩ := i64_of h0
        obtain ⟨b, e1, w1⟩ := i64_of h1
        simp at e0 e1
        subst e0 e1
        exact ⟨⟨a, b⟩, rfl, w0, w1⟩
  obtain ⟨l, rfl, hl⟩ := list_of hQ
  refine ⟨A, l, cap, L, hv, fun x hx => ?_, hr.as fun k hk => by rw [(hl k hk).1]; rfl⟩
  obtain ⟨k, hk, rfl⟩ := List.getElem_of_mem hx
  have := (hl k hk).2
  rwa [ix_eq hk] at this
set_option maxRecDepth 100000 in
/-- A list of ints that was read. -/
theorem open_ints0 {fuel : Nat} {cs : List Value} {x : DataW H × List MemPlace} (hf : DataW.trod enc Try.prog W base (fun _ => true) held fuel 25 cs = some x) :
    ∃ (A : Option Addr) (l : List Int) (cap : Nat) (L : Option (Nat × Nat)), cs = [.slice A l.length cap] ∧ RowIn W A l.length cap 1 L (fun k => [.v (.int .i64 (ix l k))]) := by
  obtain ⟨A, n, cap, L, G, hv, hQ, hr⟩ := open_row0 Try.underlying25 Try.cells3 (by omega) hf (fun cs => ∃ x : Int, cs = [.int .i64 x] ∧ isI64 x) fun fuel cs x hx _ => by
    obtain ⟨x, rfl, _, hw⟩ := DataW.trod_int Try.underlying3 hx
    exact ⟨x, rfl, i64_wf hw⟩
  obtain ⟨l, rfl, hl⟩ := list_of hQ
  exact ⟨A, l, cap, L, hv, hr.as fun k hk => by rw [(hl k hk).1]; rfl⟩
/-- The cells of a row that was read. -/
def isLoadC (W : World) (l : List Int) (c : Nat) (A : Option Addr) (L : Option (Nat × Nat)) (cs : List Value) : Prop :=
  cs = [.slice A l.length c] ∧ RowIn W A l.length c 1 L (fun k => [.v (.int .i64 (ix l k))])
/-- Rows that came in, and where they lie. -/
structure RowsIn2 (W : World) (loads : List (List Int)) (cp : Nat → Nat) (AD : Nat → Option Addr) (D : Nat → Option (Nat × Nat)) : Prop where
  el : ∀ k, k < loads.length → RowIn W (AD k) (ix loads k).length (cp k) 1 (D k) (fun j => [.v (.int .i64 (ix (ix loads k) j))])
set_option maxRecDepth 100000 in
theorem open_rows (hv : Value.okWide Try.prog W r b0 22 v) (h : DataW.Trod enc Try.prog W base (fun _ => true) held 22 v d p) :
    ∃ (A : Option Addr) (loads : List (List Int)) (cap : Nat) (L : Option (Nat × Nat)) (cp : Nat → Nat) (AD : Nat → Option Addr) (D : Nat → Option (Nat × Nat)), v = .slice A loads.length cap ∧ RowsIn2 W loads cp AD D ∧ RowIn W A loads.length cap 1 L (fun k => [.v (.slice (AD k) (ix loads k).length (cp k))]) := by
  obtain ⟨A, n, cap, L, G, hv, hQ, hr⟩ := open_row Try.underlying22 Try.cells25 (by omega) hv h (fun cs => ∃ q : List Int × Nat × Option Addr × Option (Nat × Nat), isLoadC W q.1 q.2.1 q.2.2.1 q.2.2.2 cs) fun fuel cs x hx hl => by
    obtain ⟨A, l, c, L, h1, h2⟩ := open_ints0 hx
    exact ⟨(l, c, A, L), h1, h2⟩
  obtain ⟨l, rfl, hl⟩ := list_of (α := List Int × Nat × Option Addr × Option (Nat × Nat)) hQ
  have hm : ∀ k, k < l.length → ix (l.map fun q => q.1) k = (ix l k).1 := fun k hk => by
    rw [ix_eq (by rw [List.length_map]; exact hk), ix_eq hk, List.getElem_map]
  refine ⟨A, l.map fun q => q.1, cap, L, fun k => (ix l k).2.1, fun k => (ix l k).2.2.1, fun k => (ix l k).2.2.2, by rw [hv, List.length_map], ⟨fun k hk => ?_⟩, ?_⟩
  · rw [List.length_map] at hk
    rw [hm k hk]
    exact (hl k hk).2
  · rw [List.length_map]
    refine hr.as fun k hk => ?_
    rw [(hl k hk).1, hm k hk]
    rfl
/-- The places of the rows. -/
def famD (n : Nat) (D : Nat → Option (Nat × Nat)) : Nat → Option (Nat × Nat) := fun i => if i < n then D i else none
theorem obIn_fa {β : Bs} {loads : List (List Int)} {cp : Nat → Nat} {AD : Nat → Option Addr} {D : Nat → Option (Nat × Nat)} (h : RowsIn2 W loads cp AD D) : ObIn W β (oNf loads.length (ix loads)) (famD loads.length D) := by
  refine ⟨rfl, 1, loads.length, _, _, _, rfl, fun i hi => by simp [famD]; omega, fun i hi k hk => ?_⟩
  obtain ⟨_, g, b, h1, h2, h3⟩ := (h.el i hi).el k hk
  refine ⟨g, b, by simp only [famD, if_pos hi]; exact h1, h2, fun c x hx => ?_⟩
  obtain ⟨u, h4, rfl⟩ := h3 c x hx
  exact ⟨u, h4, by simp only [Ok]⟩
theorem obIn_out {Fs : List (Nat → Option (Nat × Nat))} {loads : List (List Int)} {A : Option Addr} {cap : Nat} {L : Option (Nat × Nat)} {cp : Nat → Nat} {AD : Nat → Option Addr} {D : Nat → Option (Nat × Nat)} {j : Nat} (h : RowsIn2 W loads cp AD D) (hr : RowIn W A loads.length cap 1 L (fun k => [.v (.slice (AD k) (ix loads k).length (cp k))]))
    (hj : Fs[j]? = some (famD loads.length D)) : ObIn W (inBsF Fs) (oNe j loads.length (ix loads) cp) (one0 L) := by
  refine ⟨rfl, 1, 1, _, _, _, rfl, fun i hi => by simp [one0]; omega, fun i hi k hk => ?_⟩
  obtain rfl : i = 0 := by omega
  obtain ⟨_, g, b, h1, h2, h3⟩ := hr.el k hk
  refine ⟨g, b, by simpa [one0] using h1, h2, fun c x hx => ?_⟩
  have hs : Ok (inBsF Fs) (.s j k 0 (ix loads k).length (cp k) 1) (.slice (AD k) (ix loads k).length (cp k)) := ok_inF (h.el k hk) hj (by simp only [famD, if_pos hk])
  match c with
  | 0 =>
    simp at hx
    subst hx
    obtain ⟨u, h4, h5⟩ := h3 0 (.v (.slice (AD k) (ix loads k).length (cp k))) rfl
    cases h5
    exact ⟨_, h4, hs⟩
  | c + 1 => simp at hx
end
end Go.Proofs.Ytmmabnoemckdiaa
