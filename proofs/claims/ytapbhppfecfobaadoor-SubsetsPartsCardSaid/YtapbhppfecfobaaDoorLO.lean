/- Openers: parts that come in. -/
import Derived.Test.YtapbhppfecfobaaDoorZ
import Derived.Test.YtapbhppfecfobaaDoorIn
import Derived.Deep.Strs
import Derived.Lib.SmallJoins
import Derived.Carry
set_option linter.unusedSimpArgs false
set_option linter.unusedVariables false
namespace Go.Proofs.YtapbhppfecfobaaDoor
open Go.ChangeShapes Go.WideShapes Go.ChangeAt Go.RowKit Go.Joins
theorem Tryd.cells3 : Tryd.prog.cellsOf 3 = 1 := by kernel_rfl
theorem Tryd.cells22 : Tryd.prog.cellsOf 22 = 1 := by kernel_rfl
section
variable {H : Type} {enc : TypeId × Value → H} {W : World} {base b0 : Nat} {held : Bool} {r : Reach} {v : Value} {d : DataW H} {p : List MemPlace}
set_option maxRecDepth 100000 in
/-- A list of ints that was read. -/
theorem open_ints0 {fuel : Nat} {cs : List Value} {x : DataW H × List MemPlace} (hf : DataW.trod enc Tryd.prog W base (fun _ => true) held fuel 22 cs = some x) :
    ∃ (A : Option Addr) (l : List Int) (cap : Nat) (L : Option (Nat × Nat)), cs = [.slice A l.length cap] ∧ RowIn W A l.length cap 1 L (fun k => [.v (.int .i64 (ix l k))]) := by
  obtain ⟨A, n, cap, L, G, hv, hQ, hr⟩ := open_row0 Tryd.underlying22 Tryd.cells3 (by omega) hf (fun cs => ∃ x : Int, cs = [.int .i64 x] ∧ isI64 x) fun fuel cs x hx _ => by
    obtain ⟨x, rfl, _, hw⟩ := DataW.trod_int Tryd.underlying3 hx
    exact ⟨x, rfl, i64_wf hw⟩
  obtain ⟨l, rfl, hl⟩ := list_of hQ
  exact ⟨A, l, cap, L, hv, hr.as fun k hk => by rw [(hl k hk).1]; rfl⟩
/-- The cells of a load that was read. -/
def isLoadC (W : World) (l : List Int) (c : Nat) (A : Option Addr) (L : Option (Nat × Nat)) (cs : List Value) : Prop :=
  cs = [.slice A l.length c] ∧ RowIn W A l.length c 1 L (fun k => [.v (.int .i64 (ix l k))])
/-- Loads that came in, and where they lie. -/
structure LoadsIn (W : World) (loads : List (List Int)) (cp : Nat → Nat) (AD : Nat → Option Addr) (D : Nat → Option (Nat × Nat)) : Prop where
  el : ∀ k, k < loads.length → RowIn W (AD k) (ix loads k).length (cp k) 1 (D k) (fun j => [.v (.int .i64 (ix (ix loads k) j))])
theorem open_loads (hv : Value.okWide Tryd.prog W r b0 38 v) (h : DataW.Trod enc Tryd.prog W base (fun _ => true) held 38 v d p) :
    ∃ (A : Option Addr) (loads : List (List Int)) (cap : Nat) (L : Option (Nat × Nat)) (cp : Nat → Nat) (AD : Nat → Option Addr) (D : Nat → Option (Nat × Nat)), v = .slice A loads.length cap ∧ LoadsIn W loads cp AD D ∧ RowIn W A loads.length cap 1 L (fun k => [.v (.slice (AD k) (ix loads k).length (cp k))]) := by
  obtain ⟨A, n, cap, L, G, hv, hQ, hr⟩ := open_row Tryd.underlying38 Tryd.cells22 (by omega) hv h (fun cs => ∃ q : List Int × Nat × Option Addr × Option (Nat × Nat), isLoadC W q.1 q.2.1 q.2.2.1 q.2.2.2 cs) fun fuel cs x hx hl => by
    obtain ⟨A, l, c, L, h1, h2⟩ := open_ints0 hx
    exact ⟨(l, c, A, L), h1, h2⟩
  obtain ⟨l, rfl, hl⟩ := list_of (α := List Int × Nat × Option Addr × Option (Nat × Nat)) hQ
  have hm : ∀ k, k < l.length → ix (l.map fun q => q.1) k = (ix l k).1 := fun k hk => by
    rw [ix_eq (by rw [List.length_map]; exact hk), ix_eq hk, List.getElem_map]
  refine ⟨A, l.map fun q => q.1, cap, L, fun k => (ix l k).2.1, fun k => (ix l k).2.2.1, fun k => (ix l k).2.2.2, by rw [hv, List.length_map], ⟨fun k hk => ?_⟩, ?_⟩
  · rw [List.length_map] at hk
    rw [hm k hk]
    exact (hl k hk).2
  · rw [List.length_map]
    refine hr.as fun k hk => ?_
    rw [(hl k hk).1, hm k hk]
    rfl
/-- The places of the loads. -/
def famD (n : Nat) (D : Nat → Option (Nat × Nat)) : Nat → Option (Nat × Nat) := fun i => if i < n then D i else none
theorem obIn_fa {β : Bs} {loads : List (List Int)} {cp : Nat → Nat} {AD : Nat → Option Addr} {D : Nat → Option (Nat × Nat)} (h : LoadsIn W loads cp AD D) : ObIn W β (rFa loads.length loads) (famD loads.length D) := by
  refine ⟨rfl, 1, loads.length, _, _, _, rfl, fun i hi => by simp [famD]; omega, fun i hi k hk => ?_⟩
  obtain ⟨_, g, b, h1, h2, h3⟩ := (h.el i hi).el k hk
  refine ⟨g, b, by simp only [famD, if_pos hi]; exact h1, h2, fun c x hx => ?_⟩
  obtain ⟨u, h4, rfl⟩ := h3 c x hx
  exact ⟨u, h4, by simp only [Ok]⟩
theorem obIn_out {Fs : List (Nat → Option (Nat × Nat))} {loads : List (List Int)} {A : Option Addr} {cap : Nat} {L : Option (Nat × Nat)} {cp : Nat → Nat} {AD : Nat → Option Addr} {D : Nat → Option (Nat × Nat)} {j : Nat} (h : LoadsIn W loads cp AD D) (hr : RowIn W A loads.length cap 1 L (fun k => [.v (.slice (AD k) (ix loads k).length (cp k))]))
    (hj : Fs[j]? = some (famD loads.length D)) : ObIn W (inBsF Fs) (rOut j loads cp) (one0 L) := by
  refine ⟨rfl, 1, 1, _, _, _, rfl, fun i hi => by simp [one0]; omega, fun i hi k hk => ?_⟩
  obtain rfl : i = 0 := by omega
  obtain ⟨_, g, b, h1, h2, h3⟩ := hr.el k hk
  refine ⟨g, b, by simpa [one0] using h1, h2, fun c x hx => ?_⟩
  have hs : Ok (inBsF Fs) (.s j k 0 (ix loads k).length (cp k) 1) (.slice (AD k) (ix loads k).length (cp k)) := ok_inF (h.el k hk) hj (by simp only [famD, if_pos hk])
  match c with
  | 0 =>
    simp at hx
    subst hx
    obtain ⟨u, h4, h5⟩ := h3 0 (.v (.slice (AD k) (ix loads k).length (cp k))) rfl
    cases h5
    exact ⟨_, h4, hs⟩
  | c + 1 => simp at hx
end
end Go.Proofs.YtapbhppfecfobaaDoor
