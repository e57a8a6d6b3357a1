/- The laid tables, as the executor's tables of the program. -/
import Derived.Test.YtapbhppfecfobaaDoorIn
import Derived.Test.YtapbhppfecfobaaDoorTie
import Derived.Test.YtapbhppfecfobaaDoorCards
import Derived.ProofKit
import Derived.LaidMore
import Derived.OpenShut
import Derived.Stop.Joined
set_option maxRecDepth 100000
set_option linter.unusedSimpArgs false
set_option linter.unusedVariables false
namespace Go.Proofs.YtapbhppfecfobaaDoor
open Go Go.ChangeShapes Go.WideShapes Go.ChangeAt Go.RowKit
def tab32V : List Int := [0, 1, 28, 2, 29, 14, 24, 3, 30, 22, 20, 15, 25, 17, 4, 8, 31, 27, 13, 23, 21, 19, 16, 7, 26, 12, 18, 6, 11, 5, 10, 9]
def tab64V : List Int := [0, 1, 56, 2, 57, 49, 28, 3, 61, 58, 42, 50, 38, 29, 17, 4, 62, 47, 59, 36, 45, 43, 51, 22, 53, 39, 33, 30, 24, 18, 12, 5, 63, 55, 48, 27, 60, 41, 37, 16, 46, 35, 44, 21, 52, 32, 23, 11, 54, 26, 40, 15, 34, 20, 31, 10, 25, 14, 19, 9, 13, 8, 7, 6]
def laid2 : List (String × DataW Unit) := [("math/bits.deBruijn32tab", Rows.laid_math_bits_deBruijn32tab), ("math/bits.deBruijn64tab", Rows.laid_math_bits_deBruijn64tab)]
theorem gTab32 : Tryd.prog.globalNamed "math/bits.deBruijn32tab" = some 0 := by kernel_rfl
theorem gTab64 : Tryd.prog.globalNamed "math/bits.deBruijn64tab" = some 1 := by kernel_rfl
theorem tTab32 : (Tryd.prog.globals[0]?).map (·.type) = some 86 := by kernel_rfl
theorem tTab64 : (Tryd.prog.globals[1]?).map (·.type) = some 87 := by kernel_rfl
theorem uTab32 : Tryd.prog.underlying 86 = some (.array 32 5) := by kernel_rfl
theorem uTab64 : Tryd.prog.underlying 87 = some (.array 64 5) := by kernel_rfl
theorem uTabE : Tryd.prog.underlying 5 = some (.int .u8) := by kernel_rfl
theorem cTabE : Tryd.prog.cellsOf 5 = 1 := by kernel_rfl
theorem door_met (os : Os) (args : Array Value) : laidMetH Tryd.prog laid2 ((World.doorLaid Tryd.prog 19 os).forCall (fun _ _ => 0) ⟨#[], args, []⟩).memory :=
  laidMetH_of_parts3 (fuel := 8) (laidMet_of_run' 8 (by kernel_rfl) (by kernel_rfl)) (by kernel_rfl) (by kernel_rfl)
theorem tab_cells {H : Type} {enc : TypeId × Value → H} {P : Program} {W : World} {sp : Nat → Bool} {held : Bool} {fuel n : Nat} {t e : TypeId} {cs : Array Value} {vs : List Int} {p : List MemPlace}
    (ht : P.underlying t = some (.array n e)) (he : P.underlying e = some (.int .u8)) (hc : P.cellsOf e = 1) (hv : vs.length = n)
    (h : DataW.trod enc P W 0 sp held fuel t cs.toList = some (.agg (vs.map fun v => .lit (.int .u8 v)), p)) : ∀ (k : Nat) (v : Value), (vs.map (Value.int .u8))[k]? = some v → cs[k]? = some v := by
  intro k v hk
  obtain ⟨xs, m, rfl, hx, _, hn, hel⟩ := DataW.trod_array ht h
  rw [List.getElem?_map] at hk
  obtain ⟨v0, hv0, rfl⟩ := Option.map_eq_some_iff.1 hk
  have hkn : k < n := by
    have := (List.getElem?_eq_some_iff.1 hv0).1
    omega
  have h1 := hel k hkn
  rw [hc, Nat.mul_one, List.getElem?_eq_getElem (by omega)] at h1
  obtain ⟨z, e1, e2, _⟩ := DataW.trod_int he h1
  simp only [Prod.mk.injEq, DataW.agg.injEq] at hx
  have h2 := congrArg (fun l => l[k]?) hx.1
  simp only [List.getElem?_map, hv0, List.getElem?_eq_getElem (show k < xs.length by omega), Option.map_some, e2] at h2
  have hz : z = v0 := by simpa using h2.symm
  subst hz
  have h3 := congrArg (fun l => l[0]?) e1
  simp only [List.getElem?_take, List.getElem?_drop] at h3
  simpa using h3
theorem cell_lt {W : World} {g k : Nat} {v : Value} (h : W.cell? ⟨g, k, none⟩ = some v) : g < W.heap.size := by
  refine Nat.lt_of_not_le fun h2 => ?_
  have h3 : W.heap[g]? = none := Array.getElem?_eq_none h2
  unfold World.cell? at h
  simp [h3] at h
theorem of_laid {W : World} (h : laidMetH Tryd.prog laid2 W) : GlobIn W := by
  rw [MakeChecks.laidMetH_plain _ _ _ (by kernel_rfl)] at h
  obtain ⟨ps, ⟨g0, t0, cs0, f0, p0, q0, hg0, ht0, hv0, hd0, ⟨g1, t1, cs1, f1, p1, q1, hg1, ht1, hv1, hd1, _, _⟩, _⟩, _, _⟩ := h
  obtain rfl := Option.some.inj (gTab32.symm.trans hg0)
  obtain rfl := Option.some.inj (gTab64.symm.trans hg1)
  obtain rfl := Option.some.inj (tTab32.symm.trans ht0)
  obtain rfl := Option.some.inj (tTab64.symm.trans ht1)
  have c0 := tab_cells (vs := tab32V) uTab32 uTabE cTabE rfl hd0
  have c1 := tab_cells (vs := tab64V) uTab64 uTabE cTabE rfl hd1
  have d0 := World.var?_cell hg0 hv0
  have d1 := World.var?_cell hg1 hv1
  have r0 : ∀ k v, (tab32V.map (Value.int .u8))[k]? = some v → W.cell? ⟨0, k, none⟩ = some v := fun k v hk => by rw [d0]; exact c0 k v hk
  have r1 : ∀ k v, (tab64V.map (Value.int .u8))[k]? = some v → W.cell? ⟨1, k, none⟩ = some v := fun k v hk => by rw [d1]; exact c1 k v hk
  intro x hx
  have hx' : x = (0, tab32V.map (Value.int .u8)) ∨ x = (1, tab64V.map (Value.int .u8)) := by
    simpa [globs, tab32V, tab64V] using hx
  rcases hx' with rfl | rfl
  · exact ⟨cell_lt (r0 0 _ rfl), by decide, r0⟩
  · exact ⟨cell_lt (r1 0 _ rfl), by decide, r1⟩
end Go.Proofs.YtapbhppfecfobaaDoor
