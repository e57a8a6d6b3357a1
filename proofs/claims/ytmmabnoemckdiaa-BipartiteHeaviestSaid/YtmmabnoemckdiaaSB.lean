/- slices.Sort of ints, as a contract of the executor. -/
import Derived.Test.YtmmabnoemckdiaaSA
import Derived.Test.YtmmabnoemckdiaaB
set_option maxRecDepth 100000
set_option linter.unusedSimpArgs false
set_option linter.unusedVariables false
namespace Go.Proofs.Ytmmabnoemckdiaa
open Go.RowKit
def sortI (l : List Int) : List Int := l.mergeSort fun x y => decide (x ≤ y)
theorem sortI_len (l : List Int) : (sortI l).length = l.length := (List.mergeSort_perm _ _).length_eq
open Go.Sort in
theorem put_below {w : World} {n g : Nat} {d : Array Int} {os : Array Obj} {cur : Array Value} {t : TypeId} (hc : w.heap[g]? = some (.cells cur t (0, 0))) :
    (putRow (Value.int .i64) (Go.Sort.ahead w n) g 0 d).heap[g]? = some (.cells (putCells (Value.int .i64) 0 d cur) t (0, 0)) ∧ ∀ k, k ≠ g → (putRow (Value.int .i64) (Go.Sort.ahead w n) g 0 d).heap[k]? = w.heap[k]? := by
  refine ⟨?_, fun k hk => ?_⟩
  · show (w.heap.modify g _)[g]? = _
    rw [Array.getElem?_modify, if_pos rfl, hc]
    rfl
  · show (w.heap.modify g _)[k]? = _
    rw [Array.getElem?_modify, if_neg (Ne.symm hk)]
theorem sort_sp (l : List Int) (cap : Nat) (h0 : 0 < l.length) (hl : l.length ≤ 1000000) : Sp Try.prog 32 [.s 0 0 0 l.length cap 1] [rIO l cap] (fun r H => r = .t [] ∧ H = [rIO (sortI l) cap]) := by
  refine ⟨Try.call32, fun β w vals hI ha => ?_⟩
  have hob := hI.ob 0 _ rfl
  unfold ObOk rIO at hob
  simp only [Bool.false_eq_true, if_false] at hob
  rcases hob 0 (by omega) with ⟨hz, _⟩ | ⟨g, cur, h1, h2, h3, h4, h5, h6⟩
  · omega
  simp only [OkL, Ok] at ha
  obtain ⟨u, us, rfl, ⟨A, rfl, _, hA⟩, rfl⟩ := ha
  obtain ⟨g', b, hb, rfl⟩ := hA (by omega)
  rw [h1] at hb
  obtain ⟨rfl, rfl⟩ : g = g' ∧ 0 = b := by simpa using hb
  have hlt : g < w.heap.size := (Array.getElem?_eq_some_iff.1 h2).1
  have hcell : ∀ k, w.cell? ⟨g, k, none⟩ = cur[k]? := fun k => cell_of_row w g k cur _ (0, 0) h2
  have hH : Go.Sort.Holds (Value.int .i64) w g 0 l.toArray := fun j hj => by
    have hj : j < l.length := by simpa using hj
    obtain ⟨_, q⟩ := h6 j hj
    obtain ⟨u, q1, q2⟩ := q 0 _ rfl
    simp only [Ok] at q2
    subst q2
    refine ⟨?_, ?_⟩
    · rw [hcell, show 0 + j = j * 1 + 0 by omega, q1, ix_eq hj]
      simp [hj]
    · simp [World.frozen?, h2]
  have hs := sort_calls g 0 cap l w hH hlt (by omega)
  refine (by simpa using hs : Calls Try.prog 32 [Value.slice (some ⟨g, 0 + 0 * 1, none⟩) l.length cap].toArray w _).mono ?_
  rintro e w' ⟨rfl, n, os, rfl⟩
  obtain ⟨p1, p2⟩ := put_below (w := w) (n := n) (g := g) (d := (sortI l).toArray) (os := os) h2
  have hsl := sortI_len l
  have hob2 : ObOk β (Go.Sort.putRow (Value.int .i64) (Go.Sort.ahead w n) g 0 (sortI l).toArray) 0 (rIO (sortI l) cap) := by
    unfold ObOk rIO
    simp only [Bool.false_eq_true, if_false]
    intro i hi
    obtain rfl : i = 0 := by omega
    refine .inr ⟨g, _, h1, p1, by simp [Go.Sort.putCells, h3], by omega, h5, fun k hk => ⟨rfl, fun c x hx => ?_⟩⟩
    match c, hx with
    | 0, hx =>
      obtain rfl : SV.v (.int .i64 (ix (sortI l) k)) = x := by simpa using hx
      refine ⟨.int .i64 (ix (sortI l) k), ?_, by simp only [Ok]⟩
      have hkc : k < cur.size := by omega
      simp only [Go.Sort.putCells, Nat.mul_one, Nat.add_zero, Array.getElem?_mapIdx, Array.getElem?_eq_getElem hkc, Option.map_some, Nat.zero_add, Nat.zero_le, true_and, Nat.sub_zero]
      rw [if_pos (by simpa using hk)]
      rw [ix_eq hk]
      simp [hk]
    | c + 1, hx => simp at hx
  obtain ⟨q1, q2⟩ := inv_set (o := rIO l cap) (ob' := rIO (sortI l) cap) (j := 0) (i := 0) (b := 0) hI rfl ⟨Nat.zero_lt_one, rfl, (show 0 < cap by omega)⟩ h1 (w' := Go.Sort.putRow (Value.int .i64) (Go.Sort.ahead w n) g 0 (sortI l).toArray) rfl rfl rfl (by simp [Go.Sort.ahead]) p2 hob2
    (fun i hi => ⟨hi.1, rfl, hi.2.2⟩) (fun i hi => ⟨hi.1, (fun h => by cases h), hi.2.2⟩) (fun i hi => hi)
  have hbl : Below (Go.Sort.putRow (Value.int .i64) (Go.Sort.ahead w n) g 0 (sortI l).toArray).heap.size (Go.Sort.putRow (Value.int .i64) (Go.Sort.ahead w n) g 0 (sortI l).toArray) (Go.Sort.grow (Go.Sort.putRow (Value.int .i64) (Go.Sort.ahead w n) g 0 (sortI l).toArray) os) :=
    ⟨rfl, rfl, rfl, by rw [Go.Sort.size_grow]; omega, fun k hk => Go.Sort.heap_grow_old _ os hk⟩
  exact ⟨.t [], .tuple #[], β, _, rfl, ⟨rfl, rfl⟩, by simp only [Ok]; exact ⟨#[], rfl, by simp [OkL]⟩, q1.below hbl, (q2 _).trans (Fr.below hbl)⟩
end Go.Proofs.Ytmmabnoemckdiaa
