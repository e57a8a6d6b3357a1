/- BoundUnder: openers: bytes, and patterns, that come in. -/
import Derived.Test.YtdeaaonppokgkaaBN
import Derived.Test.YtdeaaonppokgkaaIn
import Derived.OpenShut
import Derived.Deep.Strs
import Derived.Lib.SmallJoins
import Derived.Carry
namespace Go.Proofs.Ytdeaaonppokgkaa.Pat
open Go.ChangeShapes Go.WideShapes Go.ChangeAt Go.RowKit Go.Joins
theorem cells3 : Try.prog.cellsOf 3 = 1 := by kernel_rfl
theorem cells23 : Try.prog.cellsOf 23 = 1 := by kernel_rfl
section
variable {H : Type} {enc : TypeId × Value → H} {W : World} {base b0 : Nat} {held : Bool} {r : Reach} {v : Value} {d : DataW H} {p : List MemPlace}
theorem trodAll_seven {P : Program} {w : World} {spare : Nat → Bool} {t t1 t2 t3 t4 t5 t6 : TypeId} {args : Array Value} {ds : List (DataW H)} {ps : List MemPlace} (h : DataW.TrodAll enc P w base spare held [t, t1, t2, t3, t4, t5, t6] args.toList ds ps) :
    ∃ v v1 v2 v3 v4 v5 v6 d d1 d2 d3 d4 d5 d6 p p1 p2 p3 p4 p5 p6, args = #[v, v1, v2, v3, v4, v5, v6] ∧ ds = [d, d1, d2, d3, d4, d5, d6] ∧ ps = p ++ p1 ++ p2 ++ p3 ++ p4 ++ p5 ++ p6 ∧ DataW.Trod enc P w base spare held t v d p ∧ DataW.Trod enc P w base spare held t1 v1 d1 p1 ∧ DataW.Trod enc P w base spare held t2 v2 d2 p2 ∧ DataW.Trod enc P w base spare held t3 v3 d3 p3 ∧ DataW.Trod enc P w base spare held t4 v4 d4 p4 ∧ DataW.Trod enc P w base spare held t5 v5 d5 p5 ∧ DataW.Trod enc P w base spare held t6 v6 d6 p6 := by
  obtain ⟨v, vs, d, ds', p, q, hargs, rfl, rfl, hd, hrest⟩ := trodAll_cons h
  obtain ⟨v1, vs1, d1, ds1, p1, q1, rfl, rfl, rfl, hd1, hrest1⟩ := trodAll_cons hrest
  obtain ⟨v2, vs2, d2, ds2, p2, q2, rfl, rfl, rfl, hd2, hrest2⟩ := trodAll_cons hrest1
  obtain ⟨v3, vs3, d3, ds3, p3, q3, rfl, rfl, rfl, hd3, hrest3⟩ := trodAll_cons hrest2
  obtain ⟨v4, vs4, d4, ds4, p4, q4, rfl, rfl, rfl, hd4, hrest4⟩ := trodAll_cons hrest3
  obtain ⟨v5, vs5, d5, ds5, p5, q5, rfl, rfl, rfl, hd5, hrest5⟩ := trodAll_cons hrest4
  obtain ⟨v6, vs6, d6, ds6, p6, q6, rfl, rfl, rfl, hd6, hrest6⟩ := trodAll_cons hrest5
  obtain ⟨rfl, rfl, rfl⟩ := trodAll_nil hrest6
  exact ⟨v, v1, v2, v3, v4, v5, v6, d, d1, d2, d3, d4, d5, d6, p, p1, p2, p3, p4, p5, p6, by cases args; simp_all, rfl, by simp, hd, hd1, hd2, hd3, hd4, hd5, hd6⟩
set_option maxRecDepth 100000 in
theorem open_bytes (hv : Value.okWide Try.prog W r b0 53 v) (h : DataW.Trod enc Try.prog W base (fun _ => true) held 53 v d p) :
    ∃ (A : Option Addr) (l : List Int) (cap : Nat) (L : Option (Nat × Nat)), v = .slice A l.length cap ∧ (∀ k, k < l.length → 0 ≤ ix l k ∧ ix l k ≤ 255) ∧ RowIn W A l.length cap 1 L (fun k => [.v (.int .u8 (ix l k))]) := by
  obtain ⟨A, n, cap, L, G, hv, hQ, hr⟩ := open_row (sz := 1) Try.underlying53 (by kernel_rfl) (by omega) hv h (fun cs => ∃ x : Int, cs = [.int .u8 x] ∧ 0 ≤ x ∧ x ≤ 255) fun fuel cs x hx _ => by
    obtain ⟨x, rfl, _, hw⟩ := DataW.trod_int Try.underlying5 hx
    simp only [Lit.wf, Bool.and_eq_true, decide_eq_true_eq] at hw
    exact ⟨x, rfl, hw⟩
  obtain ⟨l, rfl, hl⟩ := list_of hQ
  exact ⟨A, l, cap, L, hv, fun k hk => (hl k hk).2, hr.as fun k hk => by rw [(hl k hk).1]; try rfl⟩
set_option maxRecDepth 100000 in
/-- A list of ints that was read. -/
theorem open_ints0 {fuel : Nat} {cs : List Value} {x : DataW H × List MemPlace} (hf : DataW.trod enc Try.prog W base (fun _ => true) held fuel 23 cs = some x) :
    ∃ (A : Option Addr) (l : List Int) (cap : Nat) (L : Option (Nat × Nat)), cs = [.slice A l.length cap] ∧ RowIn W A l.length cap 1 L (fun k => [.v (.int .i64 (ix l k))]) := by
  obtain ⟨A, n, cap, L, G, hv, hQ, hr⟩ := open_row0 Try.underlying23 cells3 (by omega) hf (fun cs => ∃ x : Int, cs = [.int .i64 x] ∧ isI64 x) fun fuel cs x hx _ => by
    obtain ⟨x, rfl, _, hw⟩ := DataW.trod_int Try.underlying3 hx
    exact ⟨x, rfl, i64_wf hw⟩
  obtain ⟨l, rfl, hl⟩ := list_of hQ
  exact ⟨A, l, cap, L, hv, hr.as fun k hk => by rw [(hl k hk).1]; rfl⟩
/-- The cells of a row that was read. -/
def isLoadC (W : World) (l : List Int) (c : Nat) (A : Option Addr) (L : Option (Nat × Nat)) (cs : List Value) : Prop :=
  cs = [.slice A l.length c] ∧ RowIn W A l.length c 1 L (fun k => [.v (.int .i64 (ix l k))])
/-- Rows that came in, and where they lie. -/
structure RowsIn2 (W : World) (loads : List (List Int)) (cp : Nat → Nat) (AD : Nat → Option Addr) (D : Nat → Option (Nat × Nat)) : Prop where
  el : ∀ k, k < loads.length → RowIn W (AD k) (ix loads k).length (cp k) 1 (D k) (fun j => [.v (.int .i64 (ix (ix loads k) j))])
set_option maxRecDepth 100000 in
theorem open_rows (hv : Value.okWide Try.prog W r b0 52 v) (h : DataW.Trod enc Try.prog W base (fun _ => true) held 52 v d p) :
    ∃ (A : Option Addr) (loads : List (List Int)) (cap : Nat) (L : Option (Nat × Nat)) (cp : Nat → Nat) (AD : Nat → Option Addr) (D : Nat → Option (Nat × Nat)), v = .slice A loads.length cap ∧ RowsIn2 W loads cp AD D ∧ RowIn W A loads.length cap 1 L (fun k => [.v (.slice (AD k) (ix loads k).length (cp k))]) := by
  obtain ⟨A, n, cap, L, G, hv, hQ, hr⟩ := open_row Try.underlying52 cells23 (by omega) hv h (fun cs => ∃ q : List Int × Nat × Option Addr × Option (Nat × Nat), isLoadC W q.1 q.2.1 q.2.2.1 q.2.2.2 cs) fun fuel cs x hx hl => by
    obtain ⟨A, l, c, L, h1, h2⟩ := open_ints0 hx
    exact ⟨(l, c, A, L), h1, h2⟩
  obtain ⟨l, rfl, hl⟩ := list_of (α := List Int × Nat × Option Addr × Option (Nat × Nat)) hQ
  have hm : ∀ k, k < l.length → ix (l.map fun q => q.1) k = (ix l k).1 := fun k hk => by
    rw [ix_eq (by rw [List.length_map]; exact hk), ix_eq hk, List.getElem_map]
  refine ⟨A, l.map fun q => q.1, cap, L, fun k => (ix l k).2.1, fun k => (ix l k).2.2.1, fun k => (ix l k).2.2.2, by rw [hv, List.length_map], ⟨fun k hk => ?_⟩, ?_⟩
  · rw [List.length_map] at hk
    rw [hm k hk]
    exact (hl k hk).2
  · rw [List.length_map]
    refine hr.as fun k hk => ?_
    rw [(hl k hk).1, hm k hk]
    rfl
/-- The places of the rows. -/
def famD (n : Nat) (D : Nat → Option (Nat × Nat)) : Nat → Option (Nat × Nat) := fun i => if i < n then D i else none
theorem obIn_fa {β : Bs} {loads : List (List Int)} {cp : Nat → Nat} {AD : Nat → Option Addr} {D : Nat → Option (Nat × Nat)} (h : RowsIn2 W loads cp AD D) : ObIn W β (rLL loads) (famD loads.length D) := by
  refine ⟨rfl, 1, loads.length, _, _, _, rfl, fun i hi => by simp [famD]; omega, fun i hi k hk => ?_⟩
  obtain ⟨_, g, b, h1, h2, h3⟩ := (h.el i hi).el k hk
  refine ⟨g, b, by simp only [famD, if_pos hi]; exact h1, h2, fun c x hx => ?_⟩
  obtain ⟨u, h4, rfl⟩ := h3 c x hx
  exact ⟨u, h4, by simp only [Ok]⟩
theorem obIn_out {Fs : List (Nat → Option (Nat × Nat))} {loads : List (List Int)} {A : Option Addr} {cap : Nat} {L : Option (Nat × Nat)} {cp : Nat → Nat} {AD : Nat → Option Addr} {D : Nat → Option (Nat × Nat)} {j : Nat} (h : RowsIn2 W loads cp AD D) (hr : RowIn W A loads.length cap 1 L (fun k => [.v (.slice (AD k) (ix loads k).length (cp k))]))
    (hj : Fs[j]? = some (famD loads.length D)) : ObIn W (inBsF Fs) (rPs j loads cp) (one0 L) := by
  refine ⟨rfl, 1, 1, _, _, _, rfl, fun i hi => by simp [one0]; omega, fun i hi k hk => ?_⟩
  obtain rfl : i = 0 := by omega
  obtain ⟨_, g, b, h1, h2, h3⟩ := hr.el k hk
  refine ⟨g, b, by simpa [one0] using h1, h2, fun c x hx => ?_⟩
  have hs : Ok (inBsF Fs) (.s j k 0 (ix loads k).length (cp k) 1) (.slice (AD k) (ix loads k).length (cp k)) := ok_inF (h.el k hk) hj (by simp only [famD, if_pos hk])
  match c with
  | 0 =>
    simp at hx
    subst hx
    obtain ⟨u, h4, h5⟩ := h3 0 (.v (.slice (AD k) (ix loads k).length (cp k))) rfl
    cases h5
    exact ⟨_, h4, hs⟩
  | c + 1 => simp at hx
end
end Go.Proofs.Ytdeaaonppokgkaa.Pat
