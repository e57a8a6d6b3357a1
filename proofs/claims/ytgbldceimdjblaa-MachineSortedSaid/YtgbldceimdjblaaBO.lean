/- Openers: lists of bars that come in. -/
import Derived.Test.YtgbldceimdjblaaBE
import Derived.Test.YtgbldceimdjblaaIn
import Derived.Deep.Strs
import Derived.Lib.SmallJoins
import Derived.Carry
set_option linter.unusedSimpArgs false
set_option linter.unusedVariables false
namespace Go.Proofs.Ytgbldceimdjblaa
open Go.ChangeShapes Go.WideShapes Go.ChangeAt Go.RowKit Go.Joins
theorem Try.own : ownKnob Try.prog.godebug = none := by kernel_rfl
theorem Try.laidOut : laidOutB Try.prog = true := by kernel_rfl
theorem Try.cells47 : Try.prog.cellsOf 47 = 5 := by kernel_rfl
theorem Try.cells3 : Try.prog.cellsOf 3 = 1 := by kernel_rfl
section
variable {H : Type} {enc : TypeId × Value → H} {W : World} {base b0 : Nat} {held : Bool} {r : Reach} {v : Value} {d : DataW H} {p : List MemPlace}
/-- A list of ints that was read. -/
theorem open_dims {fuel : Nat} {cs : List Value} {x : DataW H × List MemPlace} (hf : DataW.trod enc Try.prog W base (fun _ => true) held fuel 25 cs = some x) :
    ∃ (A : Option Addr) (l : List Int) (cap : Nat) (L : Option (Nat × Nat)), cs = [.slice A l.length cap] ∧ RowIn W A l.length cap 1 L (fun k => [.v (.int .i64 (ix l k))]) := by
  obtain ⟨A, n, cap, L, G, hv, hQ, hr⟩ := open_row0 Try.underlying25 Try.cells3 (by omega) hf (fun cs => ∃ x : Int, cs = [.int .i64 x] ∧ isI64 x) fun fuel cs x hx _ => by
    obtain ⟨x, rfl, _, hw⟩ := DataW.trod_int Try.underlying3 hx
    exact ⟨x, rfl, i64_wf hw⟩
  obtain ⟨l, rfl, hl⟩ := list_of hQ
  exact ⟨A, l, cap, L, hv, hr.as fun k hk => by rw [(hl k hk).1]; rfl⟩
/-- The cells of a bar that was read. -/
def isBar (W : World) (b : Br) (A : Option Addr) (L : Option (Nat × Nat)) (cs : List Value) : Prop :=
  cs = [.string b.mark, .int .i64 b.size, .int .i64 b.count, .int .i64 b.code, .slice A b.dims.length b.cap] ∧ RowIn W A b.dims.length b.cap 1 L (fun k => [.v (.int .i64 (ix b.dims k))])
set_option maxRecDepth 100000 in
theorem open_bar {fuel : Nat} {cs : List Value} {x : DataW H × List MemPlace} (hf : DataW.trod enc Try.prog W base (fun _ => true) held fuel 47 cs = some x) (hl : cs.length = 5) : ∃ (q : Br × Option Addr × Option (Nat × Nat)), isBar W q.1 q.2.1 q.2.2 cs := by
  obtain ⟨xs, n, _, _, _, hx, hfs⟩ := DataW.trod_struct Try.underlying47 hf
  match cs, hl, xs, hx with
  | [u0, u1, u2, u3, u4], _, [y0, y1, y2, y3, y4], _ =>
    have c9 : Try.prog.cellsOf 9 = 1 := by kernel_rfl
    have c25 : Try.prog.cellsOf 25 = 1 := by kernel_rfl
    have i0 : DataW.trod enc Try.prog W base (fun _ => true) held n 9 [u0] = some y0 := by
      have h := hfs 0 _ rfl
      simp only [List.getElem_toArray, List.getElem_cons_zero, List.getElem_cons_succ] at h
      rw [c9] at h
      exact h
    have i1 : DataW.trod enc Try.prog W base (fun _ => true) held n 3 [u1] = some y1 := by
      have h := hfs 1 _ rfl
      simp only [List.getElem_toArray, List.getElem_cons_zero, List.getElem_cons_succ] at h
      rw [Try.cells3] at h
      exact h
    have i2 : DataW.trod enc Try.prog W base (fun _ => true) held n 3 [u2] = some y2 := by
      have h := hfs 2 _ rfl
      simp only [List.getElem_toArray, List.getElem_cons_zero, List.getElem_cons_succ] at h
      rw [Try.cells3] at h
      exact h
    have i3 : DataW.trod enc Try.prog W base (fun _ => true) held n 3 [u3] = some y3 := by
      have h := hfs 3 _ rfl
      simp only [List.getElem_toArray, List.getElem_cons_zero, List.getElem_cons_succ] at h
      rw [Try.cells3] at h
      exact h
    have i4 : DataW.trod enc Try.prog W base (fun _ => true) held n 25 [u4] = some y4 := by
      have h := hfs 4 _ rfl
      simp only [List.getElem_toArray, List.getElem_cons_zero, List.getElem_cons_succ] at h
      rw [c25] at h
      exact h
    obtain ⟨s, e0, _, _⟩ := DataW.trod_string Try.underlying9 i0
    obtain ⟨a1, e1, _, _⟩ := DataW.trod_int Try.underlying3 i1
    obtain ⟨a2, e2, _, _⟩ := DataW.trod_int Try.underlying3 i2
    obtain ⟨a3, e3, _, _⟩ := DataW.trod_int Try.underlying3 i3
    obtain ⟨A, l, cap, L, e4, hr⟩ := open_dims i4
    simp only [List.cons.injEq, and_true] at e0 e1 e2 e3 e4
    subst e0 e1 e2 e3 e4
    exact ⟨(⟨s, a1, a2, a3, l, cap⟩, A, L), rfl, hr⟩
/-- Bars that came in, and the places of their dimensions. -/
structure BarsIn (W : World) (l : List Br) (AD : Nat → Option Addr) (D : Nat → Option (Nat × Nat)) : Prop where
  dims : ∀ k, k < l.length → RowIn W (AD k) (ix l k).dims.length (ix l k).cap 1 (D k) (fun j => [.v (.int .i64 (ix (ix l k).dims j))])
def cBrV (b : Br) (A : Option Addr) : List SV := [.v (.string b.mark), .v (.int .i64 b.size), .v (.int .i64 b.count), .v (.int .i64 b.code), .v (.slice A b.dims.length b.cap)]
theorem open_bars (hv : Value.okWide Try.prog W r b0 48 v) (h : DataW.Trod enc Try.prog W base (fun _ => true) held 48 v d p) :
    ∃ (A : Option Addr) (l : List Br) (cap : Nat) (L : Option (Nat × Nat)) (AD : Nat → Option Addr) (D : Nat → Option (Nat × Nat)), v = .slice A l.length cap ∧ BarsIn W l AD D ∧ RowIn W A l.length cap 5 L (fun k => cBrV (ix l k) (AD k)) := by
  obtain ⟨A, n, cap, L, G, hv, hQ, hr⟩ := open_row Try.underlying48 Try.cells47 (by omega) hv h (fun cs => ∃ q : Br × Option Addr × Option (Nat × Nat), isBar W q.1 q.2.1 q.2.2 cs) fun fuel cs x hx hl => open_bar hx hl
  obtain ⟨l, rfl, hl⟩ := list_of (α := Br × Option Addr × Option (Nat × Nat)) hQ
  have hm : ∀ k, k < l.length → ix (l.map fun q => q.1) k = (ix l k).1 := fun k hk => by
    rw [ix_eq (by rw [List.length_map]; exact hk), ix_eq hk, List.getElem_map]
  refine ⟨A, l.map fun q => q.1, cap, L, fun k => (ix l k).2.1, fun k => (ix l k).2.2, by rw [hv, List.length_map], ⟨fun k hk => ?_⟩, ?_⟩
  · rw [List.length_map] at hk
    rw [hm k hk]
    exact (hl k hk).2
  · rw [List.length_map]
    refine hr.as fun k hk => ?_
    rw [(hl k hk).1, hm k hk]
    rfl
theorem BarsIn.okDm {l : List Br} {AD : Nat → Option Addr} {D : Nat → Option (Nat × Nat)} (h : BarsIn W l AD D) : OkDm l := fun k hk => (h.dims k hk).n_le
/-- The places of the dimensions. -/
def famD (n : Nat) (D : Nat → Option (Nat × Nat)) : Nat → Option (Nat × Nat) := fun i => if i < n then D i else none
theorem obIn_dims {β : Bs} {l : List Br} {AD : Nat → Option Addr} {D : Nat → Option (Nat × Nat)} (h : BarsIn W l AD D) : ObIn W β (rDm l) (famD l.length D) := by
  refine ⟨rfl, 1, l.length, _, _, _, rfl, fun i hi => by simp [famD]; omega, fun i hi k hk => ?_⟩
  obtain ⟨_, g, b, h1, h2, h3⟩ := (h.dims i hi).el k hk
  refine ⟨g, b, by simp only [famD, if_pos hi]; exact h1, h2, fun c x hx => ?_⟩
  obtain ⟨u, h4, rfl⟩ := h3 c x hx
  exact ⟨u, h4, by simp only [Ok]⟩
theorem obIn_bars {Fs : List (Nat → Option (Nat × Nat))} {l : List Br} {A : Option Addr} {cap : Nat} {L : Option (Nat × Nat)} {AD : Nat → Option Addr} {D : Nat → Option (Nat × Nat)} {j : Nat} (h : BarsIn W l AD D) (hr : RowIn W A l.length cap 5 L (fun k => cBrV (ix l k) (AD k)))
    (hj : Fs[j]? = some (famD l.length D)) : ObIn W (inBsF Fs) (rBr j l) (one0 L) := by
  refine ⟨rfl, 5, 1, _, _, _, rfl, fun i hi => by simp [one0]; omega, fun i hi k hk => ?_⟩
  obtain rfl : i = 0 := by omega
  obtain ⟨_, g, b, h1, h2, h3⟩ := hr.el k hk
  refine ⟨g, b, by simpa [one0] using h1, h2, fun c x hx => ?_⟩
  have hs : Ok (inBsF Fs) (.s j k 0 (ix l k).dims.length (ix l k).cap 1) (.slice (AD k) (ix l k).dims.length (ix l k).cap) := ok_inF (h.dims k hk) hj (by simp only [famD, if_pos hk])
  have key : ∀ (c : Nat) (y : SV) (u : Value), (cBrV (ix l k) (AD k))[c]? = some (.v u) → (cBr j k (ix l k))[c]? = some y → Ok (inBsF Fs) y u := by
    intro c y u e1 e2
    match c with
    | 0 => simp [cBrV, cBr] at e1 e2; subst e1 e2; simp only [Ok]
    | 1 => simp [cBrV, cBr] at e1 e2; subst e1 e2; simp only [Ok]
    | 2 => simp [cBrV, cBr] at e1 e2; subst e1 e2; simp only [Ok]
    | 3 => simp [cBrV, cBr] at e1 e2; subst e1 e2; simp only [Ok]
    | 4 => simp [cBrV, cBr] at e1 e2; subst e1 e2; exact hs
    | c + 5 => simp [cBr] at e2
  have hc : c < 5 := by
    have := (List.getElem?_eq_some_iff.1 hx).1
    simpa [cBr] using this
  obtain ⟨y, hy⟩ : ∃ y, (cBrV (ix l k) (AD k))[c]? = some y := ⟨_, List.getElem?_eq_getElem (by simpa [cBrV] using hc)⟩
  obtain ⟨u, h4, rfl⟩ := h3 c y hy
  exact ⟨u, h4, key c x u hy hx⟩
theorem ok_bar {Fs : List (Nat → Option (Nat × Nat))} {b : Br} {A : Option Addr} {L : Option (Nat × Nat)} {j : Nat} (hr : RowIn W A b.dims.length b.cap 1 L (fun k => [.v (.int .i64 (ix b.dims k))])) (hj : Fs[j]? = some (one0 L)) :
    Ok (inBsF Fs) (.a (cBr j 0 b)) (.agg #[.string b.mark, .int .i64 b.size, .int .i64 b.count, .int .i64 b.code, .slice A b.dims.length b.cap]) := by
  have hs : Ok (inBsF Fs) (.s j 0 0 b.dims.length b.cap 1) (.slice A b.dims.length b.cap) := ok_inF hr hj (by simp [one0])
  simp only [Ok] at hs ⊢
  refine ⟨_, rfl, ?_⟩
  simp only [cBr, OkL]
  exact ⟨_, _, rfl, by simp only [Ok], _, _, rfl, by simp only [Ok], _, _, rfl, by simp only [Ok], _, _, rfl, by simp only [Ok], _, _, rfl, by simp only [Ok]; exact hs, rfl⟩
set_option maxRecDepth 100000 in
theorem open_bar1 (hv : Value.okWide Try.prog W r b0 47 v) (h : DataW.Trod enc Try.prog W base (fun _ => true) held 47 v d p) :
    ∃ (b : Br) (A : Option Addr) (L : Option (Nat × Nat)), v = .agg #[.string b.mark, .int .i64 b.size, .int .i64 b.count, .int .i64 b.code, .slice A b.dims.length b.cap] ∧ RowIn W A b.dims.length b.cap 1 L (fun k => [.v (.int .i64 (ix b.dims k))]) := by
  obtain ⟨fuel, hf⟩ := h
  obtain ⟨cs, rfl, hsz⟩ := okWide_struct Try.underlying47 hv
  obtain ⟨⟨b, A, L⟩, h1, h2⟩ := open_bar (cs := cs.toList) hf (by rw [Array.length_toList, hsz, Try.cells47])
  refine ⟨b, A, L, ?_, h2⟩
  rw [← Array.toArray_toList (xs := cs), h1]
end
end Go.Proofs.Ytgbldceimdjblaa
