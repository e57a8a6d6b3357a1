/- Openers: lists of pieces, stock and patterns that come in. -/
import Derived.Test.YthlpfjcjfhdmaaaF
import Derived.Test.YthlpfjcjfhdmaaaIn
import Derived.Deep.Strs
import Derived.Lib.SmallJoins
import Derived.Carry
set_option linter.unusedSimpArgs false
set_option linter.unusedVariables false
namespace Go.Proofs.Ythlpfjcjfhdmaaa
open Go.ChangeShapes Go.WideShapes Go.ChangeAt Go.RowKit Go.Joins
theorem Try.cells50 : Try.prog.cellsOf 50 = 3 := by kernel_rfl
theorem Try.cells3 : Try.prog.cellsOf 3 = 1 := by kernel_rfl
section
variable {H : Type} {enc : TypeId × Value → H} {W : World} {base b0 : Nat} {held : Bool} {r : Reach} {v : Value} {d : DataW H} {p : List MemPlace}
/-- A list of ints that was read. -/
theorem open_nums {fuel : Nat} {cs : List Value} {x : DataW H × List MemPlace} (hf : DataW.trod enc Try.prog W base (fun _ => true) held fuel 48 cs = some x) :
    ∃ (A : Option Addr) (l : List Int) (cap : Nat) (L : Option (Nat × Nat)), cs = [.slice A l.length cap] ∧ RowIn W A l.length cap 1 L (fun k => [.v (.int .i64 (ix l k))]) := by
  obtain ⟨A, n, cap, L, G, hv, hQ, hr⟩ := open_row0 Try.underlying48 Try.cells3 (by omega) hf (fun cs => ∃ x : Int, cs = [.int .i64 x] ∧ isI64 x) fun fuel cs x hx _ => by
    obtain ⟨x, rfl, _, hw⟩ := DataW.trod_int Try.underlying3 hx
    exact ⟨x, rfl, i64_wf hw⟩
  obtain ⟨l, rfl, hl⟩ := list_of hQ
  exact ⟨A, l, cap, L, hv, hr.as fun k hk => by rw [(hl k hk).1]; rfl⟩
structure PtQ where
  x : Pt
  cap : Nat
  A : Option Addr
  L : Option (Nat × Nat)
instance : Inhabited PtQ := ⟨⟨default, 0, none, none⟩⟩
/-- The cells of a pattern that was read. -/
def isPt (W : World) (q : PtQ) (cs : List Value) : Prop :=
  cs = [.int .i64 q.x.stock, .slice q.A q.x.ps.length q.cap, .int .i64 q.x.times] ∧ RowIn W q.A q.x.ps.length q.cap 1 q.L (fun k => [.v (.int .i64 (ix q.x.ps k))])
set_option maxRecDepth 100000 in
theorem open_pt {fuel : Nat} {cs : List Value} {x : DataW H × List MemPlace} (hf : DataW.trod enc Try.prog W base (fun _ => true) held fuel 50 cs = some x) (hl : cs.length = 3) : ∃ (q : PtQ), isPt W q cs := by
  obtain ⟨xs, n, _, _, _, hx, hfs⟩ := DataW.trod_struct Try.underlying50 hf
  match cs, hl, xs, hx with
  | [u0, u1, u2], _, [y0, y1, y2], _ =>
    have c48 : Try.prog.cellsOf 48 = 1 := by kernel_rfl
    have i0 : DataW.trod enc Try.prog W base (fun _ => true) held n 3 [u0] = some y0 := by
      have h := hfs 0 _ rfl
      simp only [List.getElem_toArray, List.getElem_cons_zero, List.getElem_cons_succ] at h
      rw [Try.cells3] at h
      exact h
    have i1 : DataW.trod enc Try.prog W base (fun _ => true) held n 48 [u1] = some y1 := by
      have h := hfs 1 _ rfl
      simp only [List.getElem_toArray, List.getElem_cons_zero, List.getElem_cons_succ] at h
      rw [c48] at h
      exact h
    have i2 : DataW.trod enc Try.prog W base (fun _ => true) held n 3 [u2] = some y2 := by
      have h := hfs 2 _ rfl
      simp only [List.getElem_toArray, List.getElem_cons_zero, List.getElem_cons_succ] at h
      rw [Try.cells3] at h
      exact h
    obtain ⟨a1, e1, _, _⟩ := DataW.trod_int Try.underlying3 i0
    obtain ⟨a2, e2, _, _⟩ := DataW.trod_int Try.underlying3 i2
    obtain ⟨A, l, cap, L, e3, hr⟩ := open_nums i1
    simp only [List.cons.injEq, and_true] at e1 e2 e3
    subst e1 e2 e3
    exact ⟨⟨⟨a1, l, a2⟩, cap, A, L⟩, rfl, hr⟩
/-- Patterns that came in, and the places of their numbers. -/
structure PtsIn (W : World) (l : List Pt) (cp : Nat → Nat) (AD : Nat → Option Addr) (D : Nat → Option (Nat × Nat)) : Prop where
  ps : ∀ k, k < l.length → RowIn W (AD k) (ix l k).ps.length (cp k) 1 (D k) (fun j => [.v (.int .i64 (ix (ix l k).ps j))])
def cPtV (b : Pt) (cap : Nat) (A : Option Addr) : List SV := [.v (.int .i64 b.stock), .v (.slice A b.ps.length cap), .v (.int .i64 b.times)]
set_option maxRecDepth 100000 in
theorem open_pats (hv : Value.okWide Try.prog W r b0 27 v) (h : DataW.Trod enc Try.prog W base (fun _ => true) held 27 v d p) :
    ∃ (A : Option Addr) (l : List Pt) (cap : Nat) (L : Option (Nat × Nat)) (cp : Nat → Nat) (AD : Nat → Option Addr) (D : Nat → Option (Nat × Nat)), v = .slice A l.length cap ∧ PtsIn W l cp AD D ∧ RowIn W A l.length cap 3 L (fun k => cPtV (ix l k) (cp k) (AD k)) := by
  obtain ⟨A, n, cap, L, G, hv, hQ, hr⟩ := open_row Try.underlying27 Try.cells50 (by omega) hv h (fun cs => ∃ q : PtQ, isPt W q cs) fun fuel cs x hx hl => open_pt hx hl
  obtain ⟨l, rfl, hl⟩ := list_of (α := PtQ) hQ
  have hm : ∀ k, k < l.length → ix (l.map PtQ.x) k = (ix l k).x := fun k hk => by
    rw [ix_eq (by rw [List.length_map]; exact hk), ix_eq hk, List.getElem_map]
  refine ⟨A, l.map PtQ.x, cap, L, fun k => (ix l k).cap, fun k => (ix l k).A, fun k => (ix l k).L, by rw [hv, List.length_map], ⟨fun k hk => ?_⟩, ?_⟩
  · rw [List.length_map] at hk
    rw [hm k hk]
    exact (hl k hk).2
  · rw [List.length_map]
    refine hr.as fun k hk => ?_
    rw [(hl k hk).1, hm k hk]
    rfl
/-- The places of the numbers. -/
def famD (n : Nat) (D : Nat → Option (Nat × Nat)) : Nat → Option (Nat × Nat) := fun i => if i < n then D i else none
theorem obIn_fam {β : Bs} {l : List Pt} {cp : Nat → Nat} {AD : Nat → Option Addr} {D : Nat → Option (Nat × Nat)} (h : PtsIn W l cp AD D) : ObIn W β (rFm l.length (fmP l)) (famD l.length D) := by
  refine ⟨rfl, 1, l.length, _, _, _, rfl, fun i hi => by simp [famD]; omega, fun i hi k hk => ?_⟩
  obtain ⟨_, g, b, h1, h2, h3⟩ := (h.ps i hi).el k hk
  refine ⟨g, b, by simp only [famD, if_pos hi]; exact h1, h2, fun c x hx => ?_⟩
  obtain ⟨u, h4, rfl⟩ := h3 c x hx
  exact ⟨u, h4, by simp only [Ok]⟩
set_option maxRecDepth 100000 in
theorem obIn_pats {Fs : List (Nat → Option (Nat × Nat))} {l : List Pt} {A : Option Addr} {cap : Nat} {L : Option (Nat × Nat)} {cp : Nat → Nat} {AD : Nat → Option Addr} {D : Nat → Option (Nat × Nat)} {j : Nat} (h : PtsIn W l cp AD D) (hr : RowIn W A l.length cap 3 L (fun k => cPtV (ix l k) (cp k) (AD k)))
    (hj : Fs[j]? = some (famD l.length D)) : ObIn W (inBsF Fs) (rPt j l cp) (one0 L) := by
  refine ⟨rfl, 3, 1, _, _, _, rfl, fun i hi => by simp [one0]; omega, fun i hi k hk => ?_⟩
  obtain rfl : i = 0 := by omega
  obtain ⟨_, g, b, h1, h2, h3⟩ := hr.el k hk
  refine ⟨g, b, by simpa [one0] using h1, h2, fun c x hx => ?_⟩
  have hs : Ok (inBsF Fs) (.s j k 0 (ix l k).ps.length (cp k) 1) (.slice (AD k) (ix l k).ps.length (cp k)) := ok_inF (h.ps k hk) hj (by simp only [famD, if_pos hk])
  have key : ∀ (c : Nat) (y : SV) (u : Value), (cPtV (ix l k) (cp k) (AD k))[c]? = some (.v u) → (cPt j l cp k)[c]? = some y → Ok (inBsF Fs) y u := by
    intro c y u e1 e2
    match c with
    | 0 => simp [cPtV, cPt] at e1 e2; subst e1 e2; simp only [Ok]
    | 1 => simp [cPtV, cPt] at e1 e2; subst e1 e2; exact hs
    | 2 => simp [cPtV, cPt] at e1 e2; subst e1 e2; simp only [Ok]
    | c + 3 => simp [cPt] at e2
  have hc : c < 3 := by
    have := (List.getElem?_eq_some_iff.1 hx).1
    simpa [cPt] using this
  obtain ⟨y, hy⟩ : ∃ y, (cPtV (ix l k) (cp k) (AD k))[c]? = some y := ⟨_, List.getElem?_eq_getElem (by simpa [cPtV] using hc)⟩
  obtain ⟨u, h4, rfl⟩ := h3 c y hy
  exact ⟨u, h4, key c x u hy hx⟩
end
end Go.Proofs.Ythlpfjcjfhdmaaa
