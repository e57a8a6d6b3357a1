/- Openers: programs and fractions that come in. -/
import Derived.Test.YtmefgachdnlaoaaTA
import Derived.Test.YtmefgachdnlaoaaIn
import Derived.Deep.Strs
import Derived.Lib.SmallJoins
import Derived.Carry
set_option linter.unusedSimpArgs false
set_option linter.unusedVariables false
namespace Go.Proofs.Ytmefgachdnlaoaa
open Go.ChangeShapes Go.WideShapes Go.ChangeAt Go.RowKit Go.Joins
theorem Try.cells45 : Try.prog.cellsOf 45 = 3 := by kernel_rfl
theorem Try.cells27 : Try.prog.cellsOf 27 = 2 := by kernel_rfl
theorem Try.cells3 : Try.prog.cellsOf 3 = 1 := by kernel_rfl
theorem Try.cells22 : Try.prog.cellsOf 22 = 1 := by kernel_rfl
theorem Try.cells23 : Try.prog.cellsOf 23 = 1 := by kernel_rfl
theorem Try.cells25 : Try.prog.cellsOf 25 = 2 := by kernel_rfl
section
variable {H : Type} {enc : TypeId × Value → H} {W : World} {base b0 : Nat} {held : Bool} {r : Reach} {v : Value} {d : DataW H} {p : List MemPlace}
/-- A list of ints that was read. -/
theorem open_nums {fuel : Nat} {cs : List Value} {x : DataW H × List MemPlace} (hf : DataW.trod enc Try.prog W base (fun _ => true) held fuel 22 cs = some x) :
    ∃ (A : Option Addr) (l : List Int) (cap : Nat) (L : Option (Nat × Nat)), cs = [.slice A l.length cap] ∧ RowIn W A l.length cap 1 L (fun k => [.v (.int .i64 (ix l k))]) := by
  obtain ⟨A, n, cap, L, G, hv, hQ, hr⟩ := open_row0 Try.underlying22 Try.cells3 (by omega) hf (fun cs => ∃ x : Int, cs = [.int .i64 x] ∧ isI64 x) fun fuel cs x hx _ => by
    obtain ⟨x, rfl, _, hw⟩ := DataW.trod_int Try.underlying3 hx
    exact ⟨x, rfl, i64_wf hw⟩
  obtain ⟨l, rfl, hl⟩ := list_of hQ
  exact ⟨A, l, cap, L, hv, hr.as fun k hk => by rw [(hl k hk).1]; rfl⟩
structure RwQ where
  co : List Int
  cap : Nat
  A : Option Addr
  L : Option (Nat × Nat)
  kd : Int
  b : Int
instance : Inhabited RwQ := ⟨⟨[], 0, none, none, 0, 0⟩⟩
def isRw (W : World) (q : RwQ) (cs : List Value) : Prop :=
  cs = [.slice q.A q.co.length q.cap, .int .i64 q.kd, .int .i64 q.b] ∧ RowIn W q.A q.co.length q.cap 1 q.L (fun k => [.v (.int .i64 (ix q.co k))])
set_option maxRecDepth 100000 in
theorem open_rw {fuel : Nat} {cs : List Value} {x : DataW H × List MemPlace} (hf : DataW.trod enc Try.prog W base (fun _ => true) held fuel 45 cs = some x) (hl : cs.length = 3) : ∃ (q : RwQ), isRw W q cs := by
  obtain ⟨xs, n, _, _, _, hx, hfs⟩ := DataW.trod_struct Try.underlying45 hf
  match cs, hl, xs, hx with
  | [u0, u1, u2], _, [y0, y1, y2], _ =>
    have i0 : DataW.trod enc Try.prog W base (fun _ => true) held n 22 [u0] = some y0 := by
      have h := hfs 0 _ rfl
      simp only [List.getElem_toArray, List.getElem_cons_zero, List.getElem_cons_succ] at h
      rw [Try.cells22] at h
      exact h
    have i1 : DataW.trod enc Try.prog W base (fun _ => true) held n 3 [u1] = some y1 := by
      have h := hfs 1 _ rfl
      simp only [List.getElem_toArray, List.getElem_cons_zero, List.getElem_cons_succ] at h
      rw [Try.cells3] at h
      exact h
    have i2 : DataW.trod enc Try.prog W base (fun _ => true) held n 3 [u2] = some y2 := by
      have h := hfs 2 _ rfl
      simp only [List.getElem_toArray, List.getElem_cons_zero, List.getElem_cons_succ] at h
      rw [Try.cells3] at h
      exact h
    obtain ⟨a1, e1, _, _⟩ := DataW.trod_int Try.underlying3 i1
    obtain ⟨a2, e2, _, _⟩ := DataW.trod_int Try.underlying3 i2
    obtain ⟨A, l, cap, L, e3, hr⟩ := open_nums i0
    simp only [List.cons.injEq, and_true] at e1 e2 e3
    subst e1 e2 e3
    exact ⟨⟨l, cap, A, L, a1, a2⟩, rfl, hr⟩
theorem open_rws {fuel : Nat} {cs : List Value} {x : DataW H × List MemPlace} (hf : DataW.trod enc Try.prog W base (fun _ => true) held fuel 23 cs = some x) :
    ∃ (A : Option Addr) (l : List RwQ) (cap : Nat) (L : Option (Nat × Nat)), cs = [.slice A l.length cap] ∧ (∀ k, k < l.length → RowIn W (ix l k).A (ix l k).co.length (ix l k).cap 1 (ix l k).L (fun j => [.v (.int .i64 (ix (ix l k).co j))])) ∧
      RowIn W A l.length cap 3 L (fun k => [.v (.slice (ix l k).A (ix l k).co.length (ix l k).cap), .v (.int .i64 (ix l k).kd), .v (.int .i64 (ix l k).b)]) := by
  obtain ⟨A, n, cap, L, G, hv, hQ, hr⟩ := open_row0 Try.underlying23 Try.cells45 (by omega) hf (fun cs => ∃ q : RwQ, isRw W q cs) fun fuel cs x hx hl => open_rw hx hl
  obtain ⟨l, rfl, hl⟩ := list_of (α := RwQ) hQ
  exact ⟨A, l, cap, L, hv, fun k hk => (hl k hk).2, hr.as fun k hk => by rw [(hl k hk).1]; rfl⟩
/-- A program that came in, and its places. -/
structure PrIn (W : World) (p : Pm) (A0 A1 : Option Addr) (L0 L1 : Option (Nat × Nat)) (AD : Nat → Option Addr) (DD : Nat → Option (Nat × Nat)) : Prop where
  co : RowIn W A0 p.n p.nc 1 L0 (fun k => [.v (.int .i64 (p.co k))])
  rw : RowIn W A1 p.m p.mc 3 L1 (fun t => [.v (.slice (AD t) (p.ln t) (p.cp t)), .v (.int .i64 (p.kd t)), .v (.int .i64 (p.b t))])
  cf : ∀ t, t < p.m → RowIn W (AD t) (p.ln t) (p.cp t) 1 (DD t) (fun k => [.v (.int .i64 (p.a t k))])
  fz : p.fz = p.m
set_option maxRecDepth 100000 in
theorem open_prog (hv : Value.okWide Try.prog W r b0 25 v) (h : DataW.Trod enc Try.prog W base (fun _ => true) held 25 v d p) :
    ∃ (q : Pm) (A0 A1 : Option Addr) (L0 L1 : Option (Nat × Nat)) (AD : Nat → Option Addr) (DD : Nat → Option (Nat × Nat)), v = .agg #[.slice A0 q.n q.nc, .slice A1 q.m q.mc] ∧ PrIn W q A0 A1 L0 L1 AD DD := by
  obtain ⟨fuel, hf⟩ := h
  obtain ⟨xs0, rfl, hsz⟩ := okWide_struct Try.underlying25 hv
  rw [Try.cells25] at hsz
  have hf : DataW.trod enc Try.prog W base (fun _ => true) held fuel 25 xs0.toList = some (d, p) := hf
  have hl : xs0.toList.length = 2 := by simpa using hsz
  obtain ⟨xs, n, _, _, _, hx, hfs⟩ := DataW.trod_struct Try.underlying25 hf
  obtain ⟨l0⟩ := xs0
  simp only at hl hf hfs
  match l0, hl, xs, hx with
  | [u0, u1], _, [y0, y1], _ =>
    have i0 : DataW.trod enc Try.prog W base (fun _ => true) held n 22 [u0] = some y0 := by
      have h := hfs 0 _ rfl
      simp only [List.getElem_toArray, List.getElem_cons_zero, List.getElem_cons_succ] at h
      rw [Try.cells22] at h
      exact h
    have i1 : DataW.trod enc Try.prog W base (fun _ => true) held n 23 [u1] = some y1 := by
      have h := hfs 1 _ rfl
      simp only [List.getElem_toArray, List.getElem_cons_zero, List.getElem_cons_succ] at h
      rw [Try.cells23] at h
      exact h
    obtain ⟨A0, l, c0, L0, e0, hr0⟩ := open_nums i0
    obtain ⟨A1, rws, c1, L1, e1, hcf, hr1⟩ := open_rws i1
    simp only [List.cons.injEq, and_true] at e0 e1
    subst e0 e1
    exact ⟨⟨l.length, c0, ix l, rws.length, c1, fun t k => ix (ix rws t).co k, fun t => (ix rws t).co.length, fun t => (ix rws t).cap, fun t => (ix rws t).kd, fun t => (ix rws t).b, rws.length, Nat.le_refl _⟩, A0, A1, L0, L1, fun t => (ix rws t).A, fun t => (ix rws t).L, rfl, hr0, hr1, hcf, rfl⟩
/-- The places of the rows' numbers. -/
def famD (n : Nat) (D : Nat → Option (Nat × Nat)) : Nat → Option (Nat × Nat) := fun i => if i < n then D i else none
theorem obIn_cf {β : Bs} {q : Pm} {A0 A1 : Option Addr} {L0 L1 : Option (Nat × Nat)} {AD : Nat → Option Addr} {DD : Nat → Option (Nat × Nat)} (h : PrIn W q A0 A1 L0 L1 AD DD) : ObIn W β (rAf q) (famD q.m DD) := by
  refine ⟨rfl, 1, q.fz, _, _, _, rfl, fun i hi => by rw [h.fz] at hi; simp [famD]; omega, fun i hi k hk => ?_⟩
  rw [h.fz] at hi
  obtain ⟨_, g, b, h1, h2, h3⟩ := (h.cf i hi).el k hk
  refine ⟨g, b, by simp only [famD, if_pos hi]; exact h1, h2, fun c x hx => ?_⟩
  obtain ⟨u, h4, rfl⟩ := h3 c x hx
  exact ⟨u, h4, by simp only [Ok]⟩
set_option maxRecDepth 100000 in
theorem obIn_rw {Fs : List (Nat → Option (Nat × Nat))} {q : Pm} {A0 A1 : Option Addr} {L0 L1 : Option (Nat × Nat)} {AD : Nat → Option Addr} {DD : Nat → Option (Nat × Nat)} (h : PrIn W q A0 A1 L0 L1 AD DD) (hj : Fs[2]? = some (famD q.m DD)) : ObIn W (inBsF Fs) (rRw q) (one0 L1) := by
  refine ⟨rfl, 3, 1, _, _, _, rfl, fun i hi => by simp [one0]; omega, fun i hi k hk => ?_⟩
  obtain rfl : i = 0 := by omega
  obtain ⟨_, g, b, h1, h2, h3⟩ := h.rw.el k hk
  refine ⟨g, b, by simpa [one0] using h1, h2, fun c x hx => ?_⟩
  have hs : Ok (inBsF Fs) (.s 2 k 0 (q.ln k) (q.cp k) 1) (.slice (AD k) (q.ln k) (q.cp k)) := ok_inF (h.cf k hk) hj (by simp only [famD, if_pos hk])
  have hc : c < 3 := (List.getElem?_eq_some_iff.1 hx).1
  match c, hc with
  | 0, _ =>
    obtain ⟨u, h4, h5⟩ := h3 0 _ rfl
    simp at hx
    subst hx
    cases h5
    exact ⟨_, h4, hs⟩
  | 1, _ =>
    obtain ⟨u, h4, h5⟩ := h3 1 _ rfl
    simp at hx
    subst hx
    cases h5
    exact ⟨_, h4, by simp only [Ok]⟩
  | 2, _ =>
    obtain ⟨u, h4, h5⟩ := h3 2 _ rfl
    simp at hx
    subst hx
    cases h5
    exact ⟨_, h4, by simp only [Ok]⟩
/-- The places of a program. -/
def fsP (q : Pm) (L0 L1 : Option (Nat × Nat)) (DD : Nat → Option (Nat × Nat)) : List (Nat → Option (Nat × Nat)) := [one0 L0, one0 L1, famD q.m DD]
theorem allIn_app {β : Bs} : ∀ {H H' : List Ob} {Fs Fs' : List (Nat → Option (Nat × Nat))}, AllIn W β H Fs → AllIn W β H' Fs' → AllIn W β (H ++ H') (Fs ++ Fs')
  | [], _, [], _, _, h => h
  | o :: H, _, F :: Fs, _, h, h' => ⟨h.1, allIn_app h.2 h'⟩
  | [], _, _ :: _, _, h, _ => h.elim
  | _ :: _, _, [], _, h, _ => h.elim
theorem allIn_prog {Fs : List (Nat → Option (Nat × Nat))} {q : Pm} {A0 A1 : Option Addr} {L0 L1 : Option (Nat × Nat)} {AD : Nat → Option Addr} {DD : Nat → Option (Nat × Nat)} (h : PrIn W q A0 A1 L0 L1 AD DD) : AllIn W (inBsF (fsP q L0 L1 DD ++ Fs)) (obP q) (fsP q L0 L1 DD) :=
  ⟨obIn_row h.co, obIn_rw h rfl, obIn_cf h, trivial⟩
theorem ok_prog {Fs : List (Nat → Option (Nat × Nat))} {q : Pm} {A0 A1 : Option Addr} {L0 L1 : Option (Nat × Nat)} {AD : Nat → Option Addr} {DD : Nat → Option (Nat × Nat)} (h : PrIn W q A0 A1 L0 L1 AD DD) : Ok (inBsF (fsP q L0 L1 DD ++ Fs)) (svP q) (.agg #[.slice A0 q.n q.nc, .slice A1 q.m q.mc]) := by
  have h0 : Ok (inBsF (fsP q L0 L1 DD ++ Fs)) (.s 0 0 0 q.n q.nc 1) (.slice A0 q.n q.nc) := ok_inF h.co rfl (by simp [one0])
  have h1 : Ok (inBsF (fsP q L0 L1 DD ++ Fs)) (.s 1 0 0 q.m q.mc 3) (.slice A1 q.m q.mc) := ok_inF h.rw rfl (by simp [one0])
  simp only [svP, Ok]
  refine ⟨_, rfl, ?_⟩
  simp only [OkL]
  exact ⟨_, _, rfl, h0, _, _, rfl, h1, rfl⟩
set_option maxRecDepth 100000 in
theorem open_fracs (hv : Value.okWide Try.prog W r b0 28 v) (h : DataW.Trod enc Try.prog W base (fun _ => true) held 28 v d p) :
    ∃ (A : Option Addr) (l : List (Int × Int)) (cap : Nat) (L : Option (Nat × Nat)), v = .slice A l.length cap ∧ (∀ x ∈ l, isI64 x.1 ∧ isI64 x.2) ∧ RowIn W A l.length cap 2 L (fun k => [.v (.int .i64 (ix l k).1), .v (.int .i64 (ix l k).2)]) :=
  open_pairs Try.underlying28 Try.underlying27 Try.cells27 rfl rfl Try.underlying3 Try.underlying3 Try.cells3 Try.cells3 hv h
end
end Go.Proofs.Ytmefgachdnlaoaa
