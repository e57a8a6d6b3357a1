/- From a law's arguments to the executor's objects. No program in sight. -/
import Derived.Test.YtolioflblegneaaGreatSx
import Derived.Test.YtolioflblegneaaGreatLaw
import Derived.Deep.Slices
set_option maxRecDepth 100000
set_option linter.unusedSimpArgs false
set_option linter.unusedVariables false
namespace Go.Proofs.YtolioflblegneaaGreat
open Go.ChangeShapes Go.WideShapes Go.ChangeAt Go.RowKit
section
variable {P : Program}
theorem okL_nil_mk {β : Bs} : OkL β [] [] := by simp only [OkL]
theorem okL_cons_mk {β : Bs} {x : SV} {l : List SV} {u : Value} {us : List Value} (h : Ok β x u) (hs : OkL β l us) : OkL β (x :: l) (u :: us) := by
  simp only [OkL]
  exact ⟨u, us, rfl, h, hs⟩
theorem ok_v_mk {β : Bs} {x : Value} : Ok β (.v x) x := by simp only [Ok]
/-- A law that returned true, whatever it read: what was there before is as it was. -/
theorem run_of_sp {f : FuncId} {args : List SV} {H : List Ob} {K : SV → List Ob → Prop} (h : Sp P f args H K) (hro : roB H = true) (hK : ∀ r H', K r H' → r = .v (.bool true)) {β : Bs} {W : World} {vals : List Value}
    (hI : Inv β H W) (ha : OkL β args vals) : Calls P f vals.toArray W fun e W' => e = .returned (.bool true) ∧ Below W.heap.size W W' := by
  refine (h.2 β W vals hI ha).mono fun e W' ⟨r, v, β', H', h1, h2, h3, h4, h5⟩ => ?_
  have := hK _ _ h2
  subst this
  have hv : v = .bool true := ok_v h3
  subst hv
  refine ⟨h1, h5.os, h5.tape, h5.output, h5.size, fun k hk => h5.block k hk ?_⟩
  rintro ⟨j, i, o, b, ho, hown, _⟩
  exact roB_own hro j o i ho hown
/-- The places of the rows that came in. -/
def inBs (L : List (Option (Nat × Nat))) : Bs := fun j i => if i = 0 then (L[j]?).bind id else none
theorem inBs_at {L : List (Option (Nat × Nat))} {j : Nat} {x : Option (Nat × Nat)} (h : L[j]? = some x) : inBs L j 0 = x := by
  unfold inBs; rw [if_pos rfl, h]; rfl
/-- Where a slice lies, and what its elements say. -/
structure RowIn (W : World) (A : Option Addr) (n cap sz : Nat) (L : Option (Nat × Nat)) (f : Nat → List SV) : Prop where
  le : n ≤ cap
  max : cap ≤ 9223372036854775807
  at_ : 0 < cap → ∃ g b, L = some (g, b) ∧ A = some ⟨g, b, none⟩
  el : ∀ k, k < n → (f k).length = sz ∧ ∃ g b, L = some (g, b) ∧ g < W.heap.size ∧ ∀ c x, (f k)[c]? = some x → ∃ u, W.cell? ⟨g, b + (k * sz + c), none⟩ = some u ∧ x = .v u
theorem RowIn.n_le {W : World} {A : Option Addr} {n cap sz : Nat} {L : Option (Nat × Nat)} {f : Nat → List SV} (h : RowIn W A n cap sz L f) : n ≤ 9223372036854775807 := Nat.le_trans h.le h.max
def RowsIn (W : World) : List Ob → List (Option (Nat × Nat)) → Prop
  | [], [] => True
  | o :: H, x :: L => (o.ro = true ∧ ∃ sz len cap f, o.ct = .row sz 1 len cap f ∧ ∀ k, k < len 0 → ∃ g b, x = some (g, b) ∧ g < W.heap.size ∧ ∀ c y, (f 0 k)[c]? = some y → ∃ u, W.cell? ⟨g, b + (k * sz + c), none⟩ = some u ∧ y = .v u) ∧ RowsIn W H L
  | _, _ => False
theorem rowsIn_at {W : World} : ∀ {H : List Ob} {L : List (Option (Nat × Nat))}, RowsIn W H L → H.length = L.length ∧ ∀ (j : Nat) (o : Ob), H[j]? = some o → ∃ x : Option (Nat × Nat), L[j]? = some x ∧ o.ro = true ∧ ∃ sz len cap f, o.ct = .row sz 1 len cap f ∧ ∀ k, k < len 0 → ∃ g b, x = some (g, b) ∧ g < W.heap.size ∧ ∀ c y, (f 0 k)[c]? = some y → ∃ u, W.cell? ⟨g, b + (k * sz + c), none⟩ = some u ∧ y = .v u
  | [], [], _ => ⟨rfl, fun j o h => by simp at h⟩
  | o :: H, x :: L, h => by
    obtain ⟨h1, h2⟩ := h
    obtain ⟨q1, q2⟩ := rowsIn_at h2
    refine ⟨by simp [q1], fun j o' ho => ?_⟩
    cases j with
    | zero =>
      obtain rfl : o = o' := by simpa using ho
      exact ⟨x, by simp, h1⟩
    | succ j => simpa using q2 j o' (by simpa using ho)
  | [], _ :: _, h => h.elim
  | _ :: _, [], h => h.elim
/-- The laid variables, as the call begins. -/
def GlobIn (W : World) : Prop := ∀ x ∈ globs, x.1 < W.heap.size ∧ 0 < x.2.length ∧ ∀ k v, x.2[k]? = some v → W.cell? ⟨x.1, k, none⟩ = some v
theorem ro_notown {o : Ob} {i : Nat} (h : o.ro = true) : ¬ o.own i := fun ho => by rw [own_ro ho] at h; cases h
theorem inv_glob {β : Bs} {H : List Ob} {W : World} (h : Inv0 β H W) (hr : ∀ (j : Nat) (o : Ob), H[j]? = some o → o.ro = true) (hg : GlobIn W) : Inv β H W :=
  ⟨h, fun x hx => let ⟨a, b, c⟩ := hg x hx; ⟨a, b, c, fun ⟨j, _, o, _, h1, h2, _⟩ => ro_notown (hr j o h1) h2⟩⟩
theorem inv_in {W : World} {H : List Ob} {L : List (Option (Nat × Nat))} (h : RowsIn W H L) (hg : GlobIn W := by intro x hx; cases hx) : Inv (inBs L) H W := by
  refine inv_glob ?_ (fun j o ho => by obtain ⟨_, _, hr, _⟩ := (rowsIn_at h).2 j o ho; exact hr) hg
  obtain ⟨hl, h⟩ := rowsIn_at h
  refine ⟨fun j o ho => ?_, fun j i hj => ?_, fun j i j' i' o o' g b b' ho _ hown _ _ _ => ?_, fun j o i ho hov => ?_⟩
  · obtain ⟨x, hx, hr, sz, len, cap, f, hc, hk⟩ := h j o ho
    obtain ⟨ty, ro, ct⟩ := o
    simp only at hr hc
    subst hr hc
    intro i hi k hkl
    obtain rfl : i = 0 := by omega
    obtain ⟨g, b, rfl, h1, h2⟩ := hk k hkl
    refine ⟨g, b, inBs_at hx, h1, fun c y hy => ?_⟩
    obtain ⟨u, h3, rfl⟩ := h2 c y hy
    exact ⟨u, h3, by simp only [Ok]⟩
  · unfold inBs
    rw [List.getElem?_eq_none (by omega)]
    split <;> rfl
  · obtain ⟨x, hx, hr, sz, len, cap, f, hc, hk⟩ := h j o ho
    obtain ⟨ty, ro, ct⟩ := o
    simp only at hr hc
    subst hr hc
    have := hown.2
    simp at this
  · obtain ⟨x, hx, hr, sz, len, cap, f, hc, hk⟩ := h j o ho
    obtain ⟨ty, ro, ct⟩ := o
    simp only at hr hc
    subst hr hc
    have hov : 1 ≤ i := hov
    unfold inBs
    rw [if_neg (by omega)]
theorem rowsIn_cons {W : World} {H : List Ob} {L : List (Option (Nat × Nat))} {A : Option Addr} {n cap cap' sz ty : Nat} {x : Option (Nat × Nat)} {f : Nat → List SV} (h : RowIn W A n cap sz x f) (hs : RowsIn W H L) :
    RowsIn W (⟨ty, true, .row sz 1 (fun _ => n) (fun _ => cap') (fun _ k => f k)⟩ :: H) (x :: L) :=
  ⟨⟨rfl, sz, _, _, _, rfl, fun k hk => (h.el k hk).2⟩, hs⟩
theorem rowsIn_nil {W : World} : RowsIn W [] [] := trivial
theorem ok_in {W : World} {A : Option Addr} {n cap sz j : Nat} {x : Option (Nat × Nat)} {f : Nat → List SV} {L : List (Option (Nat × Nat))} (h : RowIn W A n cap sz x f) (hj : L[j]? = some x) : Ok (inBs L) (.s j 0 0 n cap sz) (.slice A n cap) := by
  simp only [Ok]
  refine ⟨A, rfl, h.le, fun hc => ?_⟩
  obtain ⟨g, b, rfl, rfl⟩ := h.at_ hc
  exact ⟨g, b, inBs_at hj, by simp⟩
structure ObIn (W : World) (β : Bs) (o : Ob) (F : Nat → Option (Nat × Nat)) : Prop where
  ro : o.ro = true
  row : ∃ sz N len cap f, o.ct = .row sz N len cap f ∧ (∀ i, N ≤ i → F i = none) ∧ ∀ i, i < N → ∀ k, k < len i → ∃ g b, F i = some (g, b) ∧ g < W.heap.size ∧ ∀ c x, (f i k)[c]? = some x → ∃ u, W.cell? ⟨g, b + (k * sz + c), none⟩ = some u ∧ Ok β x u
variable {H : Type} {enc : TypeId × Value → H} {W : World} {base b0 : Nat} {held : Bool} {r : Reach} {v : Value} {d : DataW H} {p : List MemPlace}
/-- A slice that was read, wherever it lay. -/
theorem open_row0 {t e : TypeId} {sz : Nat} {fuel : Nat} {cs : List Value} {x : DataW H × List MemPlace} (ht : P.underlying t = some (.slice e)) (hc : P.cellsOf e = sz) (hz : 0 < sz) (hf : DataW.trod enc P W base (fun _ => true) held fuel t cs = some x)
    (Q : List Value → Prop) (hQ : ∀ fuel cs x, DataW.trod enc P W base (fun _ => true) held fuel e cs = some x → cs.length = sz → Q cs) :
    ∃ (A : Option Addr) (n cap : Nat) (L : Option (Nat × Nat)) (G : Nat → List Value), cs = [.slice A n cap] ∧ (∀ k, k < n → Q (G k)) ∧ RowIn W A n cap sz L (fun k => (G k).map SV.v) := by
  rcases Go.Deep.open_slice ht hf with ⟨e, _⟩ | ⟨a, len, cap, m, n, D, Pl, e, _, hlc, hcm, hm, _, hel⟩
  · exact ⟨none, 0, 0, none, fun _ => [], e, fun k hk => absurd hk (Nat.not_lt_zero _), Nat.le_refl _, by simp, fun h => absurd h (Nat.lt_irrefl _), fun k hk => absurd hk (Nat.not_lt_zero _)⟩
  · have hmc : m = cap := by rw [hm]; simp
    subst hmc
    have hs : 0 < m → a.spot = none := fun h0 => by
      obtain ⟨cs, hcs, _⟩ := hel 0 h0
      rw [hc] at hcs
      obtain ⟨_, hl, hat⟩ := World.cells?_some hcs
      have h1 := hat 0 hz
      rw [List.getElem?_eq_getElem (by omega)] at h1
      simpa [Addr.add] using World.cell?_spot h1
    have each : ∀ k, ∃ cs : List Value, k < m → W.cells? base (a.add (k * sz)) sz = some cs ∧ Q cs := fun k => by
      by_cases hk : k < m
      · obtain ⟨cs, hcs, ht'⟩ := hel k hk
        rw [hc] at hcs
        exact ⟨cs, fun _ => ⟨hcs, hQ _ _ _ ht' (World.cells?_some hcs).2.1⟩⟩
      · exact ⟨[], fun h => absurd h hk⟩
    refine ⟨some a, len, m, some (a.block, a.off), fun k => (each k).choose, e, fun k hk => ((each k).choose_spec (by omega)).2, hlc, hcm, fun h0 => ⟨_, _, rfl, ?_⟩, fun k hk => ?_⟩
    · have := hs h0
      obtain ⟨ab, ao, asp⟩ := a
      simp only at this
      rw [this]
    · have hs := hs (by omega)
      obtain ⟨ab, ao, asp⟩ := a
      simp only at hs
      subst hs
      have hck := ((each k).choose_spec (by omega)).1
      obtain ⟨_, hl, hat⟩ := World.cells?_some hck
      have ad : ∀ o j, (⟨ab, o, none⟩ : Addr).add j = ⟨ab, o + j, none⟩ := fun o j => by unfold Addr.add; split <;> simp [*]
      show ((each k).choose.map SV.v).length = sz ∧ ∃ g b, (some (ab, ao) : Option (Nat × Nat)) = some (g, b) ∧ g < W.heap.size ∧ ∀ c x, ((each k).choose.map SV.v)[c]? = some x → ∃ u, W.cell? ⟨g, b + (k * sz + c), none⟩ = some u ∧ x = .v u
      generalize (each k).choose = cs at *
      refine ⟨by rw [List.length_map]; exact hl, ab, ao, rfl, ?_, fun c x hx => ?_⟩
      · have h1 := hat 0 hz
        rw [List.getElem?_eq_getElem (by omega), ad, ad] at h1
        rcases Nat.lt_or_ge ab W.heap.size with h | h
        · exact h
        · rw [World.cell?, Array.getElem?_eq_none h] at h1
          simp at h1
      · rw [List.getElem?_map] at hx
        cases hu : cs[c]? with
        | none => rw [hu] at hx; simp at hx
        | some u =>
          rw [hu] at hx
          obtain rfl : SV.v u = x := by simpa using hx
          have hcl : c < sz := by
            rw [← hl]
            exact (List.getElem?_eq_some_iff.1 hu).1
          have h1 := hat c hcl
          rw [ad, ad] at h1
          exact ⟨u, by rw [← hu, ← h1]; simp [Nat.add_assoc], rfl⟩
/-- A slice that came in. -/
theorem open_row {t e : TypeId} {sz : Nat} (ht : P.underlying t = some (.slice e)) (hc : P.cellsOf e = sz) (hz : 0 < sz) (hv : Value.okWide P W r b0 t v) (h : DataW.Trod enc P W base (fun _ => true) held t v d p)
    (Q : List Value → Prop) (hQ : ∀ fuel cs x, DataW.trod enc P W base (fun _ => true) held fuel e cs = some x → cs.length = sz → Q cs) :
    ∃ (A : Option Addr) (n cap : Nat) (L : Option (Nat × Nat)) (G : Nat → List Value), v = .slice A n cap ∧ (∀ k, k < n → Q (G k)) ∧ RowIn W A n cap sz L (fun k => (G k).map SV.v) := by
  obtain ⟨fuel, hf⟩ := h
  obtain ⟨A0, n0, m0, rfl⟩ := okWide_slice ht hv
  obtain ⟨A, n, cap, L, G, h1, h2, h3⟩ := open_row0 ht hc hz hf Q hQ
  exact ⟨A, n, cap, L, G, by simpa [Value.cells] using h1, h2, h3⟩
theorem list_of {α : Type} [Inhabited α] {n : Nat} {Q : Nat → α → Prop} (h : ∀ k, k < n → ∃ a, Q k a) : ∃ l : List α, l.length = n ∧ ∀ k, k < l.length → Q k (ix l k) := by
  induction n with
  | zero => exact ⟨[], rfl, fun k hk => absurd hk (Nat.not_lt_zero _)⟩
  | succ n ih =>
    obtain ⟨l, hl, hq⟩ := ih fun k hk => h k (by omega)
    obtain ⟨a, ha⟩ := h n (by omega)
    refine ⟨l ++ [a], by simp [hl], fun k hk => ?_⟩
    by_cases hlt : k < l.length
    · have := hq k hlt
      rw [ix_eq hlt] at this
      rw [ix_eq hk, List.getElem_append_left hlt]
      exact this
    · obtain rfl : k = l.length := by simp at hk; omega
      rw [ix_eq hk]
      simpa [hl] using ha
theorem RowIn.as {A : Option Addr} {n cap sz : Nat} {L : Option (Nat × Nat)} {f g : Nat → List SV} (h : RowIn W A n cap sz L f) (e : ∀ k, k < n → f k = g k) : RowIn W A n cap sz L g :=
  ⟨h.le, h.max, h.at_, fun k hk => by rw [← e k hk]; exact h.el k hk⟩
def isI64 (x : Int) : Prop := -9223372036854775808 ≤ x ∧ x ≤ 9223372036854775807
theorem i64_wf {x : Int} (h : (Lit.int .i64 x).wf = true) : isI64 x := by
  have h1 : IntKind.min .i64 = -9223372036854775808 := by decide
  have h2 : IntKind.max .i64 = 9223372036854775807 := by decide
  simp only [Lit.wf, h1, h2, Bool.and_eq_true, decide_eq_true_eq] at h
  exact h
/-- An int that came in. -/
theorem open_int {t : TypeId} {k : IntKind} (ht : P.underlying t = some (.int k)) (hv : Value.okWide P W r b0 t v) (h : DataW.Trod enc P W base (fun _ => true) held t v d p) : ∃ x : Int, v = .int k x ∧ k.min ≤ x ∧ x ≤ k.max := by
  obtain ⟨fuel, hf⟩ := h
  obtain ⟨x, rfl⟩ := okWide_int ht hv
  obtain ⟨y, e, _, hw⟩ := DataW.trod_int ht hf
  obtain rfl : x = y := by simpa [Value.cells] using e
  exact ⟨x, rfl, by simpa [Lit.wf] using hw⟩
theorem open_i64 {t : TypeId} (ht : P.underlying t = some (.int .i64)) (hv : Value.okWide P W r b0 t v) (h : DataW.Trod enc P W base (fun _ => true) held t v d p) : ∃ x : Int, v = .int .i64 x ∧ isI64 x := by
  obtain ⟨x, rfl, h1, h2⟩ := open_int ht hv h
  exact ⟨x, rfl, i64_wf (by simp only [Lit.wf, Bool.and_eq_true, decide_eq_true_eq]; exact ⟨h1, h2⟩)⟩
/-- A list of ints that came in. -/
theorem open_ints {t e : TypeId} (ht : P.underlying t = some (.slice e)) (he : P.underlying e = some (.int .i64)) (hc : P.cellsOf e = 1) (hv : Value.okWide P W r b0 t v) (h : DataW.Trod enc P W base (fun _ => true) held t v d p) :
    ∃ (A : Option Addr) (l : List Int) (cap : Nat) (L : Option (Nat × Nat)), v = .slice A l.length cap ∧ (∀ x ∈ l, isI64 x) ∧ RowIn W A l.length cap 1 L (fun k => [.v (.int .i64 (ix l k))]) := by
  obtain ⟨A, n, cap, L, G, hv, hQ, hr⟩ := open_row ht hc (by omega) hv h (fun cs => ∃ x : Int, cs = [.int .i64 x] ∧ isI64 x) fun fuel cs x hx _ => by
    obtain ⟨x, rfl, _, hw⟩ := DataW.trod_int he hx
    exact ⟨x, rfl, i64_wf hw⟩
  obtain ⟨l, rfl, hl⟩ := list_of hQ
  refine ⟨A, l, cap, L, hv, fun x hx => ?_, hr.as fun k hk => by rw [(hl k hk).1]; rfl⟩
  obtain ⟨k, hk, rfl⟩ := List.getElem_of_mem hx
  have := (hl k hk).2
  rwa [ix_eq hk] at this
/-- A list of pairs of ints that came in. -/
theorem open_pairs {t e : TypeId} {f0 f1 : Field} (ht : P.underlying t = some (.slice e)) (he : P.underlying e = some (.struct #[f0, f1])) (hc : P.cellsOf e = 2) (o0 : f0.offset = 0) (o1 : f1.offset = 1)
    (h0 : P.underlying f0.type = some (.int .i64)) (h1 : P.underlying f1.type = some (.int .i64)) (c0 : P.cellsOf f0.type = 1) (c1 : P.cellsOf f1.type = 1) (hv : Value.okWide P W r b0 t v) (h : DataW.Trod enc P W base (fun _ => true) held t v d p) :
    ∃ (A : Option Addr) (l : List (Int × Int)) (cap : Nat) (L : Option (Nat × Nat)), v = .slice A l.length cap ∧ (∀ x ∈ l, isI64 x.1 ∧ isI64 x.2) ∧ RowIn W A l.length cap 2 L (fun k => [.v (.int .i64 (ix l k).1), .v (.int .i64 (ix l k).2)]) := by
  obtain ⟨A, n, cap, L, G, hv, hQ, hr⟩ := open_row ht hc (by omega) hv h (fun cs => ∃ x : Int × Int, cs = [.int .i64 x.1, .int .i64 x.2] ∧ isI64 x.1 ∧ isI64 x.2) fun fuel cs x hx hl => by
    obtain ⟨_, _, m, _, _, i0, i1⟩ := trod_struct2 he hx
    rw [c0, o0] at i0
    rw [c1, o1] at i1
    obtain ⟨a, e0, _, w0⟩ := DataW.trod_int h0 i0
    obtain ⟨b, e1, _, w1⟩ := DataW.trod_int h1 i1
    match cs, hl with
    | [u, v], _ =>
      simp at e0 e1
      subst e0 e1
      exact ⟨(a, b), rfl, i64_wf w0, i64_wf w1⟩
  obtain ⟨l, rfl, hl⟩ := list_of hQ
  refine ⟨A, l, cap, L, hv, fun x hx => ?_, hr.as fun k hk => by rw [(hl k hk).1]; rfl⟩
  obtain ⟨k, hk, rfl⟩ := List.getElem_of_mem hx
  have := (hl k hk).2
  rwa [ix_eq hk] at this
end

end Go.Proofs.YtolioflblegneaaGreat
