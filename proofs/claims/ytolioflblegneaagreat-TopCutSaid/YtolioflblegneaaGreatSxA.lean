/- A symbolic executor for Go code, first part: values, objects, the rules of operations. No program in sight. -/
import Derived.MapKept
import Derived.WalkKit
import Derived.Below
import Derived.Laws.AppendOwn
import Derived.Lib.Hide
import Derived.Laws.StructEq
import Derived.Laws.Rows
import Derived.Laws.Tables
import Derived.Laws.MakeOwn
import Derived.Laws.CopyRow
import Derived.Deep.AppendLies
import Derived.Lib.AppendZeros
import Derived.Laws.Strings
import Derived.Laws.BytesArg
set_option maxRecDepth 100000
set_option linter.unusedSimpArgs false
set_option linter.unusedVariables false
namespace Go.Proofs.YtolioflblegneaaGreat
open Go.RowKit
/- ===== symbolic values ===== -/
/-- A value as the executor sees it: addresses name objects, and members of objects. -/
inductive SV where
  | v (x : Value)
  | p (j i c : Nat)
  | e (j i k c sz : Nat)
  | s (j i o len cap sz : Nat)
  | f (fn : Fn) (first caps : List SV)
  | a (l : List SV)
  | t (l : List SV)
  | m (j : Nat)
  | und
  | junk
abbrev Bs := Nat → Nat → Option (Nat × Nat)
mutual
/-- What a symbolic value stands for. -/
def Ok (β : Bs) : SV → Value → Prop
  | .v x, u => u = x
  | .p j i c, u => ∃ g b, β j i = some (g, b) ∧ u = .pointer (some ⟨g, b + c, none⟩)
  | .e j i k c sz, u => ∃ g b, β j i = some (g, b) ∧ u = .pointer (some ⟨g, b + (k * sz + c), none⟩)
  | .s j i o len cap sz, u => ∃ A, u = .slice A len cap ∧ len ≤ cap ∧ (0 < cap → ∃ g b, β j i = some (g, b) ∧ A = some ⟨g, b + o * sz, none⟩)
  | .f fn fs cs, u => ∃ xs ys, u = .func fn xs ys ∧ OkL β fs xs.toList ∧ OkL β cs ys.toList
  | .a l, u => ∃ xs, u = .agg xs ∧ OkL β l xs.toList
  | .t l, u => ∃ xs, u = .tuple xs ∧ OkL β l xs.toList
  | .m j, u => ∃ g b, β j 0 = some (g, b) ∧ u = .map (some g)
  | .und, u => u = undef
  | .junk, _ => True
def OkL (β : Bs) : List SV → List Value → Prop
  | [], us => us = []
  | x :: l, us => ∃ u us', us = u :: us' ∧ Ok β x u ∧ OkL β l us'
end
def BLe (β β' : Bs) : Prop := ∀ j i x, β j i = some x → β' j i = some x
theorem BLe.refl (β : Bs) : BLe β β := fun _ _ _ h => h
theorem BLe.trans {a b c : Bs} (h1 : BLe a b) (h2 : BLe b c) : BLe a c := fun j i x h => h2 j i x (h1 j i x h)
mutual
theorem Ok.mono {β β' : Bs} (hb : BLe β β') : ∀ (x : SV) (u : Value), Ok β x u → Ok β' x u
  | .v _, _, h => h
  | .p j i c, u, h => by
    obtain ⟨g, b, h1, h2⟩ := (by simpa only [Ok] using h : ∃ g b, β j i = some (g, b) ∧ u = .pointer (some ⟨g, b + c, none⟩))
    simp only [Ok]
    exact ⟨g, b, hb _ _ _ h1, h2⟩
  | .e j i k c sz, u, h => by
    simp only [Ok] at h ⊢
    obtain ⟨g, b, h1, h2⟩ := h
    exact ⟨g, b, hb _ _ _ h1, h2⟩
  | .s j i o len cap sz, u, h => by
    simp only [Ok] at h ⊢
    obtain ⟨A, h1, h0, h2⟩ := h
    exact ⟨A, h1, h0, fun hc => let ⟨g, b, h3, h4⟩ := h2 hc; ⟨g, b, hb _ _ _ h3, h4⟩⟩
  | .f fn fs cs, u, h => by
    simp only [Ok] at h ⊢
    obtain ⟨xs, ys, h1, h2, h3⟩ := h
    exact ⟨xs, ys, h1, OkL.mono hb _ _ h2, OkL.mono hb _ _ h3⟩
  | .a l, u, h => by
    simp only [Ok] at h ⊢
    obtain ⟨xs, h1, h2⟩ := h
    exact ⟨xs, h1, OkL.mono hb _ _ h2⟩
  | .t l, u, h => by
    simp only [Ok] at h ⊢
    obtain ⟨xs, h1, h2⟩ := h
    exact ⟨xs, h1, OkL.mono hb _ _ h2⟩
  | .m j, u, h => by
    simp only [Ok] at h ⊢
    obtain ⟨g, b, h1, h2⟩ := h
    exact ⟨g, b, hb _ _ _ h1, h2⟩
  | .und, _, h => h
  | .junk, _, _ => by simp only [Ok]
theorem OkL.mono {β β' : Bs} (hb : BLe β β') : ∀ (l : List SV) (us : List Value), OkL β l us → OkL β' l us
  | [], _, h => h
  | x :: l, us, h => by
    simp only [OkL] at h ⊢
    obtain ⟨u, us', h1, h2, h3⟩ := h
    exact ⟨u, us', h1, Ok.mono hb _ _ h2, OkL.mono hb _ _ h3⟩
end
theorem okL_length {β : Bs} : ∀ {l : List SV} {us : List Value}, OkL β l us → us.length = l.length
  | [], us, h => by simp only [OkL] at h; simp [h]
  | x :: l, us, h => by
    simp only [OkL] at h
    obtain ⟨u, us', rfl, _, h3⟩ := h
    simp [okL_length h3]
theorem okL_get {β : Bs} : ∀ {l : List SV} {us : List Value}, OkL β l us → ∀ (c : Nat) (x : SV), l[c]? = some x → ∃ u, us[c]? = some u ∧ Ok β x u
  | [], us, h, c, x, hx => by simp at hx
  | y :: l, us, h, 0, x, hx => by
    simp only [OkL] at h
    obtain ⟨u, us', rfl, h2, _⟩ := h
    simp at hx
    subst hx
    exact ⟨u, by simp, h2⟩
  | y :: l, us, h, c + 1, x, hx => by
    simp only [OkL] at h
    obtain ⟨u, us', rfl, _, h3⟩ := h
    simpa using okL_get h3 c x (by simpa using hx)
theorem okL_of {β : Bs} : ∀ {l : List SV} {us : List Value}, us.length = l.length → (∀ (c : Nat) (x : SV), l[c]? = some x → ∃ u, us[c]? = some u ∧ Ok β x u) → OkL β l us
  | [], us, hl, _ => by simp only [OkL]; exact List.length_eq_zero_iff.1 hl
  | x :: l, [], hl, _ => by simp at hl
  | x :: l, u :: us, hl, h => by
    simp only [OkL]
    obtain ⟨u', h1, h2⟩ := h 0 x (by simp)
    simp at h1
    subst h1
    exact ⟨u, us, rfl, h2, okL_of (by simpa using hl) fun c y hy => by simpa using h (c + 1) y (by simpa using hy)⟩
theorem okL_append {β : Bs} : ∀ {l l' : List SV} {us us' : List Value}, OkL β l us → OkL β l' us' → OkL β (l ++ l') (us ++ us')
  | [], l', us, us', h, h' => by simp only [OkL] at h; subst h; simpa using h'
  | x :: l, l', us, us', h, h' => by
    simp only [OkL] at h
    obtain ⟨u, vs, rfl, h2, h3⟩ := h
    simp only [List.cons_append, OkL]
    exact ⟨u, vs ++ us', rfl, h2, okL_append h3 h'⟩
/-- Values without addresses, as they are. -/
theorem okL_vs {β : Bs} : ∀ (us : List Value), OkL β (us.map SV.v) us
  | [] => by simp [OkL]
  | u :: us => by simp only [List.map_cons, OkL]; exact ⟨u, us, rfl, by simp [Ok], okL_vs us⟩
/- ===== objects ===== -/
inductive Ct where
  | st (cs : List SV)
  | row (sz N : Nat) (len cap : Nat → Nat) (f : Nat → Nat → List SV)
  | mp (d : TypeDesc) (n : Nat) (get : Value → Option Value)
  | dead
structure Ob where
  ty : TypeId
  ro : Bool
  ct : Ct
/-- What a map's entries are. -/
structure MapIs (d : TypeDesc) (n : Nat) (get : Value → Option Value) (es : Array MapEntry) : Prop where
  size : es.size = n
  key : ∀ e ∈ es.toList, MapKept.IsKey d e.key
  nodup : (es.toList.map (·.key)).Nodup
  get : ∀ k x, MapKept.IsKey d k → (get k = some x ↔ ∃ e ∈ es.toList, e.key = k ∧ e.val = x)
/-- What an object says of the memory. -/
def ObOk (β : Bs) (w : World) (j : Nat) (ob : Ob) : Prop :=
  match ob.ct with
  | .st cs => ∃ g cur, β j 0 = some (g, 0) ∧ w.heap[g]? = some (.cells cur ob.ty (0, 0)) ∧ OkL β cs cur.toList
  | .row sz N len cap f =>
    if ob.ro then ∀ i, i < N → ∀ k, k < len i → ∃ g b, β j i = some (g, b) ∧ g < w.heap.size ∧ ∀ c x, (f i k)[c]? = some x → ∃ u, w.cell? ⟨g, b + (k * sz + c), none⟩ = some u ∧ Ok β x u
    else ∀ i, i < N → (len i = 0 ∧ cap i = 0) ∨
      ∃ g cur, β j i = some (g, 0) ∧ w.heap[g]? = some (.cells cur ob.ty (0, 0)) ∧ cur.size = cap i * sz ∧ len i ≤ cap i ∧ cap i ≤ 9223372036854775807 ∧
        ∀ k, k < len i → (f i k).length = sz ∧ ∀ c x, (f i k)[c]? = some x → ∃ u, cur[k * sz + c]? = some u ∧ Ok β x u
  | .mp d n get => ∃ g es clk, β j 0 = some (g, 0) ∧ w.heap[g]? = some (.map es clk) ∧ MapIs d n get es
  | .dead => True
/-- A member that is in use. -/
def Ob.mem (ob : Ob) (i : Nat) : Prop :=
  match ob.ct with
  | .st _ => i = 0
  | .row _ N len cap _ => i < N ∧ (ob.ro = true → 0 < len i) ∧ (ob.ro = false → 0 < cap i)
  | .mp _ _ _ => i = 0
  | .dead => False
/-- .. and may be written. -/
def Ob.own (ob : Ob) (i : Nat) : Prop :=
  match ob.ct with
  | .st _ => i = 0 ∧ ob.ro = false
  | .row _ N _ cap _ => i < N ∧ ob.ro = false ∧ 0 < cap i
  | .mp _ _ _ => i = 0 ∧ ob.ro = false
  | .dead => False
/-- A member that there is not. -/
def Ob.over (ob : Ob) (i : Nat) : Prop :=
  match ob.ct with
  | .st _ => 0 < i
  | .row _ N _ _ _ => N ≤ i
  | .mp _ _ _ => 0 < i
  | .dead => False
/-- What the program's laid variables hold: their blocks, and the cells. -/
def globs : List (Nat × List Value) := []
structure Inv0 (β : Bs) (H : List Ob) (w : World) : Prop where
  ob : ∀ j o, H[j]? = some o → ObOk β w j o
  out : ∀ j i, H.length ≤ j → β j i = none
  sep : ∀ j i j' i' o o' g b b', H[j]? = some o → H[j']? = some o' → o.own i → o'.mem i' → β j i = some (g, b) → β j' i' = some (g, b') → j = j' ∧ i = i'
  bey : ∀ j o i, H[j]? = some o → o.over i → β j i = none
/-- The blocks that are known. -/
def MemB (β : Bs) (H : List Ob) (g : Nat) : Prop := ∃ j i o b, H[j]? = some o ∧ o.mem i ∧ β j i = some (g, b)
/-- The blocks that may be written. -/
def OwnB (β : Bs) (H : List Ob) (g : Nat) : Prop := ∃ j i o b, H[j]? = some o ∧ o.own i ∧ β j i = some (g, b)
/-- The laid variables are as they were laid, and nobody may write them. -/
def GlobOk (β : Bs) (H : List Ob) (w : World) : Prop := ∀ x ∈ globs, x.1 < w.heap.size ∧ 0 < x.2.length ∧ (∀ k v, x.2[k]? = some v → w.cell? ⟨x.1, k, none⟩ = some v) ∧ ¬ OwnB β H x.1
theorem GlobOk.step {β β' : Bs} {H H' : List Ob} {w w' : World} (h : GlobOk β H w) (hs : w.heap.size ≤ w'.heap.size) (hb : ∀ g, g < w.heap.size → ¬ OwnB β H g → w'.heap[g]? = w.heap[g]?) (ho : ∀ g, g < w.heap.size → OwnB β' H' g → OwnB β H g) : GlobOk β' H' w' := fun x hx => by
  obtain ⟨h1, h2, h3, h4⟩ := h x hx
  exact ⟨Nat.lt_of_lt_of_le h1 hs, h2, fun k v hv => (World.cell?_of_block (w := w) (a := ⟨x.1, k, none⟩) (hb _ h1 h4)).trans (h3 k v hv), fun hg => h4 (ho _ h1 hg)⟩
structure Inv (β : Bs) (H : List Ob) (w : World) : Prop extends Inv0 β H w where
  gl : GlobOk β H w
theorem Ob.own_mem {ob : Ob} {i : Nat} (h : ob.own i) : ob.mem i := by
  obtain ⟨ty, ro, ct⟩ := ob
  cases ct with
  | st cs => exact h.1
  | row sz N len cap f => exact ⟨h.1, ⟨fun hr => (by have := h.2.1; simp only at this hr; rw [this] at hr; cases hr), fun _ => h.2.2⟩⟩
  | mp d n get => exact h.1
  | dead => exact h
theorem ObOk.block {β : Bs} {w : World} {j i : Nat} {ob : Ob} (h : ObOk β w j ob) (hm : ob.mem i) {g b : Nat} (hb : β j i = some (g, b)) : g < w.heap.size := by
  obtain ⟨ty, ro, ct⟩ := ob
  have key : ∀ (g : Nat) (cur : Array Value), w.heap[g]? = some (.cells cur ty (0, 0)) → g < w.heap.size := fun g cur hg => by
    rcases Nat.lt_or_ge g w.heap.size with h | h
    · exact h
    · rw [Array.getElem?_eq_none h] at hg; cases hg
  cases ct with
  | st cs =>
    obtain ⟨g', cur, h1, h2, _⟩ := h
    simp only [Ob.mem] at hm
    subst hm
    rw [h1] at hb
    obtain ⟨rfl, rfl⟩ : g' = g ∧ 0 = b := by simpa using hb
    exact key _ _ h2
  | row sz N len cap f =>
    simp only [Ob.mem] at hm
    cases ro with
    | true =>
      obtain ⟨g', b', h1, h2, _⟩ := h i hm.1 0 (hm.2.1 rfl)
      rw [h1] at hb
      obtain ⟨rfl, rfl⟩ : g' = g ∧ b' = b := by simpa using hb
      exact h2
    | false =>
      rcases h i hm.1 with ⟨_, h0⟩ | ⟨g', cur, h1, h2, _⟩
      · have := hm.2.2 rfl; omega
      · rw [h1] at hb
        obtain ⟨rfl, rfl⟩ : g' = g ∧ 0 = b := by simpa using hb
        exact key _ _ h2
  | mp d n get =>
    obtain ⟨g', es, clk, h1, h2, _⟩ := h
    simp only [Ob.mem] at hm
    subst hm
    rw [h1] at hb
    obtain ⟨rfl, rfl⟩ : g' = g ∧ 0 = b := by simpa using hb
    rcases Nat.lt_or_ge g' w.heap.size with h | h
    · exact h
    · rw [Array.getElem?_eq_none h] at h2; cases h2
  | dead => exact hm.elim
/-- An object is as it was where its blocks are. -/
theorem ObOk.same {β β' : Bs} {w w' : World} {j : Nat} {ob : Ob} (h : ObOk β w j ob) (hb : BLe β β') (hn : ∀ i, β j i = none → β' j i = none) (hs : w.heap.size ≤ w'.heap.size)
    (hh : ∀ i g b, ob.mem i → β j i = some (g, b) → w'.heap[g]? = w.heap[g]?) : ObOk β' w' j ob := by
  obtain ⟨ty, ro, ct⟩ := ob
  cases ct with
  | st cs =>
    obtain ⟨g, cur, h1, h2, h3⟩ := h
    exact ⟨g, cur, hb _ _ _ h1, (hh 0 g 0 rfl h1).trans h2, OkL.mono hb _ _ h3⟩
  | row sz N len cap f =>
    cases ro with
    | true =>
      intro i hi k hk
      obtain ⟨g, b, h1, h2, h3⟩ := h i hi k hk
      have e := hh i g b ⟨hi, fun _ => Nat.lt_of_le_of_lt (Nat.zero_le _) hk, fun h => by cases h⟩ h1
      refine ⟨g, b, hb _ _ _ h1, Nat.lt_of_lt_of_le h2 hs, fun c x hx => ?_⟩
      obtain ⟨u, h4, h5⟩ := h3 c x hx
      exact ⟨u, (World.cell?_of_block (a := ⟨g, _, none⟩) e).trans h4, Ok.mono hb _ _ h5⟩
    | false =>
      intro i hi
      rcases h i hi with h1 | ⟨g, cur, h1, h2, h3, h4, h5⟩
      · exact .inl h1
      · rcases Nat.eq_zero_or_pos (cap i) with hc0 | hc0
        · exact .inl ⟨by omega, hc0⟩
        refine .inr ⟨g, cur, hb _ _ _ h1, (hh i g 0 ⟨hi, fun h => (by cases h), fun _ => hc0⟩ h1).trans h2, h3, h4, h5.1, fun k hk => ⟨(h5.2 k hk).1, fun c x hx => ?_⟩⟩
        obtain ⟨u, h6, h7⟩ := (h5.2 k hk).2 c x hx
        exact ⟨u, h6, Ok.mono hb _ _ h7⟩
  | mp d n get =>
    obtain ⟨g, es, clk, h1, h2, h3⟩ := h
    exact ⟨g, es, clk, hb _ _ _ h1, (hh 0 g 0 rfl h1).trans h2, h3⟩
  | dead => trivial
theorem Inv.below {β : Bs} {H : List Ob} {w w' : World} (h : Inv β H w) (hb : Below w.heap.size w w') : Inv β H w' :=
  ⟨⟨fun j o ho => (h.ob j o ho).same (BLe.refl β) (fun _ h => h) hb.size (fun _ _ _ hm hg => hb.block _ ((h.ob j o ho).block hm hg)), h.out, h.sep, h.bey⟩, h.gl.step hb.size (fun g hg _ => hb.block g hg) fun _ _ h => h⟩
/-- What a piece of code may do: objects that it may write, and new memory. 'n0': the objects whose places stay. -/
structure Fr (n0 : Nat) (β : Bs) (H : List Ob) (w : World) (β' : Bs) (H' : List Ob) (w' : World) : Prop where
  tape : w'.tape = w.tape
  os : w'.os = w.os
  output : w'.output = w.output
  size : w.heap.size ≤ w'.heap.size
  block : ∀ g, g < w.heap.size → ¬ OwnB β H g → w'.heap[g]? = w.heap[g]?
  own : ∀ g, g < w.heap.size → OwnB β' H' g → OwnB β H g
  mem : ∀ g, g < w.heap.size → MemB β' H' g → MemB β H g
  le : ∀ j i x, j < n0 → β j i = some x → β' j i = some x
  len : n0 ≤ H.length → n0 ≤ H'.length
theorem GlobOk.fr {n0 : Nat} {β β' : Bs} {H H' : List Ob} {w w' : World} (h : GlobOk β H w) (f : Fr n0 β H w β' H' w') : GlobOk β' H' w' := h.step f.size f.block f.own
theorem Fr.refl (n0 : Nat) (β : Bs) (H : List Ob) (w : World) : Fr n0 β H w β H w := ⟨rfl, rfl, rfl, Nat.le_refl _, fun _ _ _ => rfl, fun _ _ h => h, fun _ _ h => h, fun _ _ _ _ h => h, fun h => h⟩
theorem Fr.trans {n0 : Nat} {β β1 β2 : Bs} {H H1 H2 : List Ob} {w w1 w2 : World} (h : Fr n0 β H w β1 H1 w1) (h' : Fr n0 β1 H1 w1 β2 H2 w2) : Fr n0 β H w β2 H2 w2 :=
  ⟨h'.tape.trans h.tape, h'.os.trans h.os, h'.output.trans h.output, Nat.le_trans h.size h'.size,
   fun g hg hn => (h'.block g (Nat.lt_of_lt_of_le hg h.size) (fun ho => hn (h.own g hg ho))).trans (h.block g hg hn),
   fun g hg ho => h.own g hg (h'.own g (Nat.lt_of_lt_of_le hg h.size) ho),
   fun g hg ho => h.mem g hg (h'.mem g (Nat.lt_of_lt_of_le hg h.size) ho),
   fun j i x hj hx => h'.le j i x hj (h.le j i x hj hx), fun hl => h'.len (h.len hl)⟩
theorem Fr.mono {n0 n1 : Nat} {β β1 : Bs} {H H1 : List Ob} {w w1 : World} (h : Fr n0 β H w β1 H1 w1) (hn : n1 ≤ n0) (hl : n0 ≤ H.length) : Fr n1 β H w β1 H1 w1 :=
  ⟨h.tape, h.os, h.output, h.size, h.block, h.own, h.mem, fun j i x hj => h.le j i x (Nat.lt_of_lt_of_le hj hn), fun _ => Nat.le_trans hn (h.len hl)⟩
theorem Fr.below {n0 : Nat} {β : Bs} {H : List Ob} {w w' : World} (h : Below w.heap.size w w') : Fr n0 β H w β H w' :=
  ⟨h.tape, h.os, h.output, h.size, fun g hg _ => h.block g hg, fun _ _ ho => ho, fun _ _ ho => ho, fun _ _ _ _ hx => hx, fun h => h⟩
/- ===== types ===== -/
inductive TD where
  | bool
  | int (k : IntKind)
  | str
  | ptr
  | slice (e esz : Nat)
  | array (n e esz : Nat)
  | struct (fs : List (Nat × Nat × Nat))
  | func
  | map (k e : Nat)
  | other
structure TI where
  td : TD
  size : Nat
  bytes : Nat
  zero : Option (List Value)
def tdOf (P : Program) (t : TypeId) : TD :=
  match P.underlying t with
  | some .bool => .bool
  | some (.int k) => .int k
  | some .string => .str
  | some (.pointer _) => .ptr
  | some (.slice e) => .slice e (P.cellsOf e)
  | some (.array n e) => .array n e (P.cellsOf e)
  | some (.struct fs) => .struct (fs.toList.map fun f => (f.offset, f.type, P.cellsOf f.type))
  | some (.func _ _ _) => .func
  | some (.map k e) => .map k e
  | _ => .other
/-- What the executor reads of a type. -/
def tiOf (P : Program) (t : TypeId) : TI := ⟨tdOf P t, P.cellsOf t, P.bytesOf t, (P.info? t).bind fun i => i.zero.map fun v => v.cells.toList⟩
def TD.agg : TD → Bool
  | .array _ _ _ => true
  | .struct _ => true
  | _ => false
section
variable {P : Program} {t : TypeId}
theorem td_slice {e esz : Nat} (h : tdOf P t = .slice e esz) : P.underlying t = some (.slice e) ∧ esz = P.cellsOf e := by
  unfold tdOf at h
  split at h <;> simp_all
  rw [← h.2, h.1]
theorem td_array {n e esz : Nat} (h : tdOf P t = .array n e esz) : P.underlying t = some (.array n e) ∧ esz = P.cellsOf e := by
  unfold tdOf at h
  split at h <;> simp_all
  rw [← h.2.2, h.2.1]
theorem td_struct {l : List (Nat × Nat × Nat)} (h : tdOf P t = .struct l) : ∃ fs, P.underlying t = some (.struct fs) ∧ l = fs.toList.map fun f => (f.offset, f.type, P.cellsOf f.type) := by
  unfold tdOf at h
  split at h <;> simp_all
theorem td_int {k : IntKind} (h : tdOf P t = .int k) : P.underlying t = some (.int k) := by
  unfold tdOf at h
  split at h <;> simp_all
theorem td_bool (h : tdOf P t = .bool) : P.underlying t = some .bool := by
  unfold tdOf at h
  split at h <;> simp_all
theorem td_str (h : tdOf P t = .str) : P.underlying t = some .string := by
  unfold tdOf at h
  split at h <;> simp_all
theorem td_map {k e : Nat} (h : tdOf P t = .map k e) : P.underlying t = some (.map k e) := by
  unfold tdOf at h
  split at h <;> simp_all
theorem td_agg (h : tdOf P t ≠ .other) (w : World) : (isAgg t).run P w = .ok (tdOf P t).agg w := by
  cases hd : P.underlying t with
  | none => exact absurd (by unfold tdOf; rw [hd]) h
  | some d =>
    unfold tdOf isAgg
    simp only [Sem.run_bind, run_underlying hd, Result.andThen_ok, hd]
    cases d <;> rfl
theorem info_of_size {n : Nat} (h : P.cellsOf t = n + 1) : ∃ i, P.info? t = some i ∧ i.size = n + 1 := by
  unfold Program.cellsOf at h
  cases hi : P.info? t with
  | none => rw [hi] at h; cases h
  | some i => rw [hi] at h; exact ⟨i, rfl, h⟩
theorem run_sizeOf_of {n : Nat} (h : P.cellsOf t = n + 1) (w : World) : (sizeOf t).run P w = .ok (n + 1) w := by
  obtain ⟨i, hi, hs⟩ := info_of_size h
  simp [sizeOf, typeInfo, program, hi, hs, bind, Sem.bind, Sem.run, pure]
theorem run_zeroValue_of {l : List Value} (h : (tiOf P t).zero = some l) (w : World) : ∃ v, (zeroValue t).run P w = .ok v w ∧ v.cells.toList = l := by
  unfold tiOf at h
  simp only at h
  cases hi : P.info? t with
  | none => rw [hi] at h; cases h
  | some i =>
    rw [hi] at h
    simp only [Option.bind_some] at h
    cases hz : i.zero with
    | none => rw [hz] at h; cases h
    | some v =>
      rw [hz] at h
      refine ⟨v, ?_, by simpa using h⟩
      simp [zeroValue, typeInfo, program, hi, hz, bind, Sem.bind, Sem.run, pure]
end
/- ===== slots ===== -/
abbrev Sl := List (Nat × SV)
def lk (b : Bool) (v : SV) (f : Nat → SV) (d : Nat) : SV :=
  match b with
  | true => v
  | false => f d
def look : Sl → Nat → SV
  | [], _ => .junk
  | (k, v) :: l, d => lk (k == d) v (look l) d
def cst : Value → SV
  | .agg cs => .a (cs.toList.map SV.v)
  | .tuple cs => .t (cs.toList.map SV.v)
  | x => .v x
def ev (σ : Sl) : Operand → SV
  | .tmp t => look σ t
  | .const v => cst v
  | .func f => .f (.func f) [] []
  | .global g => .v (.pointer (some ⟨g, 0, none⟩))
def SlotsOk (β : Bs) (σ : Sl) (a : Act) : Prop := ∀ d, Ok β (look σ d) (a.tmps.getD d undef)
theorem cst_ok (β : Bs) (v : Value) : Ok β (cst v) v := by
  unfold cst
  split
  · rename_i cs; simp only [Ok]; exact ⟨cs, rfl, okL_vs _⟩
  · rename_i cs; simp only [Ok]; exact ⟨cs, rfl, okL_vs _⟩
  · simp only [Ok]
theorem ev_ok {β : Bs} {σ : Sl} {a : Act} (h : SlotsOk β σ a) (x : Operand) : Ok β (ev σ x) (a.eval x) := by
  cases x with
  | tmp t => exact h t
  | const v => exact cst_ok β v
  | global g => simp only [ev, Ok]; rfl
  | func f => simp only [ev, Ok]; exact ⟨#[], #[], rfl, by simp [OkL], by simp [OkL]⟩
theorem look_put {β : Bs} {σ : Sl} {a : Act} (h : SlotsOk β σ a) {d : Nat} {x : SV} {u : Value} (hx : Ok β x u) (hd : d < a.tmps.size) : SlotsOk β ((d, x) :: σ) (a.put (some d) u) := by
  intro d'
  simp only [look, Act.put]
  by_cases e : d = d'
  · subst e
    simp [hd, lk]
    exact hx
  · have : (d == d') = false := by simpa using e
    rw [this]
    simp only [lk]
    have h1 := h d'
    have e2 : (a.tmps.setIfInBounds d u).getD d' undef = a.tmps.getD d' undef := by
      simp [Array.getD_eq_getD_getElem?, e]
    rw [e2]
    exact h1
theorem look_mono {β β' : Bs} {σ : Sl} {a : Act} (h : SlotsOk β σ a) (hb : BLe β β') : SlotsOk β' σ a := fun d => Ok.mono hb _ _ (h d)
/-- A slot that is known better. -/
theorem look_same {β : Bs} {σ : Sl} {a : Act} (h : SlotsOk β σ a) {d : Nat} {x : SV} (hx : Ok β x (a.tmps.getD d undef)) : SlotsOk β ((d, x) :: σ) a := by
  intro d'
  simp only [look]
  by_cases e : d = d'
  · subst e; simpa [lk] using hx
  · have : (d == d') = false := by simpa using e
    rw [this]
    exact h d'
/- ===== branches ===== -/
def branch (b : Bool) (X Y : Prop) : Prop := (b = true → X) ∧ (b = false → Y)
theorem branch_true (X Y : Prop) : branch true X Y = X := by simp [branch]
theorem branch_false (X Y : Prop) : branch false X Y = Y := by simp [branch]
theorem branch_decide (p : Prop) [Decidable p] (X Y : Prop) : branch (decide p) X Y = ((p → X) ∧ (¬ p → Y)) := by simp [branch]
theorem branch_not (b : Bool) (X Y : Prop) : branch (!b) X Y = branch b Y X := by cases b <;> simp [branch]
theorem branch_beq (a b : Int) (X Y : Prop) : branch (a == b) X Y = ((a = b → X) ∧ (¬ a = b → Y)) := by simp [branch]
theorem branch_bne (a b : Int) (X Y : Prop) : branch (a != b) X Y = ((a = b → Y) ∧ (¬ a = b → X)) := by
  by_cases h : a = b <;> simp [branch, h]
/- ===== ints ===== -/
def inr (k : IntKind) (z : Int) : Prop :=
  match k with
  | .i8 => -128 ≤ z ∧ z ≤ 127
  | .i16 => -32768 ≤ z ∧ z ≤ 32767
  | .i32 => -2147483648 ≤ z ∧ z ≤ 2147483647
  | .i64 => -9223372036854775808 ≤ z ∧ z ≤ 9223372036854775807
  | .u8 => 0 ≤ z ∧ z ≤ 255
  | .u16 => 0 ≤ z ∧ z ≤ 65535
  | .u32 => 0 ≤ z ∧ z ≤ 4294967295
  | .u64 => 0 ≤ z ∧ z ≤ 18446744073709551615
theorem wrap_inr {k : IntKind} {z : Int} (h : inr k z) : k.wrap z = z := by
  cases k <;> simp only [inr] at h
  · exact IntWalk.i8_in z h
  · exact IntWalk.i16_in z h
  · exact IntWalk.i32_in z h
  · exact IntWalk.i64_in z h
  · exact IntWalk.u8_in z h
  · exact IntWalk.u16_in z h
  · exact IntWalk.u32_in z h
  · exact IntWalk.u64_in z h
/-- A result that may wrap; where 'nw' says so, it must not. -/
def arK (nw : Bool) (k : IntKind) (z : Int) (K : SV → Prop) : Prop :=
  match nw with
  | true => inr k z ∧ K (.v (.int k z))
  | false => K (.v (.int k (k.wrap z)))
/- ===== the rules of single operations: values alone ===== -/
/-- 's', run in any of the worlds, gives what 'r' stands for. -/
def Gives (P : Program) (β : Bs) (C : World → Prop) (K : SV → Prop) (s : Sem Value) : Prop := ∃ r z, K r ∧ Ok β r z ∧ ∀ w, C w → s.run P w = .ok z w
theorem gives_pure {P : Program} {β : Bs} {C : World → Prop} {K : SV → Prop} {r : SV} {z : Value} (hK : K r) (hz : Ok β r z) : Gives P β C K (pure z) := ⟨r, z, hK, hz, fun _ _ => rfl⟩
theorem gives_v {P : Program} {β : Bs} {C : World → Prop} {K : SV → Prop} {z : Value} (hK : K (.v z)) : Gives P β C K (pure z) := ⟨_, z, hK, by simp only [Ok], fun _ _ => rfl⟩
theorem arK_gives {P : Program} {β : Bs} {C : World → Prop} {nw : Bool} {k : IntKind} {z : Int} {K : SV → Prop} (h : arK nw k z K) : Gives P β C K (pure (.int k (k.wrap z))) := by
  unfold arK at h
  cases nw with
  | true => obtain ⟨h1, h2⟩ := h; rw [wrap_inr h1]; exact gives_v h2
  | false => exact gives_v h
def intK (nw : Bool) (op : BinOp) (k : IntKind) (m n : Int) (K : SV → Prop) : Prop :=
  match op with
  | .add => arK nw k (m + n) K
  | .sub => arK nw k (m - n) K
  | .mul => arK nw k (m * n) K
  | .quo => ¬ n = 0 ∧ arK nw k (m.tdiv n) K
  | .rem => ¬ n = 0 ∧ K (.v (.int k (m.tmod n)))
  | .and => K (.v (.int k (k.wrap ((BitVec.ofInt k.bits m &&& BitVec.ofInt k.bits n).toNat : Int))))
  | .or => K (.v (.int k (k.wrap ((BitVec.ofInt k.bits m ||| BitVec.ofInt k.bits n).toNat : Int))))
  | .xor => K (.v (.int k (k.wrap ((BitVec.ofInt k.bits m ^^^ BitVec.ofInt k.bits n).toNat : Int))))
  | .andNot => K (.v (.int k (k.wrap ((BitVec.ofInt k.bits m &&& ~~~ BitVec.ofInt k.bits n).toNat : Int))))
  | .eql => K (.v (.bool (m == n)))
  | .neq => K (.v (.bool (m != n)))
  | .lss => K (.v (.bool (decide (m < n))))
  | .leq => K (.v (.bool (decide (m ≤ n))))
  | .gtr => K (.v (.bool (decide (n < m))))
  | .geq => K (.v (.bool (decide (n ≤ m))))
  | _ => False
def shK (nw : Bool) (op : BinOp) (k : IntKind) (m n : Int) (K : SV → Prop) : Prop :=
  match op with
  | .shl => 0 ≤ n ∧ arK nw k (m * 2 ^ (min n.toNat k.bits)) K
  | .shr => 0 ≤ n ∧ K (.v (.int k (m.fdiv (2 ^ (min n.toNat k.bits)))))
  | _ => False
def strK (op : BinOp) (x y : ByteArray) (K : SV → Prop) : Prop :=
  match op with
  | .add => x.size + y.size ≤ 9223372036854775807 ∧ K (.v (.string (x ++ y)))
  | .eql => K (.v (.bool (x.toList == y.toList)))
  | .neq => K (.v (.bool (!(x.toList == y.toList))))
  | .lss => K (.v (.bool (Op.bytesLess x.toList y.toList)))
  | .leq => K (.v (.bool (Op.bytesLess x.toList y.toList || x.toList == y.toList)))
  | .gtr => K (.v (.bool (!(Op.bytesLess x.toList y.toList || x.toList == y.toList))))
  | .geq => K (.v (.bool (!(Op.bytesLess x.toList y.toList))))
  | _ => False
/-- Structs that are compared cell by cell. -/
def eqLB : List Value → List Value → Bool
  | .int _ m :: l, .int _ n :: l' => m == n && eqLB l l'
  | .bool m :: l, .bool n :: l' => m == n && eqLB l l'
  | .string m :: l, .string n :: l' => m.toList == n.toList && eqLB l l'
  | _, _ => true
def AggEq (P : Program) (t : TypeId) (xs ys : List Value) : Prop := ∀ (op : BinOp) (x y : Operand) (w : World),
  (eqGuard op t x y (.agg xs.toArray) (.agg ys.toArray)).run P w = .ok () w ∧ (Op.equal t (.agg xs.toArray) (.agg ys.toArray)).run P w = .ok (eqLB xs ys) w
def grounds : List SV → Option (List Value)
  | [] => some []
  | .v x :: l => (grounds l).map (x :: ·)
  | _ => none
def aggK (P : Program) (t : TypeId) (neg : Bool) (gx gy : Option (List Value)) (K : SV → Prop) : Prop :=
  match gx, gy with
  | some xs, some ys => AggEq P t xs ys ∧ K (.v (.bool (bif neg then !(eqLB xs ys) else eqLB xs ys)))
  | _, _ => False
/-- '==' and '!=' on other values. -/
def eqK (P : Program) (td : TD) (t : TypeId) (neg : Bool) (x y : SV) (K : SV → Prop) : Prop :=
  match td, x, y with
  | .bool, .v (.bool m), .v (.bool n) => K (.v (.bool (bif neg then m != n else m == n)))
  | .slice _ _, .s _ _ _ _ cap _, .v (.slice none _ _) => ∀ b : Bool, (0 < cap → b = false) → K (.v (.bool (bif neg then !b else b)))
  | .slice _ _, .v (.slice none _ _), .v (.slice none _ _) => K (.v (.bool (!neg)))
  | .struct _, .a l, .a l' => aggK P t neg (grounds l) (grounds l') K
  | .array _ _ _, .a l, .a l' => aggK P t neg (grounds l) (grounds l') K
  | _, _, _ => False
def binK (P : Program) (nw : Bool) (op : BinOp) (td : TD) (t : TypeId) (x y : SV) (K : SV → Prop) : Prop :=
  match op, x, y with
  | .shl, .v (.int k m), .v (.int _ n) => shK nw .shl k m n K
  | .shr, .v (.int k m), .v (.int _ n) => shK nw .shr k m n K
  | op, .v (.int k m), .v (.int k' n) => k = k' ∧ intK nw op k m n K
  | op, .v (.string m), .v (.string n) => strK op m n K
  | .eql, x, y => eqK P td t false x y K
  | .neq, x, y => eqK P td t true x y K
  | _, _, _ => False
section
variable {P : Program} {β : Bs} {C : World → Prop} {K : SV → Prop}
theorem ok_v {x u : Value} (h : Ok β (.v x) u) : u = x := by simpa only [Ok] using h
theorem intK_gives {nw : Bool} {op : BinOp} {k : IntKind} {m n : Int} (h : intK nw op k m n K) (ho : op ≠ .shl) (ho' : op ≠ .shr) (t : TypeId) : Gives P β C K (binOp op t (.int k m) (.int k n)) := by
  cases op <;> simp only [intK] at h <;> simp only [binOp, ne_eq, not_true_eq_false, if_false] <;>
    first
    | exact absurd rfl ho
    | exact absurd rfl ho'
    | (simp only [Op.intArith]; exact arK_gives h)
    | (simp only [Op.intDiv, if_neg h.1]; exact arK_gives h.2)
    | (simp only [Op.intDiv, if_neg h.1]; exact gives_v h.2)
    | (simp only [Op.intBits]; exact gives_v h)
    | (simp only [Op.intCmp]; exact gives_v h)
theorem shK_gives {nw : Bool} {op : BinOp} {k k' : IntKind} {m n : Int} (h : shK nw op k m n K) : Gives P β C K (Op.shift op k m k' n) := by
  cases op <;> simp only [shK] at h
  · obtain ⟨h1, h2⟩ := h
    simp only [Op.shift, if_neg (show ¬ n < 0 by omega)]
    exact arK_gives h2
  · obtain ⟨h1, h2⟩ := h
    simp only [Op.shift, if_neg (show ¬ n < 0 by omega)]
    exact gives_v h2
theorem strK_gives {op : BinOp} {x y : ByteArray} (h : strK op x y K) : Gives P β C K (Op.stringOp op x y) := by
  cases op <;> simp only [strK] at h <;> simp only [Op.stringOp] <;>
    first
    | exact gives_v h
    | (have e : ¬ (((x.size + y.size : Nat) : Int) > IntKind.i64.max) := by
         have : IntKind.i64.max = 9223372036854775807 := rfl
         omega
       rw [if_neg e]; exact gives_v h.2)
theorem grounds_ok : ∀ {l : List SV} {xs us : List Value}, grounds l = some xs → OkL β l us → us = xs
  | [], xs, us, h, ho => by simp only [grounds] at h; simp only [OkL] at ho; simp_all
  | .v x :: l, xs, us, h, ho => by
    simp only [grounds] at h
    simp only [OkL, Ok] at ho
    obtain ⟨u, us', rfl, rfl, h3⟩ := ho
    cases hg : grounds l with
    | none => rw [hg] at h; cases h
    | some ys =>
      rw [hg] at h
      have := grounds_ok hg h3
      simp at h
      rw [← h, this]
  | .p _ _ _ :: _, _, _, h, _ => by simp [grounds] at h
  | .e _ _ _ _ _ :: _, _, _, h, _ => by simp [grounds] at h
  | .s _ _ _ _ _ _ :: _, _, _, h, _ => by simp [grounds] at h
  | .f _ _ _ :: _, _, _, h, _ => by simp [grounds] at h
  | .a _ :: _, _, _, h, _ => by simp [grounds] at h
  | .t _ :: _, _, _, h, _ => by simp [grounds] at h
  | .und :: _, _, _, h, _ => by simp [grounds] at h
  | .junk :: _, _, _, h, _ => by simp [grounds] at h
/-- A test and what it hands on, with the guard ahead of it. -/
def GivesE (P : Program) (β : Bs) (C : World → Prop) (K : SV → Prop) (g : Sem Unit) (s : Sem Value) : Prop := ∃ r z, K r ∧ Ok β r z ∧ ∀ w, C w → g.run P w = .ok () w ∧ s.run P w = .ok z w
theorem gives_guard {g : Sem Unit} {s : Sem Value} (h : Gives P β C K s) (hg : ∀ w, g.run P w = .ok () w) : GivesE P β C K g s := by
  obtain ⟨r, z, h1, h2, h3⟩ := h
  exact ⟨r, z, h1, h2, fun w hw => ⟨hg w, h3 w hw⟩⟩
theorem eqGuard_other {op : BinOp} {t : TypeId} {x y : Operand} {a b : Value} (h1 : ∀ cs ds, a = .agg cs → b = .agg ds → False) (h2 : a = .nilIface → b = .nilIface → False) (w : World) : (eqGuard op t x y a b).run P w = .ok () w := by
  cases op <;> first | rfl | skip
  all_goals
    unfold eqGuard
    cases a <;> cases b <;> first | rfl | exact (h1 _ _ rfl rfl).elim | exact (h2 rfl rfl).elim
theorem aggK_gives {t : TypeId} {neg : Bool} {l l' : List SV} {us vs : Array Value} {x y : Operand} (h : aggK P t neg (grounds l) (grounds l') K) (hu : OkL β l us.toList) (hv : OkL β l' vs.toList) :
    GivesE P β C K (eqGuard (bif neg then .neq else .eql) t x y (.agg us) (.agg vs)) (binOp (bif neg then .neq else .eql) t (.agg us) (.agg vs)) := by
  unfold aggK at h
  split at h
  · rename_i xs ys hx hy
    have e1 := grounds_ok hx hu
    have e2 := grounds_ok hy hv
    have e1' : us = xs.toArray := by rw [← e1]
    have e2' : vs = ys.toArray := by rw [← e2]
    subst e1' e2'
    refine ⟨_, _, h.2, by simp only [Ok]; rfl, fun w _ => ?_⟩
    obtain ⟨h1, h2⟩ := h.1 (bif neg then .neq else .eql) x y w
    refine ⟨h1, ?_⟩
    cases neg with
    | true => simp only [cond_true, binOp, Sem.run_bind, h2, Result.andThen_ok]; rfl
    | false => simp only [cond_false, binOp, Sem.run_bind, h2, Result.andThen_ok]; rfl
  · exact h.elim
theorem run_equal_bool {t : TypeId} (ht : P.underlying t = some .bool) (a b : Bool) (w : World) : (Op.equal t (.bool a) (.bool b)).run P w = .ok (a == b) w := run_equalIn_bool' w 9999 t a b ht
theorem run_equal_slice_nil {t e : TypeId} (ht : P.underlying t = some (.slice e)) (A : Option Addr) (n m p q : Nat) (w : World) : (Op.equal t (.slice A n m) (.slice none p q)).run P w = .ok A.isNone w := by
  have : ∀ d, (Op.equalIn (d + 1) t (.slice A n m) (.slice none p q)).run P w = .ok A.isNone w := fun d => by
    cases A <;> simp [Op.equalIn, run_underlying ht]
  exact this 9999
theorem eqK_gives {t : TypeId} {neg : Bool} {x y : SV} {u v : Value} {ox oy : Operand} (h : eqK P (tdOf P t) t neg x y K) (hu : Ok β x u) (hv : Ok β y v) :
    GivesE P β C K (eqGuard (bif neg then .neq else .eql) t ox oy u v) (binOp (bif neg then .neq else .eql) t u v) := by
  unfold eqK at h
  split at h
  · rename_i m n htd
    have e1 := ok_v hu
    have e2 := ok_v hv
    subst e1 e2
    refine ⟨_, _, h, by simp only [Ok]; rfl, fun w _ => ⟨?_, ?_⟩⟩
    · cases neg <;> exact eqGuard_other (by intros; contradiction) (by intros; contradiction) w
    · have := run_equal_bool (td_bool htd) m n w
      cases neg
      · simp only [cond_false, binOp, Sem.run_bind, this, Result.andThen_ok]; rfl
      · simp only [cond_true, binOp, Sem.run_bind, this, Result.andThen_ok]; cases m <;> cases n <;> rfl
  · rename_i j i o len cap sz p q htd
    have e2 := ok_v hv
    subst e2
    simp only [Ok] at hu
    obtain ⟨A, rfl, _, hA⟩ := hu
    have hb : 0 < cap → A.isNone = false := fun hc => by obtain ⟨g, b, _, h2⟩ := hA hc; rw [h2]; rfl
    refine ⟨_, _, h A.isNone hb, by simp only [Ok]; rfl, fun w _ => ⟨?_, ?_⟩⟩
    · cases neg <;> exact eqGuard_other (by intros; contradiction) (by intros; contradiction) w
    · have := run_equal_slice_nil (td_slice htd).1 A len cap p q w
      cases neg
      · simp only [cond_false, binOp, Sem.run_bind, this, Result.andThen_ok]; rfl
      · simp only [cond_true, binOp, Sem.run_bind, this, Result.andThen_ok]; rfl
  · rename_i a b p q htd
    have e1 := ok_v hu
    have e2 := ok_v hv
    subst e1 e2
    refine ⟨_, _, h, by simp only [Ok]; rfl, fun w _ => ⟨?_, ?_⟩⟩
    · cases neg <;> exact eqGuard_other (by intros; contradiction) (by intros; contradiction) w
    · have := run_equal_slice_nil (td_slice htd).1 none a b p q w
      cases neg
      · simp only [cond_false, binOp, Sem.run_bind, this, Result.andThen_ok]; rfl
      · simp only [cond_true, binOp, Sem.run_bind, this, Result.andThen_ok]; rfl
  · simp only [Ok] at hu hv
    obtain ⟨us, rfl, hu⟩ := hu
    obtain ⟨vs, rfl, hv⟩ := hv
    exact aggK_gives h hu hv
  · simp only [Ok] at hu hv
    obtain ⟨us, rfl, hu⟩ := hu
    obtain ⟨vs, rfl, hv⟩ := hv
    exact aggK_gives h hu hv
  · exact h.elim
theorem binK_gives {nw : Bool} {op : BinOp} {t : TypeId} {x y : SV} {u v : Value} {ox oy : Operand} (h : binK P nw op (tdOf P t) t x y K) (hu : Ok β x u) (hv : Ok β y v) :
    GivesE P β C K (eqGuard op t ox oy u v) (binOp op t u v) := by
  unfold binK at h
  split at h
  · rename_i k m k2 n
    have e1 := ok_v hu
    have e2 := ok_v hv
    subst e1 e2
    exact gives_guard (shK_gives (k' := k2) h) (eqGuard_other (by intros; contradiction) (by intros; contradiction))
  · rename_i k m k2 n
    have e1 := ok_v hu
    have e2 := ok_v hv
    subst e1 e2
    exact gives_guard (shK_gives (k' := k2) h) (eqGuard_other (by intros; contradiction) (by intros; contradiction))
  · rename_i k m k' n h1 h2
    have e1 := ok_v hu
    have e2 := ok_v hv
    subst e1 e2
    obtain ⟨rfl, h⟩ := h
    exact gives_guard (intK_gives h (fun e => by subst e; exact h1 rfl) (fun e => by subst e; exact h2 rfl) t) (eqGuard_other (by intros; contradiction) (by intros; contradiction))
  · have e1 := ok_v hu
    have e2 := ok_v hv
    subst e1 e2
    refine gives_guard ?_ (eqGuard_other (by intros; contradiction) (by intros; contradiction))
    have := strK_gives (P := P) (β := β) (C := C) h
    cases op <;> exact this
  · exact eqK_gives (neg := false) h hu hv
  · exact eqK_gives (neg := true) h hu hv
  · exact h.elim
end
/- ===== more rules of values ===== -/
def brV (b : Bool) (x y : SV) (K : SV → Prop) : Prop :=
  match x, y with
  | .v (.bool m), .v (.bool n) => K (.v (.bool (bif b then m else n)))
  | .v (.int k m), .v (.int k' n) => k = k' ∧ K (.v (.int k (bif b then m else n)))
  | x, y => branch b (K x) (K y)
def pickK (c x y : SV) (K : SV → Prop) : Prop :=
  match c with
  | .v (.bool b) => brV b x y K
  | _ => False
def nilK (x : SV) (K : SV → Prop) : Prop :=
  match x with
  | .p j i c => K (.p j i c)
  | .e j i k c sz => K (.e j i k c sz)
  | .f (.func g) fs cs => K (.f (.func g) fs cs)
  | _ => False
/-- A negation without sign may always wrap. -/
def ngK (nw : Bool) (k : IntKind) : Bool :=
  match k with
  | .i8 => nw
  | .i16 => nw
  | .i32 => nw
  | .i64 => nw
  | .u8 => false
  | .u16 => false
  | .u32 => false
  | .u64 => false
def unK (nw : Bool) (op : UnOp) (x : SV) (K : SV → Prop) : Prop :=
  match op, x with
  | .neg, .v (.int k n) => arK (ngK nw k) k (0 - n) K
  | .not, .v (.bool b) => K (.v (.bool (!b)))
  | .xor, .v (.int k n) => K (.v (.int k (k.wrap ((BitVec.ofInt k.bits (if k.signed then -1 else k.max) ^^^ BitVec.ofInt k.bits n).toNat : Int))))
  | _, _ => False
def convK (nw : Bool) (s d : TD) (x : SV) (K : SV → Prop) : Prop :=
  match s, d, x with
  | .int _, .int k, .v (.int _ n) => arK nw k n K
  | .str, .str, .v (.string b) => K (.v (.string b))
  | _, _, _ => False
def nth {α : Type} : List α → Nat → Option α
  | [], _ => none
  | x :: _, 0 => some x
  | _ :: l, n + 1 => nth l n
theorem nth_eq {α : Type} : ∀ (l : List α) (n : Nat), nth l n = l[n]?
  | [], _ => by simp [nth]
  | x :: _, 0 => by simp [nth]
  | _ :: l, n + 1 => by simp [nth, nth_eq l n]
def fldK (fd : Option (Nat × Nat × Nat)) (x : SV) (K : SV → Prop) : Prop :=
  match fd, x with
  | some (off, _, _ + 1), .p j i c => K (.p j i (c + off))
  | some (off, _, _ + 1), .e j i k c sz => K (.e j i k (c + off) sz)
  | _, _ => False
def TD.fd (td : TD) (f : Nat) : Option (Nat × Nat × Nat) :=
  match td with
  | .struct fs => nth fs f
  | _ => none
/-- All m cells behind the first 'off' ones. -/
def sub (l : List SV) (off m : Nat) : List SV := (l.drop off).take m
def lenIs : List SV → Nat → Bool
  | [], 0 => true
  | _ :: l, n + 1 => lenIs l n
  | _, _ => false
theorem lenIs_eq : ∀ (l : List SV) (n : Nat), lenIs l n = true → l.length = n
  | [], 0, _ => rfl
  | _ :: l, n + 1, h => by simp only [lenIs] at h; simp [lenIs_eq l n h]
  | [], n + 1, h => by simp [lenIs] at h
  | _ :: _, 0, h => by simp [lenIs] at h
/-- A value of n cells. -/
def oneK (agg : Bool) (n : Nat) (l : List SV) (K : SV → Prop) : Prop :=
  match agg, l with
  | false, [x] => n = 1 ∧ K x
  | true, l => lenIs l n = true ∧ K (.a l)
  | _, _ => False
def fieldK (P : Program) (fd : Option (Nat × Nat × Nat)) (x : SV) (K : SV → Prop) : Prop :=
  match fd, x with
  | some (off, t, sz + 1), .a l => (tiOf P t).td ≠ .other ∧ oneK (tiOf P t).td.agg (sz + 1) (sub l off (sz + 1)) K
  | _, _ => False
def arrK (z : Int) (K : Nat → Prop) : Nat → Prop
  | 0 => True
  | n + 1 => arrK z K n ∧ (z = (n : Int) → K n)
def arrP (j i c esz : Nat) (K : SV → Prop) (m : Nat) : Prop := K (.p j i (c + m * esz))
def arrE (j i k c sz esz : Nat) (K : SV → Prop) (m : Nat) : Prop := K (.e j i k (c + m * esz) sz)
def big2 (b : Bool) (X Y : Unit → Prop) : Prop :=
  match b with
  | true => X ()
  | false => Y ()
/-- An element of a great array: its cells are counted through. -/
def arrF (j i k c sz esz : Nat) (z : Int) (K : SV → Prop) (_ : Unit) : Prop := esz = 1 ∧ K (.e j i (k * sz + c + z.toNat) 0 1)
def arrG (n j i k c sz esz : Nat) (z : Int) (K : SV → Prop) (_ : Unit) : Prop := arrK z (arrE j i k c sz esz K) n
def ixK (td : TD) (x y : SV) (K : SV → Prop) : Prop :=
  match td, x, y with
  | .slice _ (e + 1), .s j i o len _ sz, .v (.int _ z) => 0 ≤ z ∧ z < (len : Int) ∧ sz = e + 1 ∧ K (.e j i (o + z.toNat) 0 sz)
  | .array n _ (e + 1), .p j i c, .v (.int _ z) => 0 ≤ z ∧ z < (n : Int) ∧ arrK z (arrP j i c (e + 1) K) n
  | .array n _ (e + 1), .e j i k c sz, .v (.int _ z) => 0 ≤ z ∧ z < (n : Int) ∧ big2 (n == 256) (arrF j i k c sz (e + 1) z K) (arrG n j i k c sz (e + 1) z K)
  | .array n _ (e + 1), .v (.pointer (some ⟨g, o, none⟩)), .v (.int _ z) => 0 ≤ z ∧ z < (n : Int) ∧ K (.v (.pointer (some ⟨g, o + z.toNat * (e + 1), none⟩)))
  | _, _, _ => False
def arrV (agg : Bool) (l : List SV) (esz : Nat) (K : SV → Prop) (m : Nat) : Prop := oneK agg esz (sub l (m * esz) esz) K
def indexK (P : Program) (td : TD) (x y : SV) (K : SV → Prop) : Prop :=
  match td, x, y with
  | .array n t (e + 1), .a l, .v (.int _ z) => 0 ≤ z ∧ z < (n : Int) ∧ arrK z (arrV (tiOf P t).td.agg l (e + 1) K) n
  | .str, .v (.string s), .v (.int _ z) => 0 ≤ z ∧ z < (s.size : Int) ∧ ∀ b, s[z.toNat]? = some b → K (.v (.int .u8 (b.toNat : Int)))
  | _, _, _ => False
def optK {α : Type} (x : Option α) (K : α → Prop) : Prop :=
  match x with
  | some y => K y
  | none => False
theorem optK_iff {α : Type} {x : Option α} {K : α → Prop} (h : optK x K) : ∃ y, x = some y ∧ K y := by
  cases x with
  | none => exact h.elim
  | some y => exact ⟨y, rfl, h⟩
def extK (x : SV) (i : Nat) (K : SV → Prop) : Prop :=
  match x with
  | .t l => optK (nth l i) K
  | _ => False
/-- The bounds of a slice expression. -/
def boundK (x : Option SV) (dflt y : Nat) (K : Nat → Prop) : Prop :=
  match x with
  | none => K dflt
  | some (.v (.int _ z)) => 0 ≤ z ∧ z ≤ (y : Int) ∧ K z.toNat
  | some _ => False
def sl3 (j i o sz : Nat) (K : SV → Prop) (m h l : Nat) : Prop := K (.s j i (o + l) (h - l) (m - l) sz)
def sl2 (j i o sz : Nat) (lo : Option SV) (K : SV → Prop) (m h : Nat) : Prop := boundK lo 0 h (sl3 j i o sz K m h)
def sl1 (j i o len sz : Nat) (lo hi : Option SV) (K : SV → Prop) (m : Nat) : Prop := boundK hi len m (sl2 j i o sz lo K m)
def st2 (s : ByteArray) (K : SV → Prop) (h l : Nat) : Prop := K (.v (.string (s.extract l h)))
def st1 (s : ByteArray) (lo : Option SV) (K : SV → Prop) (h : Nat) : Prop := boundK lo 0 h (st2 s K h)
def nl2 (K : SV → Prop) (_ : Nat) : Prop := K (.v (.slice none 0 0))
def nl1 (lo : Option SV) (K : SV → Prop) (h : Nat) : Prop := boundK lo 0 h (nl2 K)
def slK (td : TD) (x : SV) (lo hi mx : Option SV) (K : SV → Prop) : Prop :=
  match td, x, mx with
  | .slice _ (e + 1), .s j i o len cap sz, none => sz = e + 1 ∧ sl1 j i o len sz lo hi K cap
  | .slice _ (e + 1), .s j i o len cap sz, some mx => sz = e + 1 ∧ hi.isSome = true ∧ boundK (some mx) cap cap (sl1 j i o len sz lo hi K)
  | .str, .v (.string s), none => boundK hi s.size s.size (st1 s lo K)
  | .slice _ (_ + 1), .v (.slice none 0 0), none => boundK hi 0 0 (nl1 lo K)
  | _, _, _ => False
def lenK (td : TD) (x : SV) (K : SV → Prop) : Prop :=
  match td, x with
  | .str, .v (.string s) => K (.v (.int .i64 (s.size : Int)))
  | .slice _ _, .s _ _ _ len _ _ => K (.v (.int .i64 (len : Int)))
  | .slice _ _, .v (.slice _ n _) => K (.v (.int .i64 (n : Int)))
  | .array n _ _, _ => K (.v (.int .i64 (n : Int)))
  | _, _ => False
def capK (td : TD) (x : SV) (K : SV → Prop) : Prop :=
  match td, x with
  | .slice _ _, .s _ _ _ _ cap _ => K (.v (.int .i64 (cap : Int)))
  | .slice _ _, .v (.slice _ _ c) => K (.v (.int .i64 (c : Int)))
  | _, _ => False
def minK (l : List SV) (K : SV → Prop) : Prop :=
  match l with
  | [.v (.int k m), .v (.int _ n)] => K (.v (.int k (min m n)))
  | [.v (.int k m), .v (.int _ n), .v (.int _ p)] => K (.v (.int k (min (min m n) p)))
  | _ => False
def maxK (l : List SV) (K : SV → Prop) : Prop :=
  match l with
  | [.v (.int k m), .v (.int _ n)] => K (.v (.int k (max m n)))
  | [.v (.int k m), .v (.int _ n), .v (.int _ p)] => K (.v (.int k (max (max m n) p)))
  | _ => False
section
variable {P : Program} {β : Bs} {C : World → Prop} {K : SV → Prop}
theorem brV_gives {b : Bool} {x y : SV} {u v : Value} (h : brV b x y K) (hu : Ok β x u) (hv : Ok β y v) : ∃ r, K r ∧ Ok β r (if b then u else v) := by
  unfold brV at h
  split at h
  · have e1 := ok_v hu
    have e2 := ok_v hv
    subst e1 e2
    exact ⟨_, h, by cases b <;> simp [Ok]⟩
  · have e1 := ok_v hu
    have e2 := ok_v hv
    subst e1 e2
    obtain ⟨rfl, h⟩ := h
    exact ⟨_, h, by cases b <;> simp [Ok]⟩
  · cases b with
    | true => exact ⟨x, h.1 rfl, by simpa using hu⟩
    | false => exact ⟨y, h.2 rfl, by simpa using hv⟩
theorem pickK_gives {c x y : SV} {b u v : Value} (h : pickK c x y K) (hc : Ok β c b) (hu : Ok β x u) (hv : Ok β y v) : Gives P β C K (do pure (if ← asBool b then u else v)) := by
  unfold pickK at h
  split at h
  · have e := ok_v hc; subst e
    obtain ⟨r, h1, h2⟩ := brV_gives h hu hv
    exact gives_pure h1 h2
  · exact h.elim
theorem unK_gives {nw : Bool} {op : UnOp} {x : SV} {u : Value} (h : unK nw op x K) (hu : Ok β x u) : Gives P β C K (Op.unary op u) := by
  unfold unK at h
  split at h
  · have e := ok_v hu; subst e; exact arK_gives h
  · have e := ok_v hu; subst e; exact gives_v h
  · have e := ok_v hu; subst e; exact gives_v h
  · exact h.elim
theorem convK_gives {nw : Bool} {s d : TypeId} {x : SV} {u : Value} (h : convK nw (tdOf P s) (tdOf P d) x K) (hu : Ok β x u) : Gives P β C K (convert s d u) := by
  unfold convK at h
  split at h
  · rename_i k1 k n hs hd
    have e := ok_v hu; subst e
    obtain ⟨r, z, h1, h2, h3⟩ := arK_gives (P := P) (β := β) (C := C) h
    refine ⟨r, z, h1, h2, fun w hw => ?_⟩
    unfold convert
    simp only [Sem.run_bind, run_underlying (td_int hs), run_underlying (td_int hd), Result.andThen_ok]
    exact h3 w hw
  · rename_i b hs hd
    have e := ok_v hu; subst e
    refine ⟨_, _, h, by simp only [Ok]; rfl, fun w hw => ?_⟩
    unfold convert
    simp only [Sem.run_bind, run_underlying (td_str hs), run_underlying (td_str hd), Result.andThen_ok]
    rfl
  · exact h.elim
theorem add_none (g o n : Nat) : (⟨g, o, none⟩ : Addr).add n = ⟨g, o + n, none⟩ := by
  unfold Addr.add
  split <;> simp_all
theorem fldK_gives {s : TypeId} {f : Nat} {x : SV} {u : Value} (h : fldK ((tdOf P s).fd f) x K) (hu : Ok β x u) : Gives P β C K (Instr.fieldAt s u f) := by
  have key : ∀ off ty sz, (tdOf P s).fd f = some (off, ty, sz + 1) → ∀ g b w, (Instr.fieldAt s (.pointer (some ⟨g, b, none⟩)) f).run P w = .ok (.pointer (some ⟨g, b + off, none⟩)) w := by
    intro off ty sz he g b w
    unfold TD.fd at he
    split at he
    · rename_i l hl
      obtain ⟨fs, h1, h2⟩ := td_struct hl
      rw [nth_eq, h2] at he
      simp only [List.getElem?_map, Option.map_eq_some_iff, Array.getElem?_toList] at he
      obtain ⟨fd, h3, h4⟩ := he
      obtain ⟨e1, e2, e3⟩ : fd.offset = off ∧ fd.type = ty ∧ P.cellsOf fd.type = sz + 1 := by simpa using h4
      unfold Instr.fieldAt
      simp only [Sem.run_bind, run_underlying h1, Result.andThen_ok, h3]
      simp only [Instr.sureAddr, fieldPlace, Sem.run_bind, run_sizeOf_of e3, Result.andThen_ok, Sem.run_pure, Nat.add_one_ne_zero, if_false, add_none, e1]
    · cases he
  unfold fldK at h
  split at h
  · rename_i off ty sz j i c he
    simp only [Ok] at hu
    obtain ⟨g, b, h1, rfl⟩ := hu
    refine ⟨_, _, h, ?_, fun w _ => key _ _ _ he g _ w⟩
    simp only [Ok]
    exact ⟨g, b, h1, by rw [Nat.add_assoc]⟩
  · rename_i off ty sz j i k c z he
    simp only [Ok] at hu
    obtain ⟨g, b, h1, rfl⟩ := hu
    refine ⟨_, _, h, ?_, fun w _ => key _ _ _ he g _ w⟩
    simp only [Ok]
    exact ⟨g, b, h1, by rw [Nat.add_assoc, Nat.add_assoc]⟩
  · exact h.elim
theorem okL_drop : ∀ {l : List SV} {us : List Value}, OkL β l us → ∀ n, OkL β (l.drop n) (us.drop n)
  | _, _, h, 0 => by simpa using h
  | [], us, h, n + 1 => by simp only [OkL] at h; subst h; simp [OkL]
  | x :: l, us, h, n + 1 => by
    simp only [OkL] at h
    obtain ⟨u, us', rfl, _, h3⟩ := h
    simpa using okL_drop h3 n
theorem okL_take : ∀ {l : List SV} {us : List Value}, OkL β l us → ∀ n, OkL β (l.take n) (us.take n)
  | _, _, h, 0 => by simp [OkL]
  | [], us, h, n + 1 => by simp only [OkL] at h; subst h; simp [OkL]
  | x :: l, us, h, n + 1 => by
    simp only [OkL] at h
    obtain ⟨u, us', rfl, h2, h3⟩ := h
    simp only [List.take_succ_cons, OkL]
    exact ⟨u, us'.take n, rfl, h2, okL_take h3 n⟩
/-- A part of a value. -/
theorem oneK_part {t : TypeId} {l : List SV} {cs : Array Value} {off n : Nat} (h : oneK (tdOf P t).agg (n + 1) (sub l off (n + 1)) K) (hn : P.cellsOf t = n + 1) (ht : tdOf P t ≠ .other) (hu : OkL β l cs.toList) : Gives P β C K (part t cs off) := by
  have hs := okL_take (okL_drop hu off) (n + 1)
  unfold oneK at h
  unfold part
  split at h
  · rename_i x hagg hx
    have hs' : OkL β [x] ((cs.toList.drop off).take (n + 1)) := by rw [← hx]; exact hs
    simp only [OkL] at hs'
    obtain ⟨u, us', h1, h2, rfl⟩ := hs'
    have hn0 : n = 0 := by simpa using h.1
    subst hn0
    have hu : cs[off]? = some u := by
      have : ((cs.toList.drop off).take 1)[0]? = some u := by rw [h1]; rfl
      simpa using this
    refine ⟨x, u, h.2, h2, fun w _ => ?_⟩
    simp only [Sem.run_bind, td_agg ht, hagg, Result.andThen_ok, Bool.false_eq_true, if_false, hu, Sem.run_pure]
  · rename_i hagg
    refine ⟨_, .agg (cs.extract off (off + (n + 1))), h.2, ?_, fun w _ => ?_⟩
    · simp only [Ok]
      exact ⟨_, rfl, by simpa [sub, Nat.add_sub_cancel_left] using hs⟩
    · simp only [Sem.run_bind, td_agg ht, hagg, Result.andThen_ok, if_true, run_sizeOf_of hn, Sem.run_pure]
  · exact h.elim
end
section
variable {P : Program} {β : Bs} {C : World → Prop} {K : SV → Prop}
theorem arrK_get {z : Int} {K : Nat → Prop} : ∀ {n : Nat}, arrK z K n → 0 ≤ z → z < (n : Int) → K z.toNat
  | 0, _, h0, h1 => by omega
  | n + 1, h, h0, h1 => by
    simp only [arrK] at h
    by_cases e : z = (n : Int)
    · have := h.2 e
      rw [e]
      simpa using this
    · exact arrK_get h.1 h0 (by omega)
theorem ixK_gives {t : TypeId} {x y : SV} {u v : Value} (h : ixK (tdOf P t) x y K) (hu : Ok β x u) (hv : Ok β y v) : Gives P β C K (Instr.indexAt t u v) := by
  unfold ixK at h
  split at h
  · rename_i a e j i o len cap sz k z htd
    have e2 := ok_v hv; subst e2
    simp only [Ok] at hu
    obtain ⟨A, rfl, hlc, hA⟩ := hu
    obtain ⟨h0, h1, h2, hK⟩ := h
    obtain ⟨ht, hs⟩ := td_slice htd
    obtain ⟨g, b, hb, rfl⟩ := hA (by omega)
    refine ⟨_, .pointer (some ⟨g, b + ((o + z.toNat) * sz + 0), none⟩), hK, ?_, fun w _ => ?_⟩
    · simp only [Ok]
      exact ⟨g, b, hb, rfl⟩
    · unfold Instr.indexAt
      simp only [asIntOf, Sem.run_bind, Sem.run_pure, run_underlying ht, Result.andThen_ok]
      rw [if_pos ⟨h0, h1⟩]
      simp only [Sem.run_bind, run_sizeOf_of hs.symm, Result.andThen_ok, Sem.run_pure, add_none, h2, Nat.add_mul, Nat.add_zero, Nat.add_assoc]
  · rename_i n a e j i c k z htd
    have e2 := ok_v hv; subst e2
    simp only [Ok] at hu
    obtain ⟨g, b, hb, rfl⟩ := hu
    obtain ⟨h0, h1, hK⟩ := h
    obtain ⟨ht, hs⟩ := td_array htd
    have hK := arrK_get hK h0 h1
    simp only [arrP] at hK
    refine ⟨_, .pointer (some ⟨g, b + (c + z.toNat * (e + 1)), none⟩), hK, ?_, fun w _ => ?_⟩
    · simp only [Ok]
      exact ⟨g, b, hb, rfl⟩
    · unfold Instr.indexAt
      simp only [asIntOf, Sem.run_bind, Sem.run_pure, run_underlying ht, Result.andThen_ok, Instr.sureAddr]
      rw [if_pos ⟨h0, h1⟩]
      simp only [Sem.run_bind, run_sizeOf_of hs.symm, Result.andThen_ok, Sem.run_pure, add_none, Nat.add_assoc]
  · rename_i n a e j i k1 c sz k z htd
    have e2 := ok_v hv; subst e2
    simp only [Ok] at hu
    obtain ⟨g, b, hb, rfl⟩ := hu
    obtain ⟨h0, h1, hK⟩ := h
    obtain ⟨ht, hs⟩ := td_array htd
    have run : ∀ w, (Instr.indexAt t (.pointer (some ⟨g, b + (k1 * sz + c), none⟩)) (.int k z)).run P w = .ok (.pointer (some ⟨g, b + (k1 * sz + (c + z.toNat * (e + 1))), none⟩)) w := fun w => by
      unfold Instr.indexAt
      simp only [asIntOf, Sem.run_bind, Sem.run_pure, run_underlying ht, Result.andThen_ok, Instr.sureAddr]
      rw [if_pos ⟨h0, h1⟩]
      simp only [Sem.run_bind, run_sizeOf_of hs.symm, Result.andThen_ok, Sem.run_pure, add_none, Nat.add_assoc]
    unfold big2 at hK
    split at hK
    · obtain ⟨q1, hK⟩ := hK
      refine ⟨_, .pointer (some ⟨g, b + (k1 * sz + (c + z.toNat * (e + 1))), none⟩), hK, ?_, fun w _ => run w⟩
      simp only [Ok]
      refine ⟨g, b, hb, ?_⟩
      rw [q1]
      simp only [Nat.mul_one, Nat.add_zero, Nat.add_assoc]
    have hK : arrK z (arrE j i k1 c sz (e + 1) K) n := hK
    have hK := arrK_get hK h0 h1
    simp only [arrE] at hK
    refine ⟨_, .pointer (some ⟨g, b + (k1 * sz + (c + z.toNat * (e + 1))), none⟩), hK, ?_, fun w _ => ?_⟩
    · simp only [Ok]
      exact ⟨g, b, hb, rfl⟩
    · unfold Instr.indexAt
      simp only [asIntOf, Sem.run_bind, Sem.run_pure, run_underlying ht, Result.andThen_ok, Instr.sureAddr]
      rw [if_pos ⟨h0, h1⟩]
      simp only [Sem.run_bind, run_sizeOf_of hs.symm, Result.andThen_ok, Sem.run_pure, add_none, Nat.add_assoc]
  · rename_i n a e g o k z htd
    have e2 := ok_v hv; subst e2
    have e1 := ok_v hu; subst e1
    obtain ⟨h0, h1, hK⟩ := h
    obtain ⟨ht, hs⟩ := td_array htd
    refine ⟨_, .pointer (some ⟨g, o + z.toNat * (e + 1), none⟩), hK, by simp only [Ok], fun w _ => ?_⟩
    unfold Instr.indexAt
    simp only [asIntOf, Sem.run_bind, Sem.run_pure, run_underlying ht, Result.andThen_ok, Instr.sureAddr]
    rw [if_pos ⟨h0, h1⟩]
    simp only [Sem.run_bind, run_sizeOf_of hs.symm, Result.andThen_ok, Sem.run_pure, add_none]
  · exact h.elim
theorem gives_mono {s s' : Sem Value} (h : Gives P β C K s) (he : ∀ w, s'.run P w = s.run P w) : Gives P β C K s' := by
  obtain ⟨r, z, h1, h2, h3⟩ := h
  exact ⟨r, z, h1, h2, fun w hw => (he w).trans (h3 w hw)⟩
theorem indexK_gives {t : TypeId} {x y : SV} {u v : Value} (h : indexK P (tdOf P t) x y K) (hu : Ok β x u) (hv : Ok β y v) (hother : ∀ e n m, tdOf P t = .array n e m → tdOf P e ≠ .other) : Gives P β C K (Instr.index t u v) := by
  unfold indexK at h
  split at h
  · rename_i n a e l k z htd
    have e2 := ok_v hv; subst e2
    simp only [Ok] at hu
    obtain ⟨cs, rfl, hcs⟩ := hu
    obtain ⟨h0, h1, hK⟩ := h
    obtain ⟨ht, hs⟩ := td_array htd
    have hK := arrK_get hK h0 h1
    simp only [arrV] at hK
    refine gives_mono (oneK_part (off := z.toNat * (e + 1)) hK hs.symm (hother _ _ _ htd) hcs) fun w => ?_
    unfold Instr.index
    simp only [asIntOf, Sem.run_bind, Sem.run_pure, run_underlying ht, Result.andThen_ok]
    rw [if_pos ⟨h0, h1⟩]
    simp only [Sem.run_bind, run_sizeOf_of hs.symm, Result.andThen_ok]
  · rename_i s k z htd
    have e1 := ok_v hu; subst e1
    have e2 := ok_v hv; subst e2
    obtain ⟨h0, h1, hK⟩ := h
    have hlt : z.toNat < s.size := by omega
    have hg : s[z.toNat]? = some s[z.toNat] := by simp [hlt]
    refine ⟨_, _, hK _ hg, by simp only [Ok]; rfl, fun w _ => ?_⟩
    unfold Instr.index
    simp only [asIntOf, Sem.run_bind, Sem.run_pure, run_underlying (td_str htd), Result.andThen_ok, if_pos h0, hg]
  · exact h.elim
theorem extK_gives {x : SV} {i : Nat} {u : Value} (h : extK x i K) (hu : Ok β x u) : Gives P β C K (Instr.extract u i) := by
  unfold extK at h
  split at h
  · simp only [Ok] at hu
    obtain ⟨xs, rfl, hxs⟩ := hu
    obtain ⟨y, hy, h⟩ := optK_iff h
    rw [nth_eq] at hy
    obtain ⟨u, h1, h2⟩ := okL_get hxs _ _ hy
    refine ⟨y, u, h, h2, fun w _ => ?_⟩
    unfold Instr.extract
    have h1' : xs[i]? = some u := by simpa using h1
    simp only [h1', Sem.run_pure]
  · exact h.elim
theorem boundK_run {x : SV} {u : Value} {d y : Nat} {K : Nat → Prop} {code : BoundsCode} (h : boundK (some x) d y K) (hu : Ok β x u) : ∃ n, K n ∧ n ≤ y ∧ ∀ w, (Instr.sliceBound u y code).run P w = .ok n w := by
  unfold boundK at h
  split at h
  · rename_i heq; cases heq
  · rename_i k z heq
    cases heq
    have e := ok_v hu; subst e
    refine ⟨z.toNat, h.2.2, by omega, fun w => ?_⟩
    unfold Instr.sliceBound
    simp only [asIntOf, Sem.run_bind, Sem.run_pure, Result.andThen_ok]
    rw [if_pos ⟨h.1, h.2.1⟩, Sem.run_pure]
  · exact h.elim
/-- What an optional operand is. -/
def OkO (β : Bs) : Option SV → Option Value → Prop
  | none, none => True
  | some x, some u => Ok β x u
  | _, _ => False
theorem bounds_run {isS : Bool} {len cap : Nat} {lo hi : Option SV} {ulo uhi : Option Value} (hlo : OkO β lo ulo) (hhi : OkO β hi uhi) (hlc : len ≤ cap) {K1 : Nat → Nat → Prop}
    (h : boundK hi len cap (fun h => boundK lo 0 h (K1 h))) : ∃ h l, K1 h l ∧ l ≤ h ∧ h ≤ cap ∧ ∀ w, (Instr.sliceBounds isS len cap ulo uhi none).run P w = .ok (l, h, cap) w := by
  have two : ∀ hh, hh ≤ cap → boundK lo 0 hh (K1 hh) → ∃ l, K1 hh l ∧ l ≤ hh ∧ ∀ w, (match ulo with | some v => Instr.sliceBound v hh (if (none : Option Value).isSome then .slice3C else .sliceB) | none => pure 0).run P w = .ok l w := by
    intro hh _ hK
    cases lo with
    | none =>
      cases ulo with
      | none => exact ⟨0, by simpa [boundK] using hK, Nat.zero_le _, fun w => rfl⟩
      | some _ => exact hlo.elim
    | some x =>
      cases ulo with
      | none => exact hlo.elim
      | some u => exact boundK_run hK hlo
  cases hi with
  | none =>
    cases uhi with
    | some _ => exact hhi.elim
    | none =>
      have hK : boundK lo 0 len (K1 len) := by simpa only [boundK] using h
      obtain ⟨l, h1, h2, h3⟩ := two len hlc hK
      refine ⟨len, l, h1, h2, hlc, fun w => ?_⟩
      unfold Instr.sliceBounds
      cases ulo with
      | none =>
        have h3 := h3 w
        simp only [Sem.run_pure, Result.ok.injEq, and_true] at h3
        subst h3
        simp only [Sem.run_bind, Sem.run_pure, Result.andThen_ok]
      | some v =>
        simp only at h3
        simp only [Sem.run_bind, Sem.run_pure, Result.andThen_ok, h3]
  | some x =>
    cases uhi with
    | none => exact hhi.elim
    | some u =>
      obtain ⟨hh, h1, h2, h3⟩ := boundK_run (P := P) (code := if isS then .sliceAcap else .sliceAlen) h hhi
      obtain ⟨l, h4, h5, h6⟩ := two hh h2 h1
      refine ⟨hh, l, h4, h5, h2, fun w => ?_⟩
      unfold Instr.sliceBounds
      cases ulo with
      | none =>
        have h6 := h6 w
        simp only [Sem.run_pure, Result.ok.injEq, and_true] at h6
        subst h6
        simp only [Sem.run_bind, Sem.run_pure, Result.andThen_ok, h3]
      | some v =>
        simp only at h6
        simp only [Sem.run_bind, Sem.run_pure, Result.andThen_ok, h3, h6]
end
section
variable {P : Program} {β : Bs} {C : World → Prop} {K : SV → Prop}
theorem bounds3_run {isS : Bool} {len cap : Nat} {lo : Option SV} {hi mx : SV} {ulo : Option Value} {uhi umx : Value} (hlo : OkO β lo ulo) (hhi : Ok β hi uhi) (hmx : Ok β mx umx) {K1 : Nat → Nat → Nat → Prop}
    (h : boundK (some mx) cap cap (fun m => boundK (some hi) len m (fun h => boundK lo 0 h (K1 m h)))) : ∃ m h l, K1 m h l ∧ l ≤ h ∧ h ≤ m ∧ m ≤ cap ∧ ∀ w, (Instr.sliceBounds isS len cap ulo (some uhi) (some umx)).run P w = .ok (l, h, m) w := by
  obtain ⟨m, h1, h2, h3⟩ := boundK_run (P := P) (code := if isS then .slice3Acap else .slice3Alen) h hmx
  obtain ⟨hh, h4, h5, h6⟩ := boundK_run (P := P) (code := .slice3B) h1 hhi
  cases lo with
  | none =>
    cases ulo with
    | some _ => exact hlo.elim
    | none =>
      refine ⟨m, hh, 0, by simpa [boundK] using h4, Nat.zero_le _, h5, h2, fun w => ?_⟩
      unfold Instr.sliceBounds
      simp only [Sem.run_bind, Sem.run_pure, Result.andThen_ok, h3, h6]
  | some x =>
    cases ulo with
    | none => exact hlo.elim
    | some u =>
      obtain ⟨l, h7, h8, h9⟩ := boundK_run (P := P) (code := .slice3C) h4 hlo
      refine ⟨m, hh, l, h7, h8, h5, h2, fun w => ?_⟩
      unfold Instr.sliceBounds
      simp only [Option.isSome_some, if_true] at *
      simp only [Sem.run_bind, Sem.run_pure, Result.andThen_ok, h3, h6, h9]
theorem sl_ok {j i o cap sz m h l : Nat} {A : Option Addr} (hA : 0 < cap → ∃ g b, β j i = some (g, b) ∧ A = some ⟨g, b + o * sz, none⟩) (hm : m ≤ cap) (hh : h ≤ m) (hl : l ≤ h) :
    Ok β (.s j i (o + l) (h - l) (m - l) sz) (.slice (if m = l then A else A.map (·.add (l * sz))) (h - l) (m - l)) := by
  simp only [Ok]
  refine ⟨_, rfl, by omega, fun hc => ?_⟩
  obtain ⟨g, b, h1, rfl⟩ := hA (by omega)
  refine ⟨g, b, h1, ?_⟩
  rw [if_neg (by omega)]
  simp only [Option.map_some, add_none, Nat.add_mul, Nat.add_assoc]
theorem sliceAt_slice {t e : TypeId} (ht : P.underlying t = some (.slice e)) (x : Value) (lo hi mx : Option Value) (w : World) : (Instr.sliceAt t x lo hi mx).run P w = (Instr.slice t x lo hi mx).run P w := by
  unfold Instr.sliceAt
  simp only [Sem.run_bind, run_underlying ht, Result.andThen_ok]
theorem sliceAt_string {t : TypeId} (ht : P.underlying t = some .string) (x : Value) (lo hi mx : Option Value) (w : World) : (Instr.sliceAt t x lo hi mx).run P w = (Instr.slice t x lo hi mx).run P w := by
  unfold Instr.sliceAt
  simp only [Sem.run_bind, run_underlying ht, Result.andThen_ok]
theorem slK_gives {t : TypeId} {x : SV} {lo hi mx : Option SV} {u : Value} {ulo uhi umx : Option Value} (h : slK (tdOf P t) x lo hi mx K) (hu : Ok β x u) (hlo : OkO β lo ulo) (hhi : OkO β hi uhi) (hmx : OkO β mx umx) :
    Gives P β C K (Instr.sliceAt t u ulo uhi umx) := by
  unfold slK at h
  split at h
  · rename_i a e j i o len cap sz htd
    cases umx with
    | some _ => exact hmx.elim
    | none =>
      simp only [Ok] at hu
      obtain ⟨A, rfl, hlc, hA⟩ := hu
      obtain ⟨ht, hs⟩ := td_slice htd
      obtain ⟨rfl, h⟩ := h
      obtain ⟨hh, l, h1, h2, h3, h4⟩ := bounds_run (P := P) (isS := true) (K1 := fun h l => sl3 j i o (e + 1) K cap h l) hlo hhi hlc h
      refine ⟨_, _, h1, sl_ok hA (Nat.le_refl _) h3 h2, fun w _ => ?_⟩
      rw [sliceAt_slice ht]
      unfold Instr.slice
      simp only [Sem.run_bind, run_underlying ht, Result.andThen_ok, h4, run_sizeOf_of hs.symm, Sem.run_pure]
  · rename_i a e j i o len cap sz mx' htd
    cases umx with
    | none => exact hmx.elim
    | some umx =>
      simp only [Ok] at hu
      obtain ⟨A, rfl, hlc, hA⟩ := hu
      obtain ⟨ht, hs⟩ := td_slice htd
      obtain ⟨rfl, hsome, h⟩ := h
      cases hi with
      | none => cases hsome
      | some hi =>
        cases uhi with
        | none => exact hhi.elim
        | some uhi =>
          obtain ⟨m, hh, l, h1, h2, h3, h3', h4⟩ := bounds3_run (P := P) (isS := true) (K1 := fun m h l => sl3 j i o (e + 1) K m h l) hlo hhi hmx h
          refine ⟨_, _, h1, sl_ok hA h3' h3 h2, fun w _ => ?_⟩
          rw [sliceAt_slice ht]
          unfold Instr.slice
          simp only [Sem.run_bind, run_underlying ht, Result.andThen_ok, h4, run_sizeOf_of hs.symm, Sem.run_pure]
  · rename_i s htd
    cases umx with
    | some _ => exact hmx.elim
    | none =>
      have e := ok_v hu; subst e
      have ht := td_str htd
      obtain ⟨hh, l, h1, h2, h3, h4⟩ := bounds_run (P := P) (isS := false) (K1 := fun h l => st2 s K h l) hlo hhi (Nat.le_refl _) h
      refine ⟨_, _, h1, by simp only [Ok]; rfl, fun w _ => ?_⟩
      rw [sliceAt_string ht]
      unfold Instr.slice
      simp only [Sem.run_bind, run_underlying ht, Result.andThen_ok, Option.isSome_none, Bool.false_eq_true, if_false, Sem.run_pure, h4]
  · rename_i a e htd
    cases umx with
    | some _ => exact hmx.elim
    | none =>
      have e1 := ok_v hu; subst e1
      obtain ⟨ht, hs⟩ := td_slice htd
      obtain ⟨hh, l, h1, h2, h3, h4⟩ := bounds_run (P := P) (isS := true) (len := 0) (cap := 0) (K1 := fun _ l => nl2 K l) hlo hhi (Nat.le_refl _) h
      obtain rfl : hh = 0 := by omega
      obtain rfl : l = 0 := by omega
      refine ⟨_, _, h1, by simp only [Ok]; rfl, fun w _ => ?_⟩
      rw [sliceAt_slice ht]
      unfold Instr.slice
      simp only [Sem.run_bind, run_underlying ht, Result.andThen_ok, h4, run_sizeOf_of hs.symm, Sem.run_pure]
      rfl
  · exact h.elim
theorem lenK_gives {t : TypeId} {x : SV} {u : Value} (h : lenK (tdOf P t) x K) (hu : Ok β x u) (ts : Array TypeId) (ty : TypeId) (hts : ts[0]? = some t) : Gives P β C K (Builtin.len_ ts ty #[u]) := by
  unfold lenK at h
  split at h
  · rename_i s htd
    have e := ok_v hu; subst e
    refine ⟨_, _, h, by simp only [Ok]; rfl, fun w _ => ?_⟩
    unfold Builtin.len_
    simp [hts, run_underlying (td_str htd), goInt]
  · rename_i e esz j i o len cap sz htd
    simp only [Ok] at hu
    obtain ⟨A, rfl, _, _⟩ := hu
    refine ⟨_, _, h, by simp only [Ok]; rfl, fun w _ => ?_⟩
    unfold Builtin.len_
    simp [hts, run_underlying (td_slice htd).1, goInt]
  · rename_i e esz A n c htd
    have e := ok_v hu; subst e
    refine ⟨_, _, h, by simp only [Ok]; rfl, fun w _ => ?_⟩
    unfold Builtin.len_
    simp [hts, run_underlying (td_slice htd).1, goInt]
  · rename_i n e esz htd
    refine ⟨_, _, h, by simp only [Ok]; rfl, fun w _ => ?_⟩
    unfold Builtin.len_
    simp [hts, run_underlying (td_array htd).1, goInt]
  · exact h.elim
theorem capK_gives {t : TypeId} {x : SV} {u : Value} (h : capK (tdOf P t) x K) (hu : Ok β x u) (ts : Array TypeId) (ty : TypeId) (hts : ts[0]? = some t) : Gives P β C K (Builtin.cap_ ts ty #[u]) := by
  unfold capK at h
  split at h
  · rename_i e esz j i o len cap sz htd
    simp only [Ok] at hu
    obtain ⟨A, rfl, _, _⟩ := hu
    refine ⟨_, _, h, by simp only [Ok]; rfl, fun w _ => ?_⟩
    unfold Builtin.cap_
    simp [hts, run_underlying (td_slice htd).1, goInt]
  · rename_i e esz A n c htd
    have e := ok_v hu; subst e
    refine ⟨_, _, h, by simp only [Ok]; rfl, fun w _ => ?_⟩
    unfold Builtin.cap_
    simp [hts, run_underlying (td_slice htd).1, goInt]
  · exact h.elim
theorem min2_run (k k' : IntKind) (m n : Int) (w : World) : (Builtin.min2 (.int k m) (.int k' n)).run P w = .ok (.int k (min m n)) w := by
  unfold Builtin.min2
  have : (if n < m then n else m) = min m n := by split <;> omega
  simp only [Sem.run_pure, this]
theorem max2_run (k k' : IntKind) (m n : Int) (w : World) : (Builtin.max2 (.int k m) (.int k' n)).run P w = .ok (.int k (max m n)) w := by
  unfold Builtin.max2
  have : (if n > m then n else m) = max m n := by split <;> omega
  simp only [Sem.run_pure, this]
theorem minK_gives {l : List SV} {us : List Value} (h : minK l K) (hu : OkL β l us) (ts : Array TypeId) (ty : TypeId) : Gives P β C K (Builtin.min_ ts ty us.toArray) := by
  unfold minK at h
  split at h
  · simp only [OkL, Ok] at hu
    obtain ⟨_, _, rfl, rfl, _, _, rfl, rfl, rfl⟩ := hu
    refine ⟨_, _, h, by simp only [Ok]; rfl, fun w _ => ?_⟩
    simp only [Builtin.min_, List.foldlM_cons, List.foldlM_nil, Sem.run_bind, min2_run, Result.andThen_ok, Sem.run_pure]
  · simp only [OkL, Ok] at hu
    obtain ⟨_, _, rfl, rfl, _, _, rfl, rfl, _, _, rfl, rfl, rfl⟩ := hu
    refine ⟨_, _, h, by simp only [Ok]; rfl, fun w _ => ?_⟩
    simp only [Builtin.min_, List.foldlM_cons, List.foldlM_nil, Sem.run_bind, min2_run, Result.andThen_ok, Sem.run_pure]
  · exact h.elim
theorem maxK_gives {l : List SV} {us : List Value} (h : maxK l K) (hu : OkL β l us) (ts : Array TypeId) (ty : TypeId) : Gives P β C K (Builtin.max_ ts ty us.toArray) := by
  unfold maxK at h
  split at h
  · simp only [OkL, Ok] at hu
    obtain ⟨_, _, rfl, rfl, _, _, rfl, rfl, rfl⟩ := hu
    refine ⟨_, _, h, by simp only [Ok]; rfl, fun w _ => ?_⟩
    simp only [Builtin.max_, List.foldlM_cons, List.foldlM_nil, Sem.run_bind, max2_run, Result.andThen_ok, Sem.run_pure]
  · simp only [OkL, Ok] at hu
    obtain ⟨_, _, rfl, rfl, _, _, rfl, rfl, _, _, rfl, rfl, rfl⟩ := hu
    refine ⟨_, _, h, by simp only [Ok]; rfl, fun w _ => ?_⟩
    simp only [Builtin.max_, List.foldlM_cons, List.foldlM_nil, Sem.run_bind, max2_run, Result.andThen_ok, Sem.run_pure]
  · exact h.elim
end
/- ===== reading memory ===== -/
def obAt : List Ob → Nat → Ob
  | [], _ => ⟨0, true, .dead⟩
  | o :: _, 0 => o
  | _ :: l, j + 1 => obAt l j
theorem obAt_get : ∀ {H : List Ob} {j : Nat}, (obAt H j).ct ≠ .dead → H[j]? = some (obAt H j)
  | [], _, h => absurd rfl h
  | o :: _, 0, _ => rfl
  | _ :: l, j + 1, h => by simpa [obAt] using obAt_get (H := l) (j := j) h
def rdSt (o : Ob) (i c n : Nat) (K : List SV → Prop) : Prop :=
  match o.ct with
  | .st cs => i = 0 ∧ K (sub cs c n)
  | _ => False
def rdRow (o : Ob) (i k c sz n : Nat) (K : List SV → Prop) : Prop :=
  match o.ct with
  | .row sz' N len _ f => sz' = sz ∧ i < N ∧ k < len i ∧ K (sub (f i k) c n)
  | _ => False
/-- What a laid variable holds. -/
def globV (g o : Nat) : Option Value := (globs.lookup g).bind fun l => l[o]?
def rdGl (g o n : Nat) (K : List SV → Prop) : Prop := n = 1 ∧ (globV g o).isSome = true ∧ ∀ v, globV g o = some v → K [.v v]
theorem lookup_mem {α : Type} {g : Nat} {y : α} : ∀ {l : List (Nat × α)}, l.lookup g = some y → (g, y) ∈ l
  | [], h => by cases h
  | (k, x) :: l, h => by
    rw [List.lookup_cons] at h
    cases hb : (g == k) with
    | true =>
      rw [hb] at h
      obtain rfl : g = k := by simpa using hb
      obtain rfl : x = y := by simpa using h
      exact List.mem_cons_self
    | false =>
      rw [hb] at h
      exact List.mem_cons_of_mem _ (lookup_mem h)
def readK (H : List Ob) (x : SV) (n : Nat) (K : List SV → Prop) : Prop :=
  match x with
  | .p j i c => rdSt (obAt H j) i c n K
  | .e j i k c sz => rdRow (obAt H j) i k c sz n K
  | .v (.pointer (some ⟨g, o, none⟩)) => rdGl g o n K
  | _ => False
def oneL (agg : Bool) (n : Nat) (K : SV → Prop) (l : List SV) : Prop := oneK agg n l K
def loadK (ti : TI) (x : SV) (H : List Ob) (K : SV → Prop) : Prop :=
  match ti.td with
  | .other => False
  | td => readK H x ti.size (oneL td.agg ti.size K)
/-- Cells that can be read, now and later. -/
def Lies (β : Bs) (w : World) (g b : Nat) (l : List SV) : Prop := ∀ c y, l[c]? = some y → ∃ v, w.cell? ⟨g, b + c, none⟩ = some v ∧ Ok β y v ∧ g < w.heap.size
theorem read_lies {H : List Ob} {x : SV} {n : Nat} {K : List SV → Prop} {β : Bs} {w : World} {u : Value} (h : readK H x n K) (hI : Inv β H w) (hu : Ok β x u) :
    ∃ l g b, K l ∧ u = .pointer (some ⟨g, b, none⟩) ∧ Lies β w g b l := by
  unfold readK at h
  split at h
  · rename_i j i c
    unfold rdSt at h
    split at h
    · rename_i cs hct
      obtain ⟨rfl, hK⟩ := h
      have hg := obAt_get (H := H) (j := j) (by rw [hct]; intro e; cases e)
      have ho := hI.ob j _ hg
      unfold ObOk at ho
      rw [hct] at ho
      obtain ⟨g, cur, h1, h2, h3⟩ := ho
      simp only [Ok] at hu
      obtain ⟨g', b, h4, rfl⟩ := hu
      rw [h1] at h4
      obtain ⟨rfl, rfl⟩ : g = g' ∧ 0 = b := by simpa using h4
      have hlt : g < w.heap.size := by
        rcases Nat.lt_or_ge g w.heap.size with h | h
        · exact h
        · rw [Array.getElem?_eq_none h] at h2; cases h2
      refine ⟨_, g, 0 + c, hK, rfl, fun c' y hy => ?_⟩
      have hy' : cs[c + c']? = some y := by
        unfold sub at hy
        rw [List.getElem?_take] at hy
        split at hy
        · simpa using hy
        · cases hy
      obtain ⟨v, h5, h6⟩ := okL_get h3 _ _ hy'
      refine ⟨v, ?_, h6, hlt⟩
      rw [cell_of_row w g _ cur _ _ h2, Nat.zero_add]
      simpa using h5
    · exact h.elim
  · rename_i j i k c sz
    unfold rdRow at h
    split at h
    · rename_i sz' N len cap f hct
      obtain ⟨rfl, hi, hk, hK⟩ := h
      have hg := obAt_get (H := H) (j := j) (by rw [hct]; intro e; cases e)
      have ho := hI.ob j _ hg
      have hsub : ∀ c' y, (sub (f i k) c n)[c']? = some y → (f i k)[c + c']? = some y := fun c' y hy => by
        unfold sub at hy
        rw [List.getElem?_take] at hy
        split at hy
        · simpa using hy
        · cases hy
      unfold ObOk at ho
      rw [hct] at ho
      simp only [Ok] at hu
      obtain ⟨g', b, h4, rfl⟩ := hu
      simp only at ho
      split at ho
      · obtain ⟨g, b1, h1, h2, h3⟩ := ho i hi k hk
        rw [h1] at h4
        obtain ⟨rfl, rfl⟩ : g = g' ∧ b1 = b := by simpa using h4
        refine ⟨_, g, b1 + (k * sz' + c), hK, rfl, fun c' y hy => ?_⟩
        obtain ⟨v, h5, h6⟩ := h3 _ _ (hsub _ _ hy)
        exact ⟨v, by rw [show b1 + (k * sz' + c) + c' = b1 + (k * sz' + (c + c')) by omega]; exact h5, h6, h2⟩
      · rcases ho i hi with ⟨h1, _⟩ | ⟨g, cur, h1, h2, h3, h5, h6⟩
        · omega
        · rw [h1] at h4
          obtain ⟨rfl, rfl⟩ : g = g' ∧ 0 = b := by simpa using h4
          have hlt : g < w.heap.size := by
            rcases Nat.lt_or_ge g w.heap.size with h | h
            · exact h
            · rw [Array.getElem?_eq_none h] at h2; cases h2
          refine ⟨_, g, 0 + (k * sz' + c), hK, rfl, fun c' y hy => ?_⟩
          obtain ⟨v, h7, h8⟩ := (h6.2 k hk).2 _ _ (hsub _ _ hy)
          refine ⟨v, ?_, h8, hlt⟩
          rw [cell_of_row w g _ cur _ _ h2, show 0 + (k * sz' + c) + c' = k * sz' + (c + c') by omega]
          exact h7
    · exact h.elim
  · rename_i g o
    obtain ⟨_, h1, h2⟩ := h
    have e1 := ok_v hu; subst e1
    obtain ⟨v, hv⟩ := Option.isSome_iff_exists.1 h1
    have hv' := hv
    unfold globV at hv'
    obtain ⟨l, hl, hlo⟩ := Option.bind_eq_some_iff.1 hv'
    obtain ⟨q1, q2, q3, _⟩ := hI.gl _ (lookup_mem hl)
    refine ⟨_, g, o, h2 v hv, rfl, fun c y hy => ?_⟩
    match c, hy with
    | 0, hy =>
      obtain rfl : SV.v v = y := by simpa using hy
      exact ⟨v, q3 o v hlo, by simp only [Ok], q1⟩
    | c + 1, hy => simp at hy
  · exact h.elim
theorem gather {β : Bs} {Q : Nat → Value → Prop} : ∀ {l : List SV}, (∀ c y, l[c]? = some y → ∃ v, Q c v ∧ Ok β y v) → ∃ vs, OkL β l vs ∧ ∀ (c : Nat) (v : Value), vs[c]? = some v → Q c v
  | [], _ => ⟨[], by simp [OkL], fun c v h => by simp at h⟩
  | x :: l, h => by
    obtain ⟨v, h1, h2⟩ := h 0 x rfl
    obtain ⟨vs, h3, h4⟩ := gather (Q := fun c v => Q (c + 1) v) (l := l) fun c y hy => h (c + 1) y (by simpa using hy)
    refine ⟨v :: vs, by simp only [OkL]; exact ⟨v, vs, rfl, h2, h3⟩, fun c u hu => ?_⟩
    cases c with
    | zero => simp at hu; subst hu; exact h1
    | succ c => exact h4 c u (by simpa using hu)
theorem lies_run {P : Program} {β : Bs} {w : World} {g b : Nat} {l : List SV} {t : TypeId} {K : SV → Prop} (h : oneL (tdOf P t).agg (P.cellsOf t) K l) (ht : tdOf P t ≠ .other) (hl : Lies β w g b l) :
    Gives P β (fun w' => Below w.heap.size w w') K (Instr.loadAt t (.pointer (some ⟨g, b, none⟩))) := by
  have later : ∀ w', Below w.heap.size w w' → ∀ c v, w.cell? ⟨g, b + c, none⟩ = some v → g < w.heap.size → w'.cell? ⟨g, b + c, none⟩ = some v := fun w' hb c v hv hg => (hb.cell (p := ⟨g, b + c, none⟩) hg).trans hv
  have two : (∃ y, (tdOf P t).agg = false ∧ l = [y] ∧ P.cellsOf t = 1 ∧ K y) ∨ ((tdOf P t).agg = true ∧ lenIs l (P.cellsOf t) = true ∧ K (.a l)) := by
    unfold oneL oneK at h
    cases hagg : (tdOf P t).agg with
    | true => rw [hagg] at h; exact .inr ⟨rfl, h⟩
    | false =>
      rw [hagg] at h
      match l, h with
      | [y], h => exact .inl ⟨y, rfl, rfl, h.1, h.2⟩
      | [], h => exact h.elim
      | _ :: _ :: _, h => exact h.elim
  rcases two with ⟨y, hagg, rfl, hc, h⟩ | ⟨hagg, h⟩
  · obtain ⟨v, h1, h2, h3⟩ := hl 0 y rfl
    refine ⟨y, v, h, h2, fun w' hw' => ?_⟩
    have := later w' hw' 0 v h1 h3
    simp only [Instr.loadAt, Instr.sureAddr, loadVar, Sem.run_bind, Sem.run_pure, td_agg ht, hagg, Result.andThen_ok, Bool.false_eq_true, if_false]
    simp only [Nat.add_zero] at this
    simp [load, Sem.run, this]
  · obtain ⟨hlen, hK⟩ := h
    have hlen := lenIs_eq _ _ hlen
    obtain ⟨vs, h1, h2⟩ := gather (Q := fun c v => w.cell? ⟨g, b + c, none⟩ = some v ∧ g < w.heap.size) (β := β) (l := l) fun c y hy => by
      obtain ⟨v, h1, h2, h3⟩ := hl c y hy
      exact ⟨v, ⟨h1, h3⟩, h2⟩
    refine ⟨.a l, .agg vs.toArray, hK, by simp only [Ok]; exact ⟨_, rfl, by simpa using h1⟩, fun w' hw' => ?_⟩
    have hvs : vs.length = P.cellsOf t := (okL_length h1).trans hlen
    have hr := run_loadCells_list (P := P) (w := w') ⟨g, b, none⟩ vs (fun j v hv => by
      obtain ⟨h3, h4⟩ := h2 j v hv
      rw [add_none]
      exact later w' hw' j v h3 h4)
    have hs : (sizeOf t).run P w' = .ok vs.length w' := by
      unfold Program.cellsOf at hvs
      cases hi : P.info? t with
      | none =>
        exfalso
        apply ht
        unfold tdOf Program.underlying
        rw [hi]
      | some i =>
        rw [hi] at hvs
        simp [sizeOf, typeInfo, program, hi, bind, Sem.bind, Sem.run, pure, hvs]
    simp only [Instr.loadAt, Instr.sureAddr, loadVar, Sem.run_bind, Sem.run_pure, td_agg ht, hagg, Result.andThen_ok, if_true, hs, hr]
theorem loadK_gives {P : Program} {β : Bs} {w : World} {H : List Ob} {t : TypeId} {x : SV} {u : Value} {K : SV → Prop} (h : loadK (tiOf P t) x H K) (hI : Inv β H w) (hu : Ok β x u) :
    Gives P β (fun w' => Below w.heap.size w w') K (Instr.loadAt t u) := by
  unfold loadK at h
  split at h
  · exact h.elim
  · rename_i hne
    obtain ⟨l, g, b, h1, rfl, h2⟩ := read_lies h hI hu
    exact lies_run h1 hne h2
/- ===== new objects, and objects that change ===== -/
def push (β : Bs) (n : Nat) (x : Option (Nat × Nat)) : Bs := fun j i => if j = n then (if i = 0 then x else none) else β j i
theorem push_new (β : Bs) (n : Nat) (x : Option (Nat × Nat)) : push β n x n 0 = x := by simp [push]
theorem push_old (β : Bs) (n : Nat) (x : Option (Nat × Nat)) {j : Nat} (h : j ≠ n) (i : Nat) : push β n x j i = β j i := by simp [push, h]
theorem push_le {β : Bs} {H : List Ob} {w : World} (hI : Inv β H w) (x : Option (Nat × Nat)) : BLe β (push β H.length x) := fun j i y h => by
  have : j ≠ H.length := fun e => by have := hI.out j i (by omega); rw [this] at h; cases h
  rw [push_old _ _ _ this]; exact h
/-- The memory of all members is as it was, but for block g. -/
def Same (β : Bs) (H : List Ob) (w w' : World) : Prop := ∀ j i g b o, H[j]? = some o → o.mem i → β j i = some (g, b) → w'.heap[g]? = w.heap[g]?
theorem inv_push {β : Bs} {H : List Ob} {w w' : World} {ob : Ob} (hI : Inv β H w) (x : Option (Nat × Nat)) (hsz : w.heap.size ≤ w'.heap.size) (hs : Same β H w w')
    (hf : ∀ g b, x = some (g, b) → ∀ j i b' o, H[j]? = some o → o.mem i → β j i = some (g, b') → False) (hob : ObOk (push β H.length x) w' H.length ob) (hN : (∀ i, ob.mem i → i = 0) ∧ ¬ ob.over 0) : Inv0 (push β H.length x) (H ++ [ob]) w' := by
  have cases' : ∀ j o, (H ++ [ob])[j]? = some o → (H[j]? = some o ∧ j ≠ H.length) ∨ (j = H.length ∧ o = ob) := by
    intro j o ho
    rcases Nat.lt_trichotomy j H.length with h | h | h
    · rw [List.getElem?_append_left h] at ho
      exact .inl ⟨ho, by omega⟩
    · subst h
      simp at ho
      exact .inr ⟨rfl, ho.symm⟩
    · rw [List.getElem?_eq_none (by simp; omega)] at ho; cases ho
  refine ⟨fun j o ho => ?_, fun j i hj => ?_, fun j i j' i' o o' g b b' ho ho' hw hm hb hb' => ?_, fun j o i ho hov => ?_⟩
  · rcases cases' j o ho with ⟨h, hj⟩ | ⟨rfl, rfl⟩
    · exact (hI.ob j o h).same (push_le hI x) (fun i hn => by rw [push_old _ _ _ hj]; exact hn) hsz (fun i g b hm hb => hs j i g b o h hm hb)
    · exact hob
  · simp at hj
    rw [push_old _ _ _ (by omega)]
    exact hI.out j i (by omega)
  · rcases cases' j o ho with ⟨h, hj⟩ | ⟨rfl, rfl⟩
    · rw [push_old _ _ _ hj] at hb
      rcases cases' j' o' ho' with ⟨h', hj'⟩ | ⟨rfl, rfl⟩
      · rw [push_old _ _ _ hj'] at hb'
        exact hI.sep j i j' i' o o' g b b' h h' hw hm hb hb'
      · have hi := hN.1 i' hm
        subst hi
        rw [push_new] at hb'
        exact (hf g b' hb' j i b o h (Ob.own_mem hw) hb).elim
    · have hi := hN.1 i (Ob.own_mem hw)
      subst hi
      rw [push_new] at hb
      rcases cases' j' o' ho' with ⟨h', hj'⟩ | ⟨rfl, rfl⟩
      · rw [push_old _ _ _ hj'] at hb'
        exact (hf g b hb j' i' b' o' h' hm hb').elim
      · exact ⟨rfl, (hN.1 i' hm).symm⟩
  · rcases cases' j o ho with ⟨h, hj⟩ | ⟨rfl, rfl⟩
    · rw [push_old _ _ _ hj]; exact hI.bey j o i h hov
    · have : i ≠ 0 := fun e => hN.2 (e ▸ hov)
      simp [push, this]
/-- A new object in new memory. -/
theorem inv_new0 {β : Bs} {H : List Ob} {w w' : World} {ob : Ob} (hI : Inv β H w) (hb : Below w.heap.size w w') (x : Option (Nat × Nat)) (hx : ∀ g b, x = some (g, b) → w.heap.size ≤ g)
    (hob : ObOk (push β H.length x) w' H.length ob) (hN : (∀ i, ob.mem i → i = 0) ∧ ¬ ob.over 0) : Inv0 (push β H.length x) (H ++ [ob]) w' ∧ BLe β (push β H.length x) ∧ ∀ n0, Fr n0 β H w (push β H.length x) (H ++ [ob]) w' := by
  have hold : ∀ j i g b o, H[j]? = some o → o.mem i → β j i = some (g, b) → g < w.heap.size := fun j i g b o ho hm hg => (hI.ob j o ho).block hm hg
  refine ⟨inv_push hI x hb.size (fun j i g b o ho hm hg => hb.block g (hold j i g b o ho hm hg)) (fun g b hx' j i b' o ho hm hg => ?_) hob hN, push_le hI x,
    fun n0 => ⟨hb.tape, hb.os, hb.output, hb.size, fun g hg _ => hb.block g hg, fun g hg ho => ?_, fun g hg ho => ?_, fun j i y _ h => push_le hI x j i y h, fun hl => by simp; omega⟩⟩
  · have := hx g b hx'
    have := hold j i g b' o ho hm hg
    omega
  · obtain ⟨j, i, o, b, h1, h2, h3⟩ := ho
    rcases Nat.lt_trichotomy j H.length with h | h | h
    · rw [List.getElem?_append_left h] at h1
      rw [push_old _ _ _ (by omega)] at h3
      exact ⟨j, i, o, b, h1, h2, h3⟩
    · subst h
      simp at h1
      subst h1
      have hi := hN.1 i (Ob.own_mem h2)
      subst hi
      rw [push_new] at h3
      have := hx g b h3
      omega
    · rw [List.getElem?_eq_none (by simp; omega)] at h1; cases h1
  · obtain ⟨j, i, o, b, h1, h2, h3⟩ := ho
    rcases Nat.lt_trichotomy j H.length with h | h | h
    · rw [List.getElem?_append_left h] at h1
      rw [push_old _ _ _ (by omega)] at h3
      exact ⟨j, i, o, b, h1, h2, h3⟩
    · subst h
      simp at h1
      subst h1
      have hi := hN.1 i h2
      subst hi
      rw [push_new] at h3
      have := hx g b h3
      omega
    · rw [List.getElem?_eq_none (by simp; omega)] at h1; cases h1
theorem inv_new {β : Bs} {H : List Ob} {w w' : World} {ob : Ob} (hI : Inv β H w) (hb : Below w.heap.size w w') (x : Option (Nat × Nat)) (hx : ∀ g b, x = some (g, b) → w.heap.size ≤ g)
    (hob : ObOk (push β H.length x) w' H.length ob) (hN : (∀ i, ob.mem i → i = 0) ∧ ¬ ob.over 0) : Inv (push β H.length x) (H ++ [ob]) w' ∧ BLe β (push β H.length x) ∧ ∀ n0, Fr n0 β H w (push β H.length x) (H ++ [ob]) w' := by
  obtain ⟨h1, h2, h3⟩ := inv_new0 hI hb x hx hob hN
  exact ⟨⟨h1, hI.gl.fr (h3 0)⟩, h2, h3⟩
/-- An object of which no more is said. -/
def deadOb : Ob := ⟨0, true, .dead⟩
theorem inv_kill0 {β : Bs} {H : List Ob} {w : World} (hI : Inv β H w) (j0 : Nat) : Inv0 β (H.set j0 deadOb) w ∧ ∀ n0, Fr n0 β H w β (H.set j0 deadOb) w := by
  have key : ∀ j o, (H.set j0 deadOb)[j]? = some o → o = deadOb ∨ (j ≠ j0 ∧ H[j]? = some o) := fun j o h => by
    by_cases e : j = j0
    · subst e
      rw [List.getElem?_set_self'] at h
      cases hj : H[j]? with
      | none => rw [hj] at h; cases h
      | some q => rw [hj] at h; simp at h; exact .inl h.symm
    · rw [List.getElem?_set_ne (Ne.symm e)] at h
      exact .inr ⟨e, h⟩
  refine ⟨⟨fun j o ho => ?_, fun j i hj => hI.out j i (by simpa using hj), fun j i j' i' o o' g b b' ho ho' hw hm hb hb' => ?_, fun j o i ho hov => ?_⟩, fun n0 => ⟨rfl, rfl, rfl, Nat.le_refl _, fun _ _ _ => rfl, fun g _ ho => ?_, fun g _ ho => ?_, fun _ _ _ _ h => h, fun hl => by simpa using hl⟩⟩
  · rcases key j o ho with rfl | ⟨_, h⟩
    · trivial
    · exact hI.ob j o h
  · rcases key j o ho with rfl | ⟨_, h⟩
    · exact hw.elim
    · rcases key j' o' ho' with rfl | ⟨_, h'⟩
      · exact hm.elim
      · exact hI.sep j i j' i' o o' g b b' h h' hw hm hb hb'
  · rcases key j o ho with rfl | ⟨_, h⟩
    · exact hov.elim
    · exact hI.bey j o i h hov
  · obtain ⟨j, i, o, b, h1, h2, h3⟩ := ho
    rcases key j o h1 with rfl | ⟨_, h⟩
    · exact h2.elim
    · exact ⟨j, i, o, b, h, h2, h3⟩
  · obtain ⟨j, i, o, b, h1, h2, h3⟩ := ho
    rcases key j o h1 with rfl | ⟨_, h⟩
    · exact h2.elim
    · exact ⟨j, i, o, b, h, h2, h3⟩
theorem inv_kill {β : Bs} {H : List Ob} {w : World} (hI : Inv β H w) (j0 : Nat) : Inv β (H.set j0 deadOb) w ∧ ∀ n0, Fr n0 β H w β (H.set j0 deadOb) w := by
  obtain ⟨h1, h3⟩ := inv_kill0 hI j0
  exact ⟨⟨h1, hI.gl.fr (h3 0)⟩, h3⟩
/-- A member is written. -/
theorem inv_set0 {β : Bs} {H : List Ob} {w w' : World} {o ob' : Ob} {j i g b : Nat} (hI : Inv β H w) (hj : H[j]? = some o) (hw : o.own i) (hb : β j i = some (g, b))
    (ht : w'.tape = w.tape) (hos : w'.os = w.os) (hout : w'.output = w.output) (hsz : w'.heap.size = w.heap.size) (hh : ∀ k, k ≠ g → w'.heap[k]? = w.heap[k]?)
    (hob : ObOk β w' j ob') (hown : ∀ i, ob'.own i → o.own i) (hmem : ∀ i, ob'.mem i → o.mem i) (hov : ∀ i, ob'.over i → o.over i) : Inv0 β (H.set j ob') w' ∧ ∀ n0, Fr n0 β H w β (H.set j ob') w' := by
  have hlt : j < H.length := (List.getElem?_eq_some_iff.1 hj).1
  have key : ∀ j1 o1, (H.set j ob')[j1]? = some o1 → (j1 = j ∧ o1 = ob') ∨ (j1 ≠ j ∧ H[j1]? = some o1) := fun j1 o1 h => by
    by_cases e : j1 = j
    · subst e
      rw [List.getElem?_set_self hlt] at h
      exact .inl ⟨rfl, (Option.some.inj h).symm⟩
    · rw [List.getElem?_set_ne (Ne.symm e)] at h
      exact .inr ⟨e, h⟩
  refine ⟨⟨fun j1 o1 ho => ?_, fun j i hj => hI.out j i (by simpa using hj), fun j1 i1 j2 i2 o1 o2 g1 b1 b2 ho ho' hw' hm hb1 hb2 => ?_, fun j1 o1 i1 ho hv => ?_⟩, fun n0 => ⟨ht, hos, hout, by omega, fun k hk hn => ?_, fun k _ ho => ?_, fun k _ ho => ?_, fun _ _ _ _ h => h, fun hl => by simpa using hl⟩⟩
  · rcases key j1 o1 ho with ⟨rfl, rfl⟩ | ⟨hne, h⟩
    · exact hob
    · refine (hI.ob j1 o1 h).same (BLe.refl β) (fun _ h => h) (by omega) fun i1 g1 b1 hm hg1 => ?_
      by_cases e : g1 = g
      · subst e
        have := (hI.sep j i j1 i1 o o1 g1 b b1 hj h hw hm hb hg1).1
        omega
      · exact hh g1 e
  · rcases key j1 o1 ho with ⟨rfl, rfl⟩ | ⟨hne, h⟩ <;> rcases key j2 o2 ho' with ⟨e2, e3⟩ | ⟨hne', h'⟩
    · subst e2 e3; exact hI.sep _ i1 _ i2 o o g1 b1 b2 hj hj (hown _ hw') (hmem _ hm) hb1 hb2
    · exact hI.sep _ i1 j2 i2 o o2 g1 b1 b2 hj h' (hown _ hw') hm hb1 hb2
    · subst e2 e3; exact hI.sep j1 i1 _ i2 o1 o g1 b1 b2 h hj hw' (hmem _ hm) hb1 hb2
    · exact hI.sep j1 i1 j2 i2 o1 o2 g1 b1 b2 h h' hw' hm hb1 hb2
  · rcases key j1 o1 ho with ⟨rfl, rfl⟩ | ⟨_, h⟩
    · exact hI.bey _ o i1 hj (hov _ hv)
    · exact hI.bey j1 o1 i1 h hv
  · refine hh k fun e => hn ?_
    subst e
    exact ⟨j, i, o, b, hj, hw, hb⟩
  · obtain ⟨j1, i1, o1, b1, h1, h2, h3⟩ := ho
    rcases key j1 o1 h1 with ⟨rfl, rfl⟩ | ⟨_, h⟩
    · exact ⟨_, i1, o, b1, hj, hown _ h2, h3⟩
    · exact ⟨j1, i1, o1, b1, h, h2, h3⟩
  · obtain ⟨j1, i1, o1, b1, h1, h2, h3⟩ := ho
    rcases key j1 o1 h1 with ⟨rfl, rfl⟩ | ⟨_, h⟩
    · exact ⟨_, i1, o, b1, hj, hmem _ h2, h3⟩
    · exact ⟨j1, i1, o1, b1, h, h2, h3⟩
theorem inv_set {β : Bs} {H : List Ob} {w w' : World} {o ob' : Ob} {j i g b : Nat} (hI : Inv β H w) (hj : H[j]? = some o) (hw : o.own i) (hb : β j i = some (g, b))
    (ht : w'.tape = w.tape) (hos : w'.os = w.os) (hout : w'.output = w.output) (hsz : w'.heap.size = w.heap.size) (hh : ∀ k, k ≠ g → w'.heap[k]? = w.heap[k]?)
    (hob : ObOk β w' j ob') (hown : ∀ i, ob'.own i → o.own i) (hmem : ∀ i, ob'.mem i → o.mem i) (hov : ∀ i, ob'.over i → o.over i) : Inv β (H.set j ob') w' ∧ ∀ n0, Fr n0 β H w β (H.set j ob') w' := by
  obtain ⟨h1, h3⟩ := inv_set0 hI hj hw hb ht hos hout hsz hh hob hown hmem hov
  exact ⟨⟨h1, hI.gl.fr (h3 0)⟩, h3⟩
/-- What an operation that makes or writes memory comes to. -/
def Does (P : Program) (β : Bs) (H : List Ob) (w : World) (K : SV → List Ob → Prop) (s : Sem Value) : Prop :=
  ∃ r z β' H' w', K r H' ∧ s.run P w = .ok z w' ∧ Ok β' r z ∧ Inv β' H' w' ∧ BLe β β' ∧ ∀ n0, Fr n0 β H w β' H' w'
theorem does_of0 {P : Program} {β : Bs} {H : List Ob} {w : World} {K : SV → List Ob → Prop} {s : Sem Value} (hg : GlobOk β H w) (h : ∃ r z β' H' w', K r H' ∧ s.run P w = .ok z w' ∧ Ok β' r z ∧ Inv0 β' H' w' ∧ BLe β β' ∧ ∀ n0, Fr n0 β H w β' H' w') : Does P β H w K s :=
  let ⟨r, z, β', H', w', h1, h2, h3, h4, h5, h6⟩ := h
  ⟨r, z, β', H', w', h1, h2, h3, ⟨h4, hg.fr (h6 0)⟩, h5, h6⟩
/-- The cells of a value. -/
def svc : SV → List SV
  | .a l => l
  | x => [x]
def one1 : SV → Bool
  | .a _ => false
  | .t _ => false
  | .und => false
  | .junk => false
  | .v (.agg _) => false
  | .v (.tuple _) => false
  | _ => true
def ones : List SV → Bool
  | [] => true
  | x :: l => one1 x && ones l
theorem one1_cells {β : Bs} {x : SV} {u : Value} (h : one1 x = true) (hu : Ok β x u) : u.cells = #[u] ∧ u.oneCell' = true := by
  cases x with
  | v y =>
    have e := ok_v hu
    subst e
    cases u <;> first | (simp [one1] at h; done) | exact ⟨rfl, rfl⟩
  | p j i c => simp only [Ok] at hu; obtain ⟨g, b, _, rfl⟩ := hu; exact ⟨rfl, rfl⟩
  | e j i k c sz => simp only [Ok] at hu; obtain ⟨g, b, _, rfl⟩ := hu; exact ⟨rfl, rfl⟩
  | s j i o len cap sz => simp only [Ok] at hu; obtain ⟨A, rfl, _⟩ := hu; exact ⟨rfl, rfl⟩
  | f fn a b => simp only [Ok] at hu; obtain ⟨xs, ys, rfl, _⟩ := hu; exact ⟨rfl, rfl⟩
  | m j => simp only [Ok] at hu; obtain ⟨g, b, _, rfl⟩ := hu; exact ⟨rfl, rfl⟩
  | a l => simp [one1] at h
  | t l => simp [one1] at h
  | und => simp [one1] at h
  | junk => simp [one1] at h
theorem svc_cells {β : Bs} {x : SV} {u : Value} (h : ones (svc x) = true) (hu : Ok β x u) : OkL β (svc x) u.cells.toList := by
  cases x with
  | a l => simp only [Ok] at hu; obtain ⟨xs, rfl, h2⟩ := hu; exact h2
  | _ =>
    have h1 := one1_cells (by simpa [ones, svc] using h) hu
    rw [h1.1]
    simp only [svc, OkL]
    exact ⟨u, [], rfl, hu, rfl⟩
theorem ones_cells {β : Bs} : ∀ {l : List SV} {us : List Value}, ones l = true → OkL β l us → ∀ u ∈ us, u.oneCell' = true
  | [], us, _, h => by simp only [OkL] at h; subst h; simp
  | x :: l, us, ho, h => by
    simp only [OkL] at h
    obtain ⟨u, us', rfl, h2, h3⟩ := h
    simp only [ones, Bool.and_eq_true] at ho
    intro y hy
    rcases List.mem_cons.1 hy with rfl | hy
    · exact (one1_cells ho.1 h2).2
    · exact ones_cells ho.2 h3 y hy
def newSt (t : TypeId) (cs : List SV) (H : List Ob) (K : SV → List Ob → Prop) : Prop := K (.p H.length 0 0) (H ++ [⟨t, false, .st cs⟩])
theorem newSt_does {P : Program} {β : Bs} {H : List Ob} {w : World} {K : SV → List Ob → Prop} {t : TypeId} {cs : List SV} {us : Array Value} {s : Sem Value} (h : newSt t cs H K) (hI : Inv β H w) (hu : OkL β cs us.toList)
    (hs : s.run P w = .ok (.pointer (some ⟨w.heap.size, 0, none⟩)) (w.alloc (.cells us t))) : Does P β H w K s := by
  have hb : Below w.heap.size w (w.alloc (.cells us t)) := (Below.refl _ _).alloc (Nat.le_refl _) _
  have hob : ObOk (push β H.length (some (w.heap.size, 0))) (w.alloc (.cells us t)) H.length ⟨t, false, .st cs⟩ := ⟨w.heap.size, us, push_new _ _ _, heap_alloc_new w _, OkL.mono (push_le hI _) _ _ hu⟩
  obtain ⟨h1, h2, h3⟩ := inv_new hI hb (some (w.heap.size, 0)) (fun g b e => by simp at e; omega) hob ⟨fun i hi => hi, fun h => Nat.lt_irrefl _ h⟩
  refine ⟨_, _, _, _, _, h, hs, ?_, h1, h2, h3⟩
  simp only [Ok]
  exact ⟨w.heap.size, 0, push_new _ _ _, by simp⟩
def allocK (t : TypeId) (z : Option (List Value)) (H : List Ob) (K : SV → List Ob → Prop) : Prop :=
  match z with
  | some l => newSt t (l.map SV.v) H K
  | none => False
theorem run_newVar' (P : Program) (w : World) (t : TypeId) (v : Value) : (newVar t v).run P w = .ok ⟨w.heap.size, 0, none⟩ (w.alloc (.cells v.cells t)) := by
  rfl
theorem allocK_does {P : Program} {β : Bs} {H : List Ob} {w : World} {K : SV → List Ob → Prop} {t : TypeId} (h : allocK t (tiOf P t).zero H K) (hI : Inv β H w) : Does P β H w K (Instr.alloc t true (.tuple #[])) := by
  unfold allocK at h
  split at h
  · rename_i l hz
    obtain ⟨v, h1, h2⟩ := run_zeroValue_of hz w
    refine newSt_does (us := v.cells) h hI (by rw [h2]; exact okL_vs l) ?_
    unfold Instr.alloc
    simp only [Sem.run_bind, h1, Result.andThen_ok, run_newVar', Sem.run_pure]
  · exact h.elim
def boxK (t : TypeId) (x : SV) (H : List Ob) (K : SV → List Ob → Prop) : Prop := ones (svc x) = true ∧ newSt t (svc x) H K
theorem boxK_does {P : Program} {β : Bs} {H : List Ob} {w : World} {K : SV → List Ob → Prop} {t : TypeId} {x : SV} {u : Value} (h : boxK t x H K) (hI : Inv β H w) (hu : Ok β x u) : Does P β H w K (Instr.box t u) := by
  refine newSt_does (us := u.cells) h.2 hI (svc_cells h.1 hu) ?_
  unfold Instr.box
  simp only [Sem.run_bind, Result.andThen_ok, run_newVar', Sem.run_pure]
/- ===== literals ===== -/
def spliceO : List SV → Nat → List SV → Option (List SV)
  | l, 0, [] => some l
  | _ :: l, 0, y :: c => (spliceO l 0 c).map (y :: ·)
  | x :: l, n + 1, c => (spliceO l n c).map (x :: ·)
  | _, _, _ => none
theorem spliceO_len : ∀ {l : List SV} {n : Nat} {c l' : List SV}, spliceO l n c = some l' → l'.length = l.length ∧ n + c.length ≤ l.length
  | l, 0, [], l', h => by
    have : l = l' := by cases l <;> simpa [spliceO] using h
    subst this
    simp
  | x :: l, 0, y :: c, l', h => by
    simp only [spliceO, Option.map_eq_some_iff] at h
    obtain ⟨l1, h1, rfl⟩ := h
    have := spliceO_len h1
    simp at this ⊢
    omega
  | x :: l, n + 1, c, l', h => by
    simp only [spliceO, Option.map_eq_some_iff] at h
    obtain ⟨l1, h1, rfl⟩ := h
    have := spliceO_len h1
    simp at this ⊢
    omega
  | [], 0, y :: c, l', h => by simp [spliceO] at h
  | [], n + 1, c, l', h => by simp [spliceO] at h
theorem spliceO_get : ∀ {l : List SV} {n : Nat} {c l' : List SV}, spliceO l n c = some l' → ∀ i, l'[i]? = if n ≤ i ∧ i < n + c.length then c[i - n]? else l[i]?
  | l, 0, [], l', h, i => by
    have : l = l' := by cases l <;> simpa [spliceO] using h
    subst this
    simp
  | x :: l, 0, y :: c, l', h, i => by
    simp only [spliceO, Option.map_eq_some_iff] at h
    obtain ⟨l1, h1, rfl⟩ := h
    cases i with
    | zero => simp
    | succ i =>
      have := spliceO_get h1 i
      simp at this ⊢
      exact this
  | x :: l, n + 1, c, l', h, i => by
    simp only [spliceO, Option.map_eq_some_iff] at h
    obtain ⟨l1, h1, rfl⟩ := h
    cases i with
    | zero => simp
    | succ i =>
      have := spliceO_get h1 i
      simp only [List.getElem?_cons_succ, this]
      by_cases hc : n ≤ i ∧ i < n + c.length
      · rw [if_pos hc, if_pos (by omega), show i + 1 - (n + 1) = i - n by omega]
      · rw [if_neg hc, if_neg (by omega)]
  | [], 0, y :: c, l', h, i => by simp [spliceO] at h
  | [], n + 1, c, l', h, i => by simp [spliceO] at h
/-- Cells that are replaced, in the model's way. -/
theorem fold_get (vs : List Value) (off : Nat) : ∀ (k : Nat) (cs : Array Value) (i : Nat), off + k + vs.length ≤ cs.size →
    ((vs.zipIdx k).foldl (fun cs (c, j) => cs.setIfInBounds (off + j) c) cs)[i]? = if off + k ≤ i ∧ i < off + k + vs.length then vs[i - (off + k)]? else cs[i]? := by
  induction vs with
  | nil => intro k cs i _; simp; omega
  | cons v vs ih =>
    intro k cs i hl
    simp only [List.zipIdx_cons, List.foldl_cons]
    simp only [List.length_cons] at hl ⊢
    rw [ih (k + 1) _ i (by simp; omega)]
    by_cases h1 : off + (k + 1) ≤ i ∧ i < off + (k + 1) + vs.length
    · rw [if_pos h1, if_pos (by omega), show i - (off + k) = (i - (off + (k + 1))) + 1 by omega, List.getElem?_cons_succ]
    · rw [if_neg h1]
      by_cases h2 : i = off + k
      · subst h2
        rw [if_pos (by omega), Nat.sub_self]
        simp [Array.getElem?_setIfInBounds]
        omega
      · rw [if_neg (by omega), Array.getElem?_setIfInBounds, if_neg (by omega)]
theorem fold_size (vs : List Value) (off : Nat) : ∀ (k : Nat) (cs : Array Value), ((vs.zipIdx k).foldl (fun cs (c, j) => cs.setIfInBounds (off + j) c) cs).size = cs.size := by
  induction vs with
  | nil => intro k cs; simp
  | cons v vs ih => intro k cs; simp only [List.zipIdx_cons, List.foldl_cons]; rw [ih]; simp
theorem splice_ok {β : Bs} {l c l' : List SV} {cs : Array Value} {vs : List Value} {off : Nat} (h : spliceO l off c = some l') (hl : OkL β l cs.toList) (hc : OkL β c vs) :
    OkL β l' ((vs.zipIdx).foldl (fun cs (c, j) => cs.setIfInBounds (off + j) c) cs).toList := by
  have hlen := spliceO_len h
  have hcl := okL_length hc
  have hll := okL_length hl
  have hll' : cs.size = l.length := by simpa using hll
  refine okL_of (by simp only [Array.length_toList]; rw [fold_size]; omega) fun i x hx => ?_
  rw [spliceO_get h] at hx
  have := fold_get vs off 0 cs i (by omega)
  rw [Array.getElem?_toList, this]
  by_cases hi : off ≤ i ∧ i < off + c.length
  · rw [if_pos hi] at hx
    rw [if_pos (by omega)]
    exact okL_get hc _ _ hx
  · rw [if_neg hi] at hx
    rw [if_neg (by omega)]
    have := okL_get hl _ _ hx
    simpa using this
def plS (td : TD) (i : Nat) : Option (Nat × Nat) :=
  match td with
  | .struct fs => match nth fs i with
    | some (off, _, sz) => some (off, sz)
    | none => none
  | .array _ _ esz => some (i * esz, esz)
  | _ => none
def plR (esz : Nat) (i : Nat) : Option (Nat × Nat) := some (i * esz, esz)
def fill1 (l cells : List SV) (K : List SV → Prop) (p : Nat × Nat) : Prop := lenIs l p.2 = true ∧ ones l = true ∧ optK (spliceO cells p.1 l) K
def fillK (pl : Nat → Option (Nat × Nat)) (K : List SV → Prop) : List (Nat × SV) → List SV → Prop
  | [], cells => K cells
  | (i, x) :: rest, cells => optK (pl i) (fill1 (svc x) cells (fillK pl K rest))
/-- The operands of a literal. -/
def OkP (β : Bs) : List (Nat × SV) → List (Nat × Value) → Prop
  | [], us => us = []
  | (i, x) :: l, us => ∃ u us', us = (i, u) :: us' ∧ Ok β x u ∧ OkP β l us'
theorem fillK_run {β : Bs} {pl : Nat → Option (Nat × Nat)} {K : List SV → Prop} : ∀ {parts : List (Nat × SV)} {us : List (Nat × Value)} {cells : List SV} {cs : Array Value}, fillK pl K parts cells → OkP β parts us → OkL β cells cs.toList →
    ∃ cells' cs', K cells' ∧ OkL β cells' cs'.toList ∧ Instr.fill pl cs us = some cs'
  | [], us, cells, cs, h, hp, hc => by
    simp only [OkP] at hp
    subst hp
    exact ⟨cells, cs, h, hc, rfl⟩
  | (i, x) :: rest, us, cells, cs, h, hp, hc => by
    simp only [OkP] at hp
    obtain ⟨u, us', rfl, h2, h3⟩ := hp
    simp only [fillK] at h
    obtain ⟨⟨off, sz⟩, hpl, h4, h5, h6⟩ := optK_iff h
    obtain ⟨cells', hsp, h6⟩ := optK_iff h6
    simp only at h4 hsp
    have hu := svc_cells h5 h2
    have hlen := okL_length hu
    have hl4 := lenIs_eq _ _ h4
    have hsl := spliceO_len hsp
    have hcl := okL_length hc
    have e1 : u.cells.size = sz := by simpa [hl4] using hlen
    have e2 : cs.size = cells.length := by simpa using hcl
    obtain ⟨c1, c2, h7, h8, h9⟩ := fillK_run h6 h3 (splice_ok hsp hc hu)
    refine ⟨c1, c2, h7, h8, ?_⟩
    unfold Instr.fill
    simp only [hpl]
    rw [if_neg (by simp [e1]; omega)]
    have : (u.cells.zipIdx.foldl (fun cs (x : Value × Nat) => match x with | (c, j) => cs.setIfInBounds (off + j) c) cs) = (u.cells.toList.zipIdx.foldl (fun cs (c, j) => cs.setIfInBounds (off + j) c) cs) := by
      rw [← Array.foldl_toList]; simp
    rw [this]
    exact h9
/- ===== literals, go on ===== -/
def posAll : List (Nat × Nat × Nat) → Bool
  | [] => true
  | (_, _, sz) :: l => (match sz with | 0 => false | _ + 1 => true) && posAll l
def TD.posOk (td : TD) : Bool :=
  match td with
  | .struct fs => posAll fs
  | .array _ _ (_ + 1) => true
  | _ => false
def aK (K : SV → Prop) (l : List SV) : Prop := K (.a l)
def buildK (ti : TI) (parts : List (Nat × SV)) (K : SV → Prop) : Prop :=
  match ti.zero with
  | some z => ti.td.posOk = true ∧ fillK (plS ti.td) (aK K) parts (z.map SV.v)
  | none => False
theorem places_of (P : Program) : ∀ (fs : List Field), posAll (fs.map fun f => (f.offset, f.type, P.cellsOf f.type)) = true →
    fs.mapM (fun f => (P.info? f.type).map fun i => (f.offset, i.size)) = some (fs.map fun f => (f.offset, P.cellsOf f.type))
  | [], _ => rfl
  | f :: fs, h => by
    simp only [List.map_cons, posAll, Bool.and_eq_true] at h
    have ih := places_of P fs h.2
    rw [List.mapM_cons, ih]
    cases hi : P.info? f.type with
    | none =>
      have : P.cellsOf f.type = 0 := by unfold Program.cellsOf; rw [hi]; rfl
      rw [this] at h
      simp at h
    | some i =>
      have : P.cellsOf f.type = i.size := by unfold Program.cellsOf; rw [hi]; rfl
      simp [this]
theorem plS_struct (P : Program) (fs : List Field) (i : Nat) : plS (.struct (fs.map fun f => (f.offset, f.type, P.cellsOf f.type))) i = (fs.map fun f => (f.offset, P.cellsOf f.type)).toArray[i]? := by
  simp only [plS, nth_eq, List.getElem?_map, List.getElem?_toArray]
  cases fs[i]? <;> rfl
theorem okP_of {β : Bs} {σ : Sl} {a : Act} (h : SlotsOk β σ a) : ∀ (l : List (Nat × Operand)), OkP β (l.map fun (i, x) => (i, ev σ x)) (l.map fun (i, x) => (i, a.eval x))
  | [] => by simp [OkP]
  | (i, x) :: l => by
    simp only [List.map_cons, OkP]
    exact ⟨a.eval x, _, rfl, ev_ok h x, okP_of h l⟩
theorem buildK_gives {P : Program} {β : Bs} {C : World → Prop} {K : SV → Prop} {t : TypeId} {parts : List (Nat × SV)} {us : Array (Nat × Value)} (h : buildK (tiOf P t) parts K) (hp : OkP β parts us.toList) : Gives P β C K (Instr.build t us) := by
  unfold buildK at h
  split at h
  · rename_i z hz
    obtain ⟨hpos, h⟩ := h
    simp only [tiOf] at hz
    cases hi : P.info? t with
    | none => rw [hi] at hz; cases hz
    | some it =>
      rw [hi] at hz
      simp only [Option.bind_some] at hz
      cases hzz : it.zero with
      | none => rw [hzz] at hz; cases hz
      | some zv =>
        rw [hzz] at hz
        have hzc : zv.cells.toList = z := by simpa using hz
        obtain ⟨cells', cs', h1, h2, h3⟩ := fillK_run (β := β) (cs := zv.cells) h hp (by rw [hzc]; exact okL_vs z)
        refine ⟨_, .agg cs', h1, by simp only [Ok]; exact ⟨_, rfl, h2⟩, fun w _ => run_build w t us cs' ?_⟩
        unfold Program.built
        simp only [tiOf] at hpos h3
        unfold TD.posOk at hpos
        split at hpos
        · rename_i fs htd
          obtain ⟨fds, h4, h5⟩ := td_struct htd
          rw [h5] at hpos
          have hm := places_of P _ hpos
          simp only [hi, h4, hzz, hm]
          rw [htd, h5] at h3
          have : (fun x => ((fds.toList.map fun f => (f.offset, P.cellsOf f.type)).toArray)[x]?) = plS (.struct (fds.toList.map fun f => (f.offset, f.type, P.cellsOf f.type))) := funext fun i => (plS_struct P _ i).symm
          rw [this]
          exact h3
        · rename_i n e esz htd
          obtain ⟨h4, h5⟩ := td_array htd
          obtain ⟨ie, h6, h7⟩ := info_of_size h5.symm
          simp only [hi, h4, hzz, h6]
          rw [htd] at h3
          have : (fun i => some (i * ie.size, ie.size)) = plS (.array n e (esz + 1)) := funext fun i => by simp [plS, h7]
          rw [this]
          exact h3
        · cases hpos
  · exact h.elim
/-- A new row. -/
def newRow1 (t : TypeId) (sz n : Nat) (cap : Nat) (f : Nat → List SV) (H : List Ob) (K : SV → List Ob → Prop) : Prop :=
  K (.s H.length 0 0 n cap sz) (H ++ [⟨t, false, .row sz 1 (fun _ => n) (fun _ => cap) (fun _ => f)⟩])
theorem newRow1_does {P : Program} {β : Bs} {H : List Ob} {w w' : World} {K : SV → List Ob → Prop} {t : TypeId} {sz n cap g : Nat} {f : Nat → List SV} {cur : Array Value} {s : Sem Value} (h : newRow1 t sz n cap f H K) (hI : Inv β H w)
    (hs : s.run P w = .ok (.slice (some ⟨g, 0, none⟩) n cap) w') (hb : Below w.heap.size w w') (hg : w.heap.size ≤ g) (hc : w'.heap[g]? = some (.cells cur t (0, 0))) (hsz : cur.size = cap * sz) (hnc : n ≤ cap) (hcm : cap ≤ 9223372036854775807)
    (hu : ∀ k, k < n → (f k).length = sz ∧ ∀ c x, (f k)[c]? = some x → ∃ u, cur[k * sz + c]? = some u ∧ Ok β x u) : Does P β H w K s := by
  have hob : ObOk (push β H.length (some (g, 0))) w' H.length ⟨t, false, .row sz 1 (fun _ => n) (fun _ => cap) (fun _ => f)⟩ := by
    intro i hi
    have : i = 0 := by omega
    subst this
    refine .inr ⟨g, cur, push_new _ _ _, hc, hsz, hnc, hcm, fun k hk => ⟨(hu k hk).1, fun c x hx => ?_⟩⟩
    obtain ⟨u, h1, h2⟩ := (hu k hk).2 c x hx
    exact ⟨u, h1, Ok.mono (push_le hI _) _ _ h2⟩
  obtain ⟨h1, h2, h3⟩ := inv_new hI hb (some (g, 0)) (fun g' b e => by simp at e; omega) hob ⟨fun i hi => Nat.lt_one_iff.1 hi.1, fun h => Nat.not_succ_le_zero _ h⟩
  refine ⟨_, _, _, _, _, h, hs, ?_, h1, h2, h3⟩
  simp only [Ok]
  exact ⟨_, rfl, hnc, fun _ => ⟨g, 0, push_new _ _ _, by simp⟩⟩
def repC (z : List Value) : Nat → List SV
  | 0 => []
  | n + 1 => z.map SV.v ++ repC z n
def rowF (l : List SV) (sz k : Nat) : List SV := sub l (k * sz) sz
def bsK2 (e esz len : Nat) (H : List Ob) (K : SV → List Ob → Prop) (l : List SV) : Prop := newRow1 e esz len len (rowF l esz) H K
def bsK1 (e esz len : Nat) (parts : List (Nat × SV)) (H : List Ob) (K : SV → List Ob → Prop) (z : List Value) : Prop := lenIs (z.map SV.v) (esz + 1) = true ∧ len * (esz + 1) ≤ 16777216 ∧ fillK (plR (esz + 1)) (bsK2 e (esz + 1) len H K) parts (repC z len)
def buildSliceK (P : Program) (td : TD) (len : Nat) (parts : List (Nat × SV)) (H : List Ob) (K : SV → List Ob → Prop) : Prop :=
  match td with
  | .slice e (esz + 1) => optK (tiOf P e).zero (bsK1 e esz len parts H K)
  | _ => False
theorem made_get (zs : Array Value) (n c : Nat) (h : c < n) (h0 : 0 < zs.size) : (madeCells zs n)[c]? = some (zs[c % zs.size]'(Nat.mod_lt _ h0)) := by
  have hm := Nat.mod_lt c h0
  unfold madeCells
  rw [Array.getElem?_map, Array.getElem?_range, if_pos h]
  simp only [Option.map_some]
  rw [getElem!_pos zs _ hm]
theorem repC_ok (β : Bs) (z : List Value) (zs : Array Value) (h : zs.toList = z) (h0 : 0 < z.length) : ∀ n, OkL β (repC z n) (madeCells zs (n * z.length)).toList := by
  intro n
  have hz : zs.size = z.length := by rw [← h]; simp
  have key : ∀ n, (repC z n).length = n * z.length := by
    intro n
    induction n with
    | zero => simp [repC]
    | succ n ih => simp [repC, ih, Nat.succ_mul, Nat.add_comm]
  have get : ∀ n (i : Nat), i < n * z.length → (repC z n)[i]? = (z[i % z.length]?).map SV.v := by
    intro n
    induction n with
    | zero => intro i hi; simp at hi
    | succ n ih =>
      intro i hi
      simp only [repC]
      by_cases hlt : i < z.length
      · rw [List.getElem?_append_left (by simpa using hlt), List.getElem?_map, Nat.mod_eq_of_lt hlt]
      · rw [List.getElem?_append_right (by simpa using hlt), List.length_map, ih (i - z.length) (by rw [Nat.add_mul, Nat.one_mul] at hi; omega)]
        rw [← Nat.mod_eq_sub_mod (show i ≥ z.length by omega)]
  refine okL_of (by simp [size_madeCells, key]) fun c x hx => ?_
  have hc : c < n * z.length := by rw [← key n]; exact (List.getElem?_eq_some_iff.1 hx).1
  rw [get n c hc] at hx
  have hm := Nat.mod_lt c h0
  rw [List.getElem?_eq_getElem hm] at hx
  simp at hx
  subst hx
  refine ⟨z[c % z.length], ?_, by simp only [Ok]⟩
  subst h
  rw [Array.getElem?_toList, made_get _ _ _ hc (by omega)]
  simp
theorem run_buildSlice {P : Program} (w : World) {t e esz : Nat} {ie : TypeInfo} {zv : Value} (ht : P.underlying t = some (.slice e)) (hi : P.info? e = some ie) (hs : ie.size = esz) (hz : ie.zero = some zv) (len : Nat) (us : Array (Nat × Value)) (cs : Array Value)
    (hc : Instr.fill (fun i => some (i * esz, esz)) (madeCells zv.cells (len * esz)) us.toList = some cs) (hlim : len * esz ≤ 16777216) : (Instr.buildSlice t len us).run P w = .ok (.slice (some ⟨w.heap.size, 0, none⟩) len len) (w.alloc (.cells cs e)) := by
  subst hs
  have hlim' : ¬ (16777216 < len * ie.size) := by omega
  unfold madeCells at hc
  by_cases h0 : len * ie.size = 0
  · have hc' : Instr.fill (fun i => some (i * ie.size, ie.size)) #[] us.toList = some cs := by rw [h0] at hc; simpa [Array.range_zero'] using hc
    simp [Instr.buildSlice, run_underlying ht, sizeOf, typeInfo, hi, h0, newRow, Array.range_zero', hc']
  · simp [Instr.buildSlice, run_underlying ht, sizeOf, typeInfo, zeroValue, hz, hi, hlim', h0, newRow, hc]
theorem zero_of {P : Program} {e : TypeId} {z : List Value} (hz : (tiOf P e).zero = some z) : ∃ ie zv, P.info? e = some ie ∧ ie.zero = some zv ∧ zv.cells.toList = z ∧ ie.size = P.cellsOf e ∧ ie.bytes = P.bytesOf e := by
  simp only [tiOf] at hz
  cases hi : P.info? e with
  | none => rw [hi] at hz; cases hz
  | some it =>
    rw [hi] at hz
    simp only [Option.bind_some] at hz
    cases hzz : it.zero with
    | none => rw [hzz] at hz; cases hz
    | some zv =>
      rw [hzz] at hz
      exact ⟨it, zv, rfl, hzz, by simpa using hz, by unfold Program.cellsOf; rw [hi]; rfl, by unfold Program.bytesOf; rw [hi]; rfl⟩
theorem buildSliceK_does {P : Program} {β : Bs} {H : List Ob} {w : World} {K : SV → List Ob → Prop} {t : TypeId} {len : Nat} {parts : List (Nat × SV)} {us : Array (Nat × Value)} (h : buildSliceK P (tdOf P t) len parts H K) (hI : Inv β H w) (hp : OkP β parts us.toList) :
    Does P β H w K (Instr.buildSlice t len us) := by
  unfold buildSliceK at h
  split at h
  · rename_i e esz htd
    obtain ⟨ht, hsz⟩ := td_slice htd
    obtain ⟨z, hz, hl, hlim, h⟩ := optK_iff h
    · skip
      obtain ⟨ie, zv, hi, hzz, hzc, his, _⟩ := zero_of hz
      have hlz : z.length = esz + 1 := by have := lenIs_eq _ _ hl; simpa using this
      have hrep := repC_ok β z zv.cells hzc (by omega) len
      rw [hlz] at hrep
      obtain ⟨l, cs, h1, h2, h3⟩ := fillK_run (β := β) h hp hrep
      have hrun := run_buildSlice w ht hi (his.trans hsz.symm) hzz len us cs h3 hlim
      have hcs : cs.size = len * (esz + 1) := by
        have hlen : l.length = len * (esz + 1) := by
          have key : ∀ (parts : List (Nat × Value)) (pl : Nat → Option (Nat × Nat)) (a b : Array Value), Instr.fill pl a parts = some b → b.size = a.size := by
            intro parts
            induction parts with
            | nil => intro pl a b h; simp [Instr.fill] at h; rw [h]
            | cons q r ih =>
              intro pl a b h
              obtain ⟨i, v⟩ := q
              unfold Instr.fill at h
              split at h
              · cases h
              · split at h
                · cases h
                · have := ih _ _ _ h
                  rw [this]
                  rw [← Array.foldl_toList]
                  rw [show (v.cells.zipIdx).toList = v.cells.toList.zipIdx by simp]
                  exact fold_size _ _ _ _
          have := key _ _ _ _ h3
          rw [size_madeCells] at this
          have h4 := okL_length h2
          simp at h4
          omega
        have h4 := okL_length h2
        simp at h4
        omega
      refine newRow1_does h1 hI hrun ((Below.refl _ _).alloc (Nat.le_refl _) _) (Nat.le_refl _) (heap_alloc_new w _) hcs (Nat.le_refl _) ?_ fun k hk => ⟨?_, fun c x hx => ?_⟩
      · have : len ≤ len * (esz + 1) := Nat.le_mul_of_pos_right _ (by omega)
        omega
      · have h4 := okL_length h2
        simp at h4
        have : (k + 1) * (esz + 1) ≤ len * (esz + 1) := Nat.mul_le_mul_right _ (by omega)
        rw [Nat.succ_mul] at this
        simp [rowF, sub]
        omega
      · unfold rowF sub at hx
        rw [List.getElem?_take] at hx
        split at hx
        · rw [List.getElem?_drop] at hx
          have := okL_get h2 _ _ hx
          simpa using this
        · cases hx
  · exact h.elim
def msK1 (e esz by_ : Nat) (n m : Int) (H : List Ob) (K : SV → List Ob → Prop) (z : List Value) : Prop := lenIs (z.map SV.v) (esz + 1) = true ∧ 0 ≤ n ∧ n ≤ m ∧ (by_ : Int) * m ≤ 281474976710656 ∧ m ≤ 9223372036854775807 ∧ newRow1 e (esz + 1) n.toNat m.toNat (fun _ => z.map SV.v) H K
/-- Great arrays in a row: their cells are counted through. -/
def msK9 (e : Nat) (by_ : Nat) (n m : Int) (H : List Ob) (K : SV → List Ob → Prop) (z : List Value) (_ : Unit) : Prop :=
  z = List.replicate 256 (.int .i64 0) ∧ 0 ≤ n ∧ n ≤ m ∧ (by_ : Int) * m ≤ 281474976710656 ∧ m ≤ 36028797018963967 ∧
    K (.s H.length 0 0 n.toNat m.toNat 256) (H ++ [⟨e, false, .row 1 1 (fun _ => n.toNat * 256) (fun _ => m.toNat * 256) (fun _ _ => [.v (.int .i64 0)])⟩])
def msKs (e esz by_ : Nat) (n m : Int) (H : List Ob) (K : SV → List Ob → Prop) (z : List Value) (_ : Unit) : Prop := msK1 e esz by_ n m H K z
def msK0 (e esz by_ : Nat) (n m : Int) (H : List Ob) (K : SV → List Ob → Prop) (z : List Value) : Prop := big2 (esz == 255) (msK9 e by_ n m H K z) (msKs e esz by_ n m H K z)
def makeSliceK (P : Program) (td : TD) (l c : SV) (H : List Ob) (K : SV → List Ob → Prop) : Prop :=
  match td, l, c with
  | .slice e (esz + 1), .v (.int _ n), .v (.int _ m) => optK (tiOf P e).zero (msK0 e esz (tiOf P e).bytes n m H K)
  | _, _, _ => False
theorem makeSliceK_does {P : Program} {β : Bs} {H : List Ob} {w : World} {K : SV → List Ob → Prop} {t : TypeId} {l c : SV} {u v : Value} (h : makeSliceK P (tdOf P t) l c H K) (hI : Inv β H w) (hu : Ok β l u) (hv : Ok β c v) : Does P β H w K (Instr.makeSlice t u v) := by
  unfold makeSliceK at h
  split at h
  · rename_i e esz k1 n k2 m htd
    obtain ⟨ht, hsz⟩ := td_slice htd
    obtain ⟨z, hz, hB⟩ := optK_iff h
    unfold msK0 big2 at hB
    split at hB
    · rename_i heq
      obtain rfl : esz = 255 := by simpa using heq
      obtain ⟨hz9, h0, hnm, hby, hm, h⟩ := hB
      obtain ⟨ie, zv, hi, hzz, hzc, his, hib⟩ := zero_of hz
      have e1 := ok_v hu
      have e2 := ok_v hv
      subst e1 e2
      have hrun := run_make (P := P) w t e ie zv ht hi hzz k1 k2 n m h0 hnm (by rw [hib]; exact hby) (by omega)
      have hs1 : ie.size = 256 := his.trans hsz.symm
      rw [hs1] at hrun
      have hsize : (madeCells zv.cells (m.toNat * 256)).size = m.toNat * 256 := size_madeCells _ _
      have hzl : zv.cells.size = 256 := by rw [← Array.length_toList, hzc, hz9, List.length_replicate]
      have hob : ObOk (push β H.length (some (w.heap.size, 0))) (w.alloc (.cells (madeCells zv.cells (m.toNat * 256)) e (0, 0))) H.length ⟨e, false, .row 1 1 (fun _ => n.toNat * 256) (fun _ => m.toNat * 256) (fun _ _ => [.v (.int .i64 0)])⟩ := by
        intro i hi
        have : i = 0 := by omega
        subst this
        refine .inr ⟨w.heap.size, _, push_new _ _ _, heap_alloc_new w _, by rw [hsize]; exact (Nat.mul_one _).symm, Nat.mul_le_mul_right _ (by omega), by show m.toNat * 256 ≤ _; omega, fun k hk => ⟨rfl, fun c x hx => ?_⟩⟩
        match c, hx with
        | 0, hx =>
          obtain rfl : SV.v (.int .i64 0) = x := by simpa using hx
          have hk : k < n.toNat * 256 := hk
          have hlt : k * 1 + 0 < m.toNat * 256 := by
            have : n.toNat * 256 ≤ m.toNat * 256 := Nat.mul_le_mul_right _ (by omega)
            omega
          refine ⟨.int .i64 0, ?_, by simp only [Ok]⟩
          rw [made_get _ _ _ hlt (by omega)]
          have hm2 := Nat.mod_lt (k * 1 + 0) (show 0 < zv.cells.size by omega)
          have : zv.cells.toList[(k * 1 + 0) % zv.cells.size]'(by simpa using hm2) = .int .i64 0 := by
            simp only [hzc, hz9, List.getElem_replicate]
          simp only [Array.getElem_toList] at this
          rw [this]
        | c + 1, hx => simp at hx
      obtain ⟨h1, h2, h3⟩ := inv_new hI ((Below.refl _ _).alloc (Nat.le_refl _) (.cells (madeCells zv.cells (m.toNat * 256)) e (0, 0))) (some (w.heap.size, 0)) (fun g' b e => by simp at e; omega) hob ⟨fun i hi => Nat.lt_one_iff.1 hi.1, fun h => Nat.not_succ_le_zero _ h⟩
      refine ⟨_, _, _, _, _, h, hrun, ?_, h1, h2, h3⟩
      simp only [Ok]
      exact ⟨_, rfl, by omega, fun _ => ⟨w.heap.size, 0, push_new _ _ _, by simp⟩⟩
    · obtain ⟨hl, h0, hnm, hby, hm, h⟩ := hB
      obtain ⟨ie, zv, hi, hzz, hzc, his, hib⟩ := zero_of hz
      have e1 := ok_v hu
      have e2 := ok_v hv
      subst e1 e2
      have hlz : z.length = esz + 1 := by have := lenIs_eq _ _ hl; simpa using this
      have hrun := run_make (P := P) w t e ie zv ht hi hzz k1 k2 n m h0 hnm (by rw [hib]; exact hby) hm
      have hs1 : ie.size = esz + 1 := his.trans hsz.symm
      rw [hs1] at hrun
      refine newRow1_does h hI hrun ((Below.refl _ _).alloc (Nat.le_refl _) _) (Nat.le_refl _) (heap_alloc_new w _) (size_madeCells _ _) (by omega) (by omega) fun k hk => ⟨by simpa using hlz, fun c x hx => ?_⟩
      have hrep := repC_ok β z zv.cells hzc (by omega) m.toNat
      have hc : c < esz + 1 := by have := (List.getElem?_eq_some_iff.1 hx).1; simpa [hlz] using this
      have hlt : k * (esz + 1) + c < m.toNat * (esz + 1) := by
        have : (k + 1) * (esz + 1) ≤ m.toNat * (esz + 1) := Nat.mul_le_mul_right _ (by omega)
        rw [Nat.succ_mul] at this
        omega
      subst hzc
      have hzs : zv.cells.size = esz + 1 := by simpa using hlz
      have hmod : (k * (esz + 1) + c) % (esz + 1) = c := by rw [Nat.add_comm, Nat.add_mul_mod_self_right]; exact Nat.mod_eq_of_lt hc
      simp only [List.getElem?_map] at hx
      have hget : zv.cells.toList[c]? = some (zv.cells.toList[c]'(by simpa [hzs] using hc)) := List.getElem?_eq_getElem _
      rw [hget] at hx
      simp at hx
      subst hx
      refine ⟨zv.cells[c]'(by omega), ?_, by simp only [Ok]⟩
      rw [made_get _ _ _ hlt (by omega)]
      simp only [hzs, hmod]
  · exact h.elim
/- ===== stores ===== -/
def mrg1 (b : Bool) : SV → SV → SV
  | .v (.int k m), .v (.int k' n) => if k = k' then .v (.int k (bif b then m else n)) else (bif b then .v (.int k m) else .v (.int k' n))
  | .v (.bool m), .v (.bool n) => .v (.bool (bif b then m else n))
  | .v (.string m), .v (.string n) => .v (.string (bif b then m else n))
  | x, y => bif b then x else y
theorem mrg1_eq (b : Bool) (x y : SV) : mrg1 b x y = bif b then x else y := by
  unfold mrg1
  split
  · split
    · rename_i h; subst h; cases b <;> rfl
    · rfl
  · cases b <;> rfl
  · cases b <;> rfl
  · rfl
def mrgL (b : Bool) : List SV → List SV → List SV
  | x :: l, y :: l' => mrg1 b x y :: mrgL b l l'
  | l, l' => bif b then l else l'
theorem mrgL_eq (b : Bool) : ∀ (l l' : List SV), l.length = l'.length → mrgL b l l' = bif b then l else l'
  | x :: l, y :: l', h => by
    simp only [mrgL, mrg1_eq, mrgL_eq b l l' (by simpa using h)]
    cases b <;> rfl
  | [], l', _ => by simp [mrgL]
  | x :: l, [], h => by simp at h
def updF (f : Nat → Nat → List SV) (i k : Nat) (l : List SV) (i' k' : Nat) : List SV := mrgL (i' == i && k' == k) l (f i' k')
def lenP : List SV → Nat → Bool
  | _ :: l, n + 1 => lenIs l n
  | _, _ => false
theorem lenP_eq {l : List SV} {n : Nat} (h : lenP l n = true) : l.length = n ∧ l.length ≠ 0 := by
  unfold lenP at h
  split at h
  · have := lenIs_eq _ _ h
    simp [this]
  · cases h
def stSt2 (ty : TypeId) (ro : Bool) (j : Nat) (H : List Ob) (K : SV → List Ob → Prop) (cs : List SV) : Prop := K .und (H.set j ⟨ty, ro, .st cs⟩)
def stRow2 (ty : TypeId) (ro : Bool) (sz N : Nat) (len cap : Nat → Nat) (f : Nat → Nat → List SV) (i k j : Nat) (H : List Ob) (K : SV → List Ob → Prop) (cs : List SV) : Prop := K .und (H.set j ⟨ty, ro, .row sz N len cap (updF f i k cs)⟩)
def stStK (o : Ob) (j i c n : Nat) (l : List SV) (H : List Ob) (K : SV → List Ob → Prop) : Prop :=
  match o.ct with
  | .st cs => o.ro = false ∧ i = 0 ∧ lenP l n = true ∧ ones l = true ∧ optK (spliceO cs c l) (stSt2 o.ty o.ro j H K)
  | _ => False
def stRowK (o : Ob) (j i k c sz n : Nat) (l : List SV) (H : List Ob) (K : SV → List Ob → Prop) : Prop :=
  match o.ct with
  | .row sz' N len cap f => o.ro = false ∧ sz' = sz ∧ i < N ∧ k < len i ∧ lenP l n = true ∧ ones l = true ∧ optK (spliceO (f i k) c l) (stRow2 o.ty o.ro sz N len cap f i k j H K)
  | _ => False
def storeK (ti : TI) (x v : SV) (H : List Ob) (K : SV → List Ob → Prop) : Prop :=
  match x with
  | .p j i c => stStK (obAt H j) j i c ti.size (svc v) H K
  | .e j i k c sz => stRowK (obAt H j) j i k c sz ti.size (svc v) H K
  | _ => False
/-- 'store' hands on nothing. -/
def DoesU (P : Program) (β : Bs) (H : List Ob) (w : World) (K : SV → List Ob → Prop) (s : Sem Unit) : Prop :=
  ∃ β' H' w', K .und H' ∧ s.run P w = .ok () w' ∧ Inv β' H' w' ∧ BLe β β' ∧ ∀ n0, Fr n0 β H w β' H' w'
theorem cellsOf_pos_size {P : Program} {t : TypeId} {n : Nat} (h : P.cellsOf t = n) (hn : n ≠ 0) (w : World) : (sizeOf t).run P w = .ok n w := by
  cases n with
  | zero => exact absurd rfl hn
  | succ n => exact run_sizeOf_of h w
/-- Cells of a block that are written. -/
theorem store_run {P : Program} {w : World} {t : TypeId} {u : Value} {g off : Nat} {cur : Array Value} {T : TypeId} (hg : w.heap[g]? = some (.cells cur T (0, 0))) (hs : u.cells.size = P.cellsOf t) (h0 : u.cells.size ≠ 0) (h1 : ∀ v ∈ u.cells.toList, v.oneCell' = true) (hl : off + u.cells.size ≤ cur.size) :
    (Instr.storeAt t (.pointer (some ⟨g, off, none⟩)) u).run P w = .ok () (w.setRow g (cur.toList.take off ++ u.cells.toList ++ cur.toList.drop (off + u.cells.size)).toArray) := by
  have hr := run_storeCells_at P g off T u.cells.toList 0 cur w hg (by simpa using hl) h1
  simp only [Nat.add_zero, Array.length_toList] at hr
  have hz := cellsOf_pos_size hs.symm h0 w
  simp only [Instr.storeAt, Instr.sureAddr, storeVar, Sem.run_bind, Sem.run_pure, Result.andThen_ok, hz, hr, ne_eq, not_true_eq_false, if_false]
theorem put_get (cur : Array Value) (vs : List Value) (off i : Nat) (hl : off + vs.length ≤ cur.size) : ((cur.toList.take off ++ vs ++ cur.toList.drop (off + vs.length)).toArray)[i]? = if off ≤ i ∧ i < off + vs.length then vs[i - off]? else cur[i]? := by
  have hc : cur.toList.length = cur.size := Array.length_toList
  have ht : (cur.toList.take off).length = off := by rw [List.length_take]; omega
  simp only [List.getElem?_toArray]
  by_cases h : off ≤ i ∧ i < off + vs.length
  · rw [if_pos h, List.append_assoc, List.getElem?_append_right (by omega), List.getElem?_append_left (by omega), ht]
  · rw [if_neg h]
    by_cases h1 : i < off
    · rw [List.append_assoc, List.getElem?_append_left (by omega), List.getElem?_take_of_lt h1]
      simp
    · rw [List.getElem?_append_right (by simp; omega), List.length_append, ht, List.getElem?_drop, show off + vs.length + (i - (off + vs.length)) = i by omega]
      simp
theorem setRow_rest (w : World) (g : Nat) (cs : Array Value) : (w.setRow g cs).tape = w.tape ∧ (w.setRow g cs).os = w.os ∧ (w.setRow g cs).output = w.output ∧ (w.setRow g cs).heap.size = w.heap.size := ⟨rfl, rfl, rfl, by simp [World.setRow]⟩
theorem storeK_does {P : Program} {β : Bs} {H : List Ob} {w : World} {K : SV → List Ob → Prop} {t : TypeId} {x v : SV} {u z : Value} (h : storeK (tiOf P t) x v H K) (hI : Inv β H w) (hu : Ok β x u) (hv : Ok β v z) : DoesU P β H w K (Instr.storeAt t u z) := by
  unfold storeK at h
  split at h
  · rename_i j i c
    unfold stStK at h
    split at h
    · rename_i cs hct
      obtain ⟨hro, rfl, hlen, hone, h⟩ := h
      obtain ⟨cs', hsp, h⟩ := optK_iff h
      · have hg := obAt_get (H := H) (j := j) (by rw [hct]; intro e; cases e)
        have ho := hI.ob j _ hg
        unfold ObOk at ho
        rw [hct] at ho
        obtain ⟨g, cur, h1, h2, h3⟩ := ho
        simp only [Ok] at hu
        obtain ⟨g', b, h4, rfl⟩ := hu
        rw [h1] at h4
        obtain ⟨rfl, rfl⟩ : g = g' ∧ 0 = b := by simpa using h4
        have hvc := svc_cells hone hv
        have hlp := lenP_eq hlen
        have e3 : (svc v).length = z.cells.size := by have := okL_length hvc; simp at this; omega
        have e1 : z.cells.size = P.cellsOf t := by rw [← e3]; exact hlp.1
        have e2 : cur.size = cs.length := by have := okL_length h3; simpa using this
        have hsl := spliceO_len hsp
        have h0 : z.cells.size ≠ 0 := by omega
        have hrun := store_run (P := P) (off := 0 + c) h2 e1 h0 (ones_cells hone hvc) (by omega)
        have hr := setRow_rest w g (cur.toList.take (0 + c) ++ z.cells.toList ++ cur.toList.drop (0 + c + z.cells.size)).toArray
        have hown : (obAt H j).own 0 := by unfold Ob.own; rw [hct]; exact ⟨rfl, hro⟩
        obtain ⟨h5, h6⟩ := inv_set (ob' := ⟨(obAt H j).ty, (obAt H j).ro, .st cs'⟩) hI hg hown h1 hr.1 hr.2.1 hr.2.2.1 hr.2.2.2 (fun k hk => setRow_other w g k _ hk)
          ⟨g, _, h1, setRow_heap w g cur _ _ _ h2, okL_of (by simp; omega) fun i x hx => by
            rw [spliceO_get hsp] at hx
            have := put_get cur z.cells.toList (0 + c) i (by simp; omega)
            simp only [Array.length_toList] at this
            rw [Array.getElem?_toList, this]
            by_cases hi : c ≤ i ∧ i < c + (svc v).length
            · rw [if_pos hi] at hx
              rw [if_pos (by omega)]
              rw [show i - (0 + c) = i - c by omega]
              exact okL_get hvc _ _ hx
            · rw [if_neg hi] at hx
              rw [if_neg (by omega)]
              have := okL_get h3 _ _ hx
              simpa using this⟩ (fun i hi => by unfold Ob.own at hi ⊢; rw [hct]; exact hi) (fun i hi => by unfold Ob.mem at hi ⊢; rw [hct]; exact hi) (fun i hi => by unfold Ob.over at hi ⊢; rw [hct]; exact hi)
        exact ⟨β, _, _, h, hrun, h5, BLe.refl β, h6⟩
    · exact h.elim
  · rename_i j i k c sz
    unfold stRowK at h
    split at h
    · rename_i sz' N len cap f hct
      obtain ⟨hro, rfl, hi, hk, hlen, hone, h⟩ := h
      obtain ⟨cs', hsp, h⟩ := optK_iff h
      · have hg := obAt_get (H := H) (j := j) (by rw [hct]; intro e; cases e)
        have ho := hI.ob j _ hg
        unfold ObOk at ho
        rw [hct] at ho
        simp only [hro, Bool.false_eq_true, if_false] at ho
        simp only [Ok] at hu
        obtain ⟨g', b, h4, rfl⟩ := hu
        rcases ho i hi with ⟨h1, _⟩ | ⟨g, cur, h1, h2, h3, h5, h6, h7⟩
        · omega
        rw [h1] at h4
        obtain ⟨rfl, rfl⟩ : g = g' ∧ 0 = b := by simpa using h4
        have hvc := svc_cells hone hv
        have hlp := lenP_eq hlen
        have e3 : (svc v).length = z.cells.size := by have := okL_length hvc; simp at this; omega
        have e1 : z.cells.size = P.cellsOf t := by rw [← e3]; exact hlp.1
        have hsl := spliceO_len hsp
        have hfl := (h7 k hk).1
        have h0 : z.cells.size ≠ 0 := by omega
        have hin : (k + 1) * sz' ≤ cap i * sz' := Nat.mul_le_mul_right _ (by omega)
        rw [Nat.succ_mul] at hin
        have hrun := store_run (P := P) (off := 0 + (k * sz' + c)) h2 e1 h0 (ones_cells hone hvc) (by omega)
        have hr := setRow_rest w g (cur.toList.take (0 + (k * sz' + c)) ++ z.cells.toList ++ cur.toList.drop (0 + (k * sz' + c) + z.cells.size)).toArray
        have hown : (obAt H j).own i := by unfold Ob.own; rw [hct]; exact ⟨hi, hro, by omega⟩
        have hpg := put_get cur z.cells.toList (0 + (k * sz' + c))
        simp only [Array.length_toList, Nat.zero_add] at hpg hrun hr
        obtain ⟨h8, h9⟩ := inv_set (ob' := ⟨(obAt H j).ty, (obAt H j).ro, .row sz' N len cap (updF f i k cs')⟩) hI hg hown h1 hr.1 hr.2.1 hr.2.2.1 hr.2.2.2 (fun k hk => setRow_other w g k _ hk)
          (by
            unfold ObOk
            simp only [hro, Bool.false_eq_true, if_false]
            intro i' hi'
            by_cases e : i' = i
            · subst e
              refine .inr ⟨g, _, h1, setRow_heap w g cur _ _ _ h2, ?_, h5, h6, fun k' hk' => ?_⟩
              · simp only [List.size_toArray, List.length_append, List.length_take, List.length_drop, Array.length_toList]; omega
              have hfl' := (h7 k' hk').1
              have hcl : (updF f i' k cs' i' k') = if k' = k then cs' else f i' k' := by
                unfold updF
                rw [mrgL_eq _ _ _ (by omega)]
                by_cases ek : k' = k
                · subst ek; simp
                · have : (k' == k) = false := by simpa using ek
                  rw [this, if_neg ek]; simp
              refine ⟨by rw [hcl]; split <;> omega, fun c' x hx => ?_⟩
              rw [hcl] at hx
              rw [hpg _ (by omega)]
              by_cases ek : k' = k
              · subst ek
                simp only [if_true] at hx
                rw [spliceO_get hsp] at hx
                by_cases hc : c ≤ c' ∧ c' < c + (svc v).length
                · rw [if_pos hc] at hx
                  rw [if_pos (by omega), show k' * sz' + c' - (k' * sz' + c) = c' - c by omega]
                  exact okL_get hvc _ _ hx
                · rw [if_neg hc] at hx
                  rw [if_neg (by omega)]
                  exact (h7 k' hk').2 _ _ hx
              · rw [if_neg ek] at hx
                have hc' : c' < sz' := by have := (List.getElem?_eq_some_iff.1 hx).1; omega
                rw [if_neg ?_]
                · exact (h7 k' hk').2 _ _ hx
                · rcases Nat.lt_or_gt_of_ne ek with hlt | hlt
                  · have : (k' + 1) * sz' ≤ k * sz' := Nat.mul_le_mul_right _ (by omega)
                    rw [Nat.succ_mul] at this
                    omega
                  · have : (k + 1) * sz' ≤ k' * sz' := Nat.mul_le_mul_right _ (by omega)
                    rw [Nat.succ_mul] at this
                    omega
            · rcases ho i' hi' with hn | ⟨g2, cur2, q1, q2, q3, q4, q5, q6⟩
              · exact .inl hn
              · rcases Nat.eq_zero_or_pos (cap i') with hz | hz
                · exact .inl ⟨by omega, hz⟩
                have hne : g2 ≠ g := fun eg => by
                  subst eg
                  have := (hI.sep j i j i' _ _ g2 0 0 hg hg hown (by unfold Ob.mem; rw [hct]; exact ⟨hi', fun hr => (by rw [hro] at hr; cases hr), fun _ => hz⟩) h1 q1).2
                  exact e this.symm
                refine .inr ⟨g2, cur2, q1, (setRow_other w g g2 _ hne).trans q2, q3, q4, q5, fun k' hk' => ?_⟩
                have e6 : updF f i k cs' i' k' = f i' k' := by
                  have : (i' == i) = false := by simpa using e
                  unfold updF
                  rw [this, mrgL_eq _ _ _ (by have := (q6 k' hk').1; omega)]
                  rfl
                rw [e6]
                exact q6 k' hk')
          (fun i hi => by unfold Ob.own at hi ⊢; rw [hct]; exact hi) (fun i hi => by unfold Ob.mem at hi ⊢; rw [hct]; exact hi) (fun i hi => by unfold Ob.over at hi ⊢; rw [hct]; exact hi)
        exact ⟨β, _, _, h, by simpa using hrun, h8, BLe.refl β, h9⟩
    · exact h.elim
  · exact h.elim
/- ===== append ===== -/
def srcOk (g : Nat → List SV) (sz n : Nat) : Prop :=
  match n with
  | 1 => lenP (g 0) sz = true ∧ ones (g 0) = true
  | n => ∀ k, k < n → lenP (g k) sz = true ∧ ones (g k) = true
theorem srcOk_all {g : Nat → List SV} {sz n : Nat} (h : srcOk g sz n) : ∀ k, k < n → lenP (g k) sz = true ∧ ones (g k) = true := by
  unfold srcOk at h
  split at h
  · intro k hk
    have : k = 0 := by omega
    subst this
    exact h
  · exact h
/-- The elements behind an append: those that were there, then the new ones. -/
def appF (len n : Nat) (old new : Nat → List SV) (k : Nat) : List SV :=
  match n with
  | 1 => mrgL (decide (k < len)) (old k) (new 0)
  | _ => mrgL (decide (k < len)) (old k) (new (k - len))
theorem gatherN {Q : Nat → Value → Prop} : ∀ (m : Nat), (∀ q, q < m → ∃ v, Q q v) → ∃ vs : List Value, vs.length = m ∧ ∀ (q : Nat) (v : Value), vs[q]? = some v → Q q v
  | 0, _ => ⟨[], rfl, fun q v h => by simp at h⟩
  | m + 1, h => by
    obtain ⟨vs, h1, h2⟩ := gatherN m (fun q hq => h q (by omega))
    obtain ⟨v, hv⟩ := h m (by omega)
    refine ⟨vs ++ [v], by simp [h1], fun q u hu => ?_⟩
    by_cases hq : q < m
    · rw [List.getElem?_append_left (by omega)] at hu
      exact h2 q u hu
    · by_cases e : q = m
      · subst e
        rw [List.getElem?_append_right (by omega)] at hu
        simp [h1] at hu
        subst hu
        exact hv
      · rw [List.getElem?_eq_none (by simp; omega)] at hu; cases hu
/-- Where a row's element lies. -/
theorem row_cell {β : Bs} {H : List Ob} {w : World} (hI : Inv β H w) {j i k c sz N : Nat} {len cap : Nat → Nat} {f : Nat → Nat → List SV} (hct : (obAt H j).ct = .row sz N len cap f) (hi : i < N) (hk : k < len i) {g b : Nat} (hb : β j i = some (g, b)) {x : SV} (hx : (f i k)[c]? = some x) :
    ∃ u, w.cell? ⟨g, b + (k * sz + c), none⟩ = some u ∧ Ok β x u := by
  have hg := obAt_get (H := H) (j := j) (by rw [hct]; intro e; cases e)
  have ho := hI.ob j _ hg
  unfold ObOk at ho
  rw [hct] at ho
  simp only at ho
  split at ho
  · obtain ⟨g1, b1, h1, _, h3⟩ := ho i hi k hk
    rw [h1] at hb
    obtain ⟨rfl, rfl⟩ : g1 = g ∧ b1 = b := by simpa using hb
    exact h3 c x hx
  · rcases ho i hi with ⟨h1, _⟩ | ⟨g1, cur, h1, h2, _, _, h6⟩
    · omega
    · rw [h1] at hb
      obtain ⟨rfl, rfl⟩ : g1 = g ∧ 0 = b := by simpa using hb
      obtain ⟨u, h7, h8⟩ := (h6.2 k hk).2 c x hx
      exact ⟨u, by rw [cell_of_row w g1 _ cur _ _ h2, Nat.zero_add]; exact h7, h8⟩
/-- The cells of n elements. -/
theorem row_news {β : Bs} {H : List Ob} {w : World} (hI : Inv β H w) {j i o n sz N : Nat} {len cap : Nat → Nat} {f : Nat → Nat → List SV} (hct : (obAt H j).ct = .row sz N len cap f) (hi : i < N) (ho : o + n ≤ len i) {g b : Nat} (hb : β j i = some (g, b)) (hl : ∀ k, k < n → lenP (f i (o + k)) sz = true ∧ ones (f i (o + k)) = true) :
    ∃ news : List Value, news.length = n * sz ∧ (∀ q u, news[q]? = some u → w.cell? ((⟨g, b + o * sz, none⟩ : Addr).add q) = some u) ∧ (∀ u ∈ news, u.oneCell' = true) ∧
      ∀ k, k < n → ∀ c x, (f i (o + k))[c]? = some x → ∃ u, news[k * sz + c]? = some u ∧ Ok β x u := by
  have hdiv : ∀ q, q < n * sz → q / sz < n ∧ q % sz < sz ∧ q / sz * sz + q % sz = q := fun q hq => by
    have h0 : 0 < sz := by
      rcases Nat.eq_zero_or_pos sz with h | h
      · subst h; simp at hq
      · exact h
    exact ⟨Nat.div_lt_of_lt_mul (by rw [Nat.mul_comm]; exact hq), Nat.mod_lt _ h0, by rw [Nat.mul_comm]; exact Nat.div_add_mod q sz⟩
  obtain ⟨news, h1, h2⟩ := gatherN (Q := fun q v => w.cell? ⟨g, b + ((o + q / sz) * sz + q % sz), none⟩ = some v ∧ v.oneCell' = true ∧ ∀ x, (f i (o + q / sz))[q % sz]? = some x → Ok β x v) (n * sz) fun q hq => by
    obtain ⟨d1, d2, d3⟩ := hdiv q hq
    obtain ⟨hl1, hl2⟩ := hl (q / sz) d1
    have hlen := (lenP_eq hl1).1
    obtain ⟨u, h3, h4⟩ := row_cell hI (k := o + q / sz) (c := q % sz) hct hi (by omega) hb (List.getElem?_eq_getElem (by omega))
    refine ⟨u, h3, ?_, fun x hx => ?_⟩
    · have key : ∀ (l : List SV), ones l = true → ∀ x ∈ l, one1 x = true := by
        intro l
        induction l with
        | nil => intro _ x hx; cases hx
        | cons y l ih =>
          intro h x hx
          simp only [ones, Bool.and_eq_true] at h
          rcases List.mem_cons.1 hx with rfl | hx
          · exact h.1
          · exact ih h.2 x hx
      exact (one1_cells (key _ hl2 _ (List.getElem_mem _)) h4).2
    · rw [List.getElem?_eq_getElem (by omega)] at hx
      have := Option.some.inj hx
      rw [← this]
      exact h4
  refine ⟨news, h1, fun q u hu => ?_, fun u hu => ?_, fun k hk c x hx => ?_⟩
  · have hq : q < n * sz := by rw [← h1]; exact (List.getElem?_eq_some_iff.1 hu).1
    have := (h2 q u hu).1
    rw [add_none, ← this]
    obtain ⟨_, _, d3⟩ := hdiv q hq
    congr 2
    rw [Nat.add_mul]
    omega
  · obtain ⟨q, hq, rfl⟩ := List.mem_iff_getElem.1 hu
    exact (h2 q _ (List.getElem?_eq_getElem hq)).2.1
  · have hlen := (lenP_eq (hl k hk).1).1
    have hc : c < sz := by have := (List.getElem?_eq_some_iff.1 hx).1; omega
    have hq : k * sz + c < n * sz := by
      have : (k + 1) * sz ≤ n * sz := Nat.mul_le_mul_right _ (by omega)
      rw [Nat.succ_mul] at this
      omega
    have hd : (k * sz + c) / sz = k := by rw [Nat.add_comm, Nat.add_mul_div_right _ _ (by omega), Nat.div_eq_of_lt hc, Nat.zero_add]
    have hm : (k * sz + c) % sz = c := by rw [Nat.add_comm, Nat.add_mul_mod_self_right]; exact Nat.mod_eq_of_lt hc
    obtain ⟨u, hu⟩ : ∃ u, news[k * sz + c]? = some u := ⟨_, List.getElem?_eq_getElem (by omega)⟩
    refine ⟨u, hu, ?_⟩
    have := (h2 _ u hu).2.2 x
    rw [hd, hm] at this
    exact this hx
def appNew (e sz len n : Nat) (f : Nat → List SV) (H : List Ob) (K : SV → List Ob → Prop) : Prop := ∀ cap, len + n ≤ cap → newRow1 e sz (len + n) cap f H K
/-- Behind nothing. -/
def appA (e sz n by_ : Nat) (new : Nat → List SV) (H : List Ob) (K : SV → List Ob → Prop) : Prop := n * by_ ≤ 140737488355328 ∧ n ≤ 9223372036854775807 ∧ (∀ cap, n ≤ cap → newRow1 e sz n cap new H K)
def appB (o : Ob) (j e sz len cap n by_ : Nat) (new : Nat → List SV) (H : List Ob) (K : SV → List Ob → Prop) : Prop :=
  match o.ct with
  | .row sz' 1 ln cp f => o.ro = false ∧ o.ty = e ∧ sz' = sz ∧ ln 0 = len ∧ cp 0 = cap ∧ 0 < n ∧ (len + n) * by_ ≤ 140737488355328 ∧ len + n ≤ 9223372036854775807 ∧ appNew e sz len n (appF len n (f 0) new) (H.set j deadOb) K
  | _ => False
/-- A family without one of its members. -/
def holeO (o : Ob) (i : Nat) : Ob :=
  match o.ct with
  | .row sz N ln cp f => ⟨o.ty, o.ro, .row sz N (fun k => bif k == i then 0 else ln k) (fun k => bif k == i then 0 else cp k) f⟩
  | _ => o
/-- Behind a member of a family. -/
def appM (o : Ob) (j i off sz1 e sz len cap n by_ : Nat) (new : Nat → List SV) (H : List Ob) (K : SV → List Ob → Prop) : Prop :=
  match o.ct with
  | .row sz' (N + 2) ln cp f => off = 0 ∧ sz1 = sz ∧ o.ro = false ∧ o.ty = e ∧ sz' = sz ∧ i < N + 2 ∧ ln i = len ∧ cp i = cap ∧ 0 < n ∧ (len + n) * by_ ≤ 140737488355328 ∧ len + n ≤ 9223372036854775807 ∧ appNew e sz len n (appF len n (f i) new) (H.set j (holeO o i) ++ [deadOb]) K
  | _ => False
/-- A new row behind a part of a row that stays. -/
def appG (o : Ob) (i off sz1 e sz len n by_ : Nat) (new : Nat → List SV) (H : List Ob) (K : SV → List Ob → Prop) : Prop :=
  match o.ct with
  | .row sz' N ln _ f => sz1 = sz ∧ sz' = sz ∧ i < N ∧ off + len ≤ ln i ∧ (∀ k, k < len → lenP (f i (off + k)) sz = true ∧ ones (f i (off + k)) = true) ∧ 0 < n ∧ (len + n) * by_ ≤ 140737488355328 ∧ len + n ≤ 9223372036854775807 ∧ appNew e sz len n (appF len n (fun k => f i (off + k)) new) H K
  | _ => False
/-- A family one member of which is another one. -/
def memO (o : Ob) (i len : Nat) (g : Nat → List SV) : Ob :=
  match o.ct with
  | .row sz N ln cp f => ⟨o.ty, o.ro, .row sz N (fun k => bif k == i then len else ln k) cp (fun k q => bif k == i then g q else f k q)⟩
  | _ => o
/-- In place, behind a part of a member from its begin on. -/
def appI (o : Ob) (j i off sz1 e sz len cap n : Nat) (new : Nat → List SV) (H : List Ob) (K : SV → List Ob → Prop) : Prop :=
  match o.ct with
  | .row sz' N ln cp f => off = 0 ∧ sz1 = sz ∧ o.ro = false ∧ o.ty = e ∧ sz' = sz ∧ i < N ∧ len ≤ ln i ∧ cp i = cap ∧ 0 < n ∧ K (.s j i 0 (len + n) cap sz) (H.set j (memO o i (len + n) (appF len n (f i) new)))
  | _ => False
/-- Behind a part of a row that others see. -/
def appX (o : Ob) (j i off sz1 e sz len cap n by_ : Nat) (new : Nat → List SV) (H : List Ob) (K : SV → List Ob → Prop) : Prop :=
  (len + n ≤ cap → appI o j i off sz1 e sz len cap n new H K) ∧ (cap < len + n → appG o i off sz1 e sz len n by_ new H K)
/-- What an append to a member of a family comes to, in place or as a further member. -/
structure GrowF (N len n i : Nat) (ln cp : Nat → Nat) (f : Nat → Nat → List SV) (new : Nat → List SV) (M : Nat) (ln' cp' : Nat → Nat) (f' : Nat → Nat → List SV) (p : Nat) : Prop where
  hle : N ≤ M
  hlt : p < M
  pos : p = i ∨ N ≤ p
  all : ∀ q, q < M → q < N ∨ q = p
  hlen : ln' p = len + n
  hcap : len + n ≤ cp' p
  old : ∀ k, k < len → f' p k = f i k
  nws : ∀ k, k < n → f' p (len + k) = new k
  caps : ∀ q, q < N → cp' q = cp q
  oth : ∀ q, q < N → q ≠ p → ln' q = ln q ∧ ∀ k, f' q k = f q k
/-- Behind a part of a member from its begin on: in place, or as a further member. -/
def appY (o : Ob) (j i off sz1 e sz len cap n by_ : Nat) (new : Nat → List SV) (H : List Ob) (K : SV → List Ob → Prop) : Prop :=
  match o.ct with
  | .row sz' N ln cp f => off = 0 ∧ sz1 = sz ∧ o.ro = false ∧ o.ty = e ∧ sz' = sz ∧ i < N ∧ len ≤ ln i ∧ cp i = cap ∧ 0 < n ∧ (len + n) * by_ ≤ 140737488355328 ∧ len + n ≤ 9223372036854775807 ∧ (∀ k, k < len → lenP (f i k) sz = true ∧ ones (f i k) = true) ∧
    ∀ M ln' cp' f' p, GrowF N len n i ln cp f new M ln' cp' f' p → K (.s j p 0 (len + n) (cp' p) sz) (H.set j ⟨o.ty, o.ro, .row sz M ln' cp' f'⟩)
  | _ => False
def appU (o : Ob) (j i off sz1 e sz len cap n by_ : Nat) (new : Nat → List SV) (H : List Ob) (K : SV → List Ob → Prop) (_ : Unit) : Prop :=
  appX o j i off sz1 e sz len cap n by_ new H K ∨ appY o j i off sz1 e sz len cap n by_ new H K
def appE (ax : Bool) (X : Prop) (Y : Unit → Prop) : Prop :=
  match ax with
  | true => X ∨ Y ()
  | false => X
theorem appE_or {ax : Bool} {X : Prop} {Y : Unit → Prop} (h : appE ax X Y) : X ∨ Y () := by
  cases ax with
  | true => exact h
  | false => exact .inl h
/-- Nothing, or something, is appended. -/
def appZ (n : Nat) (X Y : Prop) : Prop :=
  match n with
  | 0 => X
  | _ + 1 => Y
theorem appZ_of {n : Nat} {X Y : Prop} (h0 : n = 0 → X) (h1 : 0 < n → Y) : appZ n X Y := by
  cases n with
  | zero => exact h0 rfl
  | succ n => exact h1 (Nat.succ_pos n)
def appBase (ax : Bool) (P : Program) (e sz : Nat) (s : SV) (n : Nat) (new : Nat → List SV) (H : List Ob) (K : SV → List Ob → Prop) : Prop :=
  match s with
  | .v (.slice none 0 0) => appA e sz n (tiOf P e).bytes new H K
  | .s j i o len cap sz' => appZ n (K (.s j i o len cap sz') H) ((len = 0 ∧ cap = 0 ∧ appA e sz n (tiOf P e).bytes new H K) ∨ ((i = 0 ∧ o = 0 ∧ sz' = sz ∧ appB (obAt H j) j e sz len cap n (tiOf P e).bytes new H K) ∨ appE ax (appM (obAt H j) j i o sz' e sz len cap n (tiOf P e).bytes new H K) (appU (obAt H j) j i o sz' e sz len cap n (tiOf P e).bytes new H K)))
  | _ => False
def appSrc (ax : Bool) (P : Program) (o : Ob) (e sz i off n : Nat) (s : SV) (H : List Ob) (K : SV → List Ob → Prop) : Prop :=
  match o.ct with
  | .row sz' N len _ f => sz' = sz ∧ i < N ∧ off + n ≤ len i ∧ srcOk (fun k => f i (off + k)) sz n ∧ appBase ax P e sz s n (fun k => f i (off + k)) H K
  | _ => False
def appK (ax : Bool) (P : Program) (td : TD) (s t : SV) (H : List Ob) (K : SV → List Ob → Prop) : Prop :=
  match td, t with
  | .slice e (esz + 1), .s j i o n _ sz => sz = esz + 1 ∧ (∃ z, (tiOf P e).zero = some z ∧ lenIs (z.map SV.v) (esz + 1) = true) ∧ appSrc ax P (obAt H j) e (esz + 1) i o n s H K
  | _, _ => False
section
variable {P : Program} {β : Bs} {H : List Ob} {w : World} {K : SV → List Ob → Prop}
theorem zeroCells_size (z : Array Value) (n : Nat) : (Builtin.zeroCells z n).size = n * z.size := size_zeroCells z n
/-- The new row behind an append that made one. -/
theorem app_new {e sz len n cap : Nat} {F : Nat → List SV} {s : Sem Value} {olds news : List Value} {z : Value} {w' : World} (hI : Inv β H w) (h : newRow1 e sz (len + n) cap F H K)
    (hs : s.run P w = .ok (.slice (some ⟨w.heap.size, 0, none⟩) (len + n) cap) w') (hw : w' = w.drew.alloc (.cells (olds.toArray ++ news.toArray ++ Builtin.zeroCells z.cells (cap - (len + n))) e)) (hz : z.cells.size = sz)
    (hol : olds.length = len * sz) (hnl : news.length = n * sz) (hcap : len + n ≤ cap) (hcm : cap ≤ 9223372036854775807)
    (hF : ∀ k, k < len + n → (F k).length = sz ∧ ∀ c x, (F k)[c]? = some x → ∃ u, (olds ++ news)[k * sz + c]? = some u ∧ Ok β x u) : Does P β H w K s := by
  subst hw
  have hb : Below w.heap.size w (w.drew.alloc (.cells (olds.toArray ++ news.toArray ++ Builtin.zeroCells z.cells (cap - (len + n))) e)) := (Below.refl _ _).drew.alloc (Nat.le_refl _) _
  refine newRow1_does h hI hs hb (Nat.le_refl _) (heap_alloc_new w.drew _) ?_ hcap hcm fun k hk => ⟨(hF k hk).1, fun c x hx => ?_⟩
  · simp only [Array.size_append, List.size_toArray, zeroCells_size, hz, hol, hnl, ← Nat.add_mul]
    congr 1
    omega
  · obtain ⟨u, h1, h2⟩ := (hF k hk).2 c x hx
    refine ⟨u, ?_, h2⟩
    have hlt := (List.getElem?_eq_some_iff.1 h1).1
    rw [Array.getElem?_append_left (by simpa using hlt), ← h1]
    simp
theorem run_append_empty {t ty e : TypeId} {i : TypeInfo} {z : Value} (ht : P.underlying t = some (.slice e)) (hi : P.info? e = some i) (hz : i.zero = some z) (A : Option Addr) (a : Addr) (n c : Nat) (news : List Value) (hl : news.length = n * i.size)
    (hnews : ∀ j v, news[j]? = some v → w.cell? (a.add j) = some v) (h0 : 0 < n) (hb : n * i.bytes ≤ 140737488355328) (h63 : n ≤ 9223372036854775807) :
    ∃ cap, n ≤ cap ∧ cap ≤ 9223372036854775807 ∧ (Builtin.append_ #[t, t] ty #[.slice A 0 0, .slice (some a) n c]).run P w = .ok (.slice (some ⟨w.heap.size, 0, none⟩) (0 + n) cap) (w.drew.alloc (.cells (([] : List Value).toArray ++ news.toArray ++ Builtin.zeroCells z.cells (cap - (0 + n))) e)) := by
  have h1 := grownCap_ge w n 0 e
  have h2 := grownCap_le_maxLen w n 0 e (by unfold maxLen; omega)
  unfold maxLen at h2
  refine ⟨grownCap w n 0 e, h1, by omega, ?_⟩
  cases A with
  | none =>
    have := run_append_nil (P := P) w t ty e i z ht hi hz a n c news hl hnews h0 (by omega) (by omega)
    simpa using this
  | some b =>
    have := run_append_grow (P := P) w t ty e i z ht hi hz b 0 0 [] (by simp) (by simp) a n c news hl hnews (by omega) (by omega) (by rw [Nat.zero_add]; exact growslice_fits h0 hb)
    simpa using this
theorem appA_does {t ty e sz n : Nat} {new : Nat → List SV} {A B : Option Addr} {c : Nat} (ht : P.underlying t = some (.slice e)) (hsz : sz + 1 = P.cellsOf e) (hz : ∃ z, (tiOf P e).zero = some z ∧ lenIs (z.map SV.v) (sz + 1) = true)
    (h : appA e (sz + 1) n (tiOf P e).bytes new H K) (hI : Inv β H w)
    (hsrc : 0 < n → ∃ a, ∃ news : List Value, B = some a ∧ news.length = n * (sz + 1) ∧ (∀ (q : Nat) u, news[q]? = some u → w.cell? (a.add q) = some u) ∧ ∀ k, k < n → (new k).length = sz + 1 ∧ ∀ c x, (new k)[c]? = some x → ∃ u, news[k * (sz + 1) + c]? = some u ∧ Ok β x u) :
    Does P β H w K (Builtin.append_ #[t, t] ty #[.slice A 0 0, .slice B n c]) := by
  obtain ⟨z, hz1, hz2⟩ := hz
  obtain ⟨ie, zv, hi, hzz, hzc, his, hib⟩ := zero_of hz1
  have hlz : zv.cells.size = sz + 1 := by have := lenIs_eq _ _ hz2; simpa [← hzc] using this
  obtain ⟨h1, h2, h3⟩ := h
  rcases Nat.eq_zero_or_pos n with rfl | hn
  · -- nothing is appended
    have hrun : (Builtin.append_ #[t, t] ty #[.slice A 0 0, .slice B 0 c]).run P w = .ok (.slice A 0 0) w := by
      cases A <;> cases B <;> simp [Builtin.append_, run_underlying ht, sizeOf, typeInfo, hi, Builtin.lenOf, Builtin.firstCells, loadCells, loadCellsFrom, storeCells]
    have hob : ObOk (push β H.length none) w H.length ⟨e, false, .row (sz + 1) 1 (fun _ => 0) (fun _ => 0) (fun _ => new)⟩ := by
      intro i hi
      have : i = 0 := by omega
      subst this
      exact .inl ⟨rfl, rfl⟩
    obtain ⟨q1, q2, q3⟩ := inv_new hI (Below.refl _ _) none (fun g b e => by cases e) hob ⟨fun i hi => Nat.lt_one_iff.1 hi.1, fun h => Nat.not_succ_le_zero _ h⟩
    refine ⟨_, _, _, _, _, h3 0 (Nat.le_refl _), hrun, ?_, q1, q2, q3⟩
    simp only [Ok]
    exact ⟨A, rfl, Nat.le_refl _, fun h => by omega⟩
  · obtain ⟨a, news, rfl, hnl, hrd, hF⟩ := hsrc hn
    obtain ⟨cap, hc1, hc2, hrun⟩ := run_append_empty (ty := ty) (w := w) ht hi hzz A a n c news (by rw [hnl, his, ← hsz]) hrd hn (by rw [hib]; exact h1) h2
    refine app_new (len := 0) (olds := []) (news := news) (z := zv) hI (by simpa using h3 cap hc1) hrun rfl hlz (by simp) hnl (by omega) hc2 fun k hk => ?_
    simpa using hF k (by omega)
theorem appB_does {t ty e sz n len cap j : Nat} {new : Nat → List SV} {u : Value} {a : Addr} {c : Nat} {news : List Value} (ht : P.underlying t = some (.slice e)) (hsz : sz + 1 = P.cellsOf e) (hz : ∃ z, (tiOf P e).zero = some z ∧ lenIs (z.map SV.v) (sz + 1) = true)
    (h : appB (obAt H j) j e (sz + 1) len cap n (tiOf P e).bytes new H K) (hI : Inv β H w) (hu : Ok β (.s j 0 0 len cap (sz + 1)) u)
    (hnl : news.length = n * (sz + 1)) (hrd : ∀ (q : Nat) u, news[q]? = some u → w.cell? (a.add q) = some u) (h1 : ∀ u ∈ news, u.oneCell' = true)
    (hF : ∀ k, k < n → (new k).length = sz + 1 ∧ ∀ c x, (new k)[c]? = some x → ∃ u, news[k * (sz + 1) + c]? = some u ∧ Ok β x u) :
    Does P β H w K (Builtin.append_ #[t, t] ty #[u, .slice (some a) n c]) := by
  obtain ⟨z, hz1, hz2⟩ := hz
  obtain ⟨ie, zv, hi, hzz, hzc, his, hib⟩ := zero_of hz1
  have hlz : zv.cells.size = sz + 1 := by have := lenIs_eq _ _ hz2; simpa [← hzc] using this
  unfold appB at h
  split at h
  · rename_i sz' ln cp f hct
    obtain ⟨hro, hty, rfl, rfl, rfl, hn, hby, hmx, h⟩ := h
    have hby : (ln 0 + n) * P.bytesOf e ≤ 140737488355328 := hby
    have hg := obAt_get (H := H) (j := j) (by rw [hct]; intro e; cases e)
    have hjl : j < H.length := (List.getElem?_eq_some_iff.1 hg).1
    have ho := hI.ob j _ hg
    unfold ObOk at ho
    rw [hct] at ho
    simp only [hro, Bool.false_eq_true, if_false, hty] at ho
    simp only [Ok] at hu
    obtain ⟨A, rfl, hlc, hA⟩ := hu
    obtain ⟨k1, k2⟩ := inv_kill hI j
    have hlenH : (H.set j deadOb).length = H.length := by simp
    -- what the elements are
    have elems : ∀ (olds : List Value), olds.length = ln 0 * (sz + 1) → (∀ k, k < ln 0 → (f 0 k).length = sz + 1 ∧ ∀ c x, (f 0 k)[c]? = some x → ∃ u, olds[k * (sz + 1) + c]? = some u ∧ Ok β x u) →
        ∀ k, k < ln 0 + n → (appF (ln 0) n (f 0) new k).length = sz + 1 ∧ ∀ c x, (appF (ln 0) n (f 0) new k)[c]? = some x → ∃ u, (olds ++ news)[k * (sz + 1) + c]? = some u ∧ Ok β x u := by
      intro olds hol hold k hk
      have val : appF (ln 0) n (f 0) new k = if k < ln 0 then f 0 k else new (k - ln 0) := by
        unfold appF
        by_cases hlt : k < ln 0
        · rw [if_pos hlt]
          split
          · rw [mrgL_eq _ _ _ (by rw [(hold k hlt).1, (hF 0 (by omega)).1])]; simp [hlt]
          · cases e1 : decide (k < ln 0) with
            | false => simp at e1; omega
            | true =>
              have : ∀ l, mrgL true (f 0 k) l = f 0 k := by
                intro l
                generalize f 0 k = l1
                induction l1 generalizing l with
                | nil => simp [mrgL]
                | cons x l1 ih =>
                  cases l with
                  | nil => simp [mrgL]
                  | cons y l => simp [mrgL, mrg1_eq, ih]
              exact this _
        · rw [if_neg hlt]
          have mf : ∀ (l l1 : List SV), mrgL false l l1 = l1 := by
            intro l
            induction l with
            | nil => intro l1; simp [mrgL]
            | cons x l ih =>
              intro l1
              cases l1 with
              | nil => simp [mrgL]
              | cons y l1 => simp [mrgL, mrg1_eq, ih]
          have e1 : decide (k < ln 0) = false := by simpa using hlt
          split
          · rw [e1, mf]; congr 1; omega
          · rw [e1, mf]
      rw [val]
      by_cases hlt : k < ln 0
      · rw [if_pos hlt]
        refine ⟨(hold k hlt).1, fun c x hx => ?_⟩
        obtain ⟨u, q1, q2⟩ := (hold k hlt).2 c x hx
        exact ⟨u, by rw [List.getElem?_append_left (List.getElem?_eq_some_iff.1 q1).1]; exact q1, q2⟩
      · rw [if_neg hlt]
        refine ⟨(hF (k - ln 0) (by omega)).1, fun c x hx => ?_⟩
        obtain ⟨u, q1, q2⟩ := (hF (k - ln 0) (by omega)).2 c x hx
        refine ⟨u, ?_, q2⟩
        have : ln 0 * (sz + 1) ≤ k * (sz + 1) := Nat.mul_le_mul_right _ (by omega)
        rw [List.getElem?_append_right (by omega), hol, ← q1]
        congr 1
        rw [Nat.sub_mul]
        omega
    rcases ho 0 (by omega) with ⟨hl0, hc0⟩ | ⟨g, cur, q1, q2, q3, q4, q5, q6⟩
    · -- no memory yet
      rw [hl0] at h elems hby hmx ⊢
      rw [hc0]
      obtain ⟨cap', hc1, hc2, hrun⟩ := run_append_empty (ty := ty) (w := w) ht hi hzz A a n c news (by rw [hnl, his, ← hsz]) hrd hn (by rw [hib]; simpa using hby) (by omega)
      obtain ⟨r, zz, β', H', w', r1, r2, r3, r4, r5, r6⟩ := app_new (len := 0) (olds := []) (news := news) (z := zv) k1 (h cap' (by omega)) hrun rfl hlz (by simp) hnl (by omega) hc2 (elems [] (by simp) (fun k hk => by omega))
      exact ⟨r, zz, β', H', w', r1, r2, r3, r4, r5, fun n0 => (k2 n0).trans (r6 n0)⟩
    · have hcell : ∀ k, w.cell? ⟨g, k, none⟩ = cur[k]? := fun k => cell_of_row w g k cur e (0, 0) q2
      have hcs : ∀ (olds : List Value), olds = cur.toList.take (ln 0 * (sz + 1)) → olds.length = ln 0 * (sz + 1) ∧ ∀ k, k < ln 0 → (f 0 k).length = sz + 1 ∧ ∀ c x, (f 0 k)[c]? = some x → ∃ u, olds[k * (sz + 1) + c]? = some u ∧ Ok β x u := by
        rintro olds rfl
        have hle : ln 0 * (sz + 1) ≤ cp 0 * (sz + 1) := Nat.mul_le_mul_right _ q4
        refine ⟨by rw [List.length_take, Array.length_toList]; omega, fun k hk => ⟨(q6 k hk).1, fun c x hx => ?_⟩⟩
        obtain ⟨u, s1, s2⟩ := (q6 k hk).2 c x hx
        have hc : c < sz + 1 := by have := (List.getElem?_eq_some_iff.1 hx).1; rw [(q6 k hk).1] at this; exact this
        have : (k + 1) * (sz + 1) ≤ ln 0 * (sz + 1) := Nat.mul_le_mul_right _ (by omega)
        rw [Nat.succ_mul] at this
        exact ⟨u, by rw [List.getElem?_take_of_lt (by omega)]; simpa using s1, s2⟩
      obtain ⟨hol, hold⟩ := hcs _ rfl
      rcases Nat.eq_zero_or_pos (cp 0) with hc0 | hcpos
      · have hl0 : ln 0 = 0 := by omega
        rw [hl0] at h elems hby hmx ⊢
        rw [hc0]
        obtain ⟨cap', hc1, hc2, hrun⟩ := run_append_empty (ty := ty) (w := w) ht hi hzz A a n c news (by rw [hnl, his, ← hsz]) hrd hn (by rw [hib]; simpa using hby) (by omega)
        obtain ⟨r, zz, β', H', w', r1, r2, r3, r4, r5, r6⟩ := app_new (len := 0) (olds := []) (news := news) (z := zv) k1 (h cap' (by omega)) hrun rfl hlz (by simp) hnl (by omega) hc2 (elems [] (by simp) (fun k hk => by omega))
        exact ⟨r, zz, β', H', w', r1, r2, r3, r4, r5, fun n0 => (k2 n0).trans (r6 n0)⟩
      · obtain ⟨g', b, hb, rfl⟩ := hA hcpos
        rw [q1] at hb
        obtain ⟨rfl, rfl⟩ : g = g' ∧ 0 = b := by simpa using hb
        have hgl : g < w.heap.size := by
          rcases Nat.lt_or_ge g w.heap.size with h | h
          · exact h
          · rw [Array.getElem?_eq_none h] at q2; cases q2
        have hown : w.ownsRow 0 e (sz + 1) (.slice (some ⟨g, 0 + 0 * (sz + 1), none⟩) (ln 0) (cp 0)) (ln 0) (cur.toList.take (ln 0 * (sz + 1))) := by
          refine ⟨hol, .inr ⟨g, cp 0, cur, by simp, Nat.zero_le _, q2, q4, by unfold maxLen; omega, q3, rfl⟩⟩
        obtain ⟨g', cap', w', hrun, ho2, hgr, hwh, hlt⟩ := run_append_lies (P := P) w t ty 0 e ie zv (sz + 1) ie.bytes ht hi hzz (his.trans hsz.symm) rfl hlz (by omega) _ _ _ hown a n c news hnl hrd h1 hn (by unfold maxLen; omega) (by rw [hib]; exact hby) (Nat.zero_le _) w.heap.size rfl
        obtain ⟨_, hfrm⟩ := ho2
        rcases hfrm with ⟨he, _⟩ | ⟨g2, cap2, cur2, he, _, s2, s3, s4, s5, s6⟩
        · cases he
        · obtain ⟨rfl, rfl⟩ : g' = g2 ∧ cap' = cap2 := by simpa using he
          have hown0 : (obAt H j).own 0 := by unfold Ob.own; rw [hct]; exact ⟨by omega, hro, hcpos⟩
          have hwh' : g' = g ∨ g' = w.heap.size := by
            rcases hwh with h | h
            · left; simpa [Value.ownBlock] using h.symm
            · exact .inr h
          have hblk : ∀ k, k < w.heap.size → k ≠ g → w'.heap[k]? = w.heap[k]? := fun k hk hne => hgr.block k hk (by simp [Value.ownBlock]; exact hne)
          have others : ∀ j1 i1 g1 b1 o1, (H.set j deadOb)[j1]? = some o1 → o1.mem i1 → β j1 i1 = some (g1, b1) → g1 < w.heap.size ∧ g1 ≠ g := by
            intro j1 i1 g1 b1 o1 ho1 hm hb1
            have hlt1 := (k1.ob j1 o1 ho1).block hm hb1
            refine ⟨hlt1, fun e1 => ?_⟩
            subst e1
            by_cases ej : j1 = j
            · subst ej
              rw [List.getElem?_set_self hjl] at ho1
              have := Option.some.inj ho1
              subst this
              exact hm
            · rw [List.getElem?_set_ne (Ne.symm ej)] at ho1
              exact ej (hI.sep j 0 j1 i1 _ _ g1 0 b1 hg ho1 hown0 hm q1 hb1).1.symm
          have hob : ObOk (push β H.length (some (g', 0))) w' H.length ⟨e, false, .row (sz + 1) 1 (fun _ => ln 0 + n) (fun _ => cap') (fun _ => appF (ln 0) n (f 0) new)⟩ := by
            intro i hi'
            have : i = 0 := by omega
            subst this
            refine .inr ⟨g', cur2, push_new _ _ _, s2, s5, s3, by unfold maxLen at s4; omega, fun k hk => ?_⟩
            obtain ⟨t1, t2⟩ := elems _ hol hold k hk
            refine ⟨t1, fun c x hx => ?_⟩
            obtain ⟨u, u1, u2⟩ := t2 c x hx
            refine ⟨u, ?_, Ok.mono (push_le hI _) _ _ u2⟩
            rw [← s6] at u1
            rw [List.getElem?_take] at u1
            split at u1
            · simpa using u1
            · cases u1
          rw [← hlenH] at hob
          have hpush := inv_push (w' := w') k1 (some (g', 0)) hgr.size (fun j1 i1 g1 b1 o1 ho1 hm hb1 => let ⟨a1, a2⟩ := others j1 i1 g1 b1 o1 ho1 hm hb1; hblk g1 a1 a2)
            (fun g1 b1 e1 j1 i1 b2 o1 ho1 hm hb1 => by
              obtain ⟨a1, a2⟩ := others j1 i1 g1 b2 o1 ho1 hm hb1
              have : g' = g1 := by simpa using congrArg (fun x => x.map Prod.fst) e1
              rcases hwh' with h | h <;> omega) hob ⟨fun i hi => Nat.lt_one_iff.1 hi.1, fun h => Nat.not_succ_le_zero _ h⟩
          refine does_of0 hI.gl ⟨_, _, _, _, _, h cap' s3, hrun, ?_, hpush, push_le k1 _, fun n0 => ⟨hgr.tape, hgr.os, hgr.output, hgr.size, fun k hk hno => hblk k hk fun e1 => hno ⟨j, 0, _, 0, hg, hown0, by rw [e1]; exact q1⟩, fun k hk ho1 => ?_, fun k hk ho1 => ?_, fun j1 i1 y _ hy => push_le k1 _ j1 i1 y hy, fun hl => by simp; omega⟩⟩
          · simp only [Ok]
            exact ⟨_, rfl, s3, fun _ => ⟨g', 0, push_new _ _ _, by simp⟩⟩
          · obtain ⟨j1, i1, o1, b1, t1, t2, t3⟩ := ho1
            rcases Nat.lt_trichotomy j1 (H.set j deadOb).length with hl | hl | hl
            · rw [List.getElem?_append_left hl] at t1
              rw [push_old _ _ _ (by omega)] at t3
              exact (k2 0).own k hk ⟨j1, i1, o1, b1, t1, t2, t3⟩
            · subst hl
              simp at t1
              subst t1
              have hi0 : i1 = 0 := Nat.lt_one_iff.1 t2.1
              subst hi0
              rw [push_new] at t3
              have : g' = k := by simpa using congrArg (fun x => x.map Prod.fst) t3
              rcases hwh' with h | h
              · exact ⟨j, 0, _, 0, hg, hown0, by rw [← this, h]; exact q1⟩
              · omega
            · rw [List.getElem?_eq_none (by simp at hl ⊢; omega)] at t1; cases t1
          · obtain ⟨j1, i1, o1, b1, t1, t2, t3⟩ := ho1
            rcases Nat.lt_trichotomy j1 (H.set j deadOb).length with hl | hl | hl
            · rw [List.getElem?_append_left hl] at t1
              rw [push_old _ _ _ (by omega)] at t3
              exact (k2 0).mem k hk ⟨j1, i1, o1, b1, t1, t2, t3⟩
            · subst hl
              simp at t1
              subst t1
              have hi0 : i1 = 0 := Nat.lt_one_iff.1 t2.1
              subst hi0
              rw [push_new] at t3
              have : g' = k := by simpa using congrArg (fun x => x.map Prod.fst) t3
              rcases hwh' with h | h
              · exact ⟨j, 0, _, 0, hg, Ob.own_mem hown0, by rw [← this, h]; exact q1⟩
              · omega
            · rw [List.getElem?_eq_none (by simp at hl ⊢; omega)] at t1; cases t1
  · exact h.elim
theorem appF_val {m n : Nat} {f g : Nat → List SV} {sz : Nat} (hn : ∀ k, k < n → (g k).length = sz) (h0 : 0 < n) {k : Nat} (hk : k < m + n) (ho : k < m → (f k).length = sz) : appF m n f g k = if k < m then f k else g (k - m) := by
  unfold appF
  by_cases hlt : k < m
  · rw [if_pos hlt]
    split
    · rw [mrgL_eq _ _ _ (by rw [ho hlt, hn 0 (by omega)])]; simp [hlt]
    · cases e1 : decide (k < m) with
      | false => simp at e1; omega
      | true =>
        have : ∀ l, mrgL true (f k) l = f k := by
          intro l
          generalize f k = l1
          induction l1 generalizing l with
          | nil => simp [mrgL]
          | cons x l1 ih =>
            cases l with
            | nil => simp [mrgL]
            | cons y l => simp [mrgL, mrg1_eq, ih]
        exact this _
  · rw [if_neg hlt]
    have mf : ∀ (l l1 : List SV), mrgL false l l1 = l1 := by
      intro l
      induction l with
      | nil => intro l1; simp [mrgL]
      | cons x l ih =>
        intro l1
        cases l1 with
        | nil => simp [mrgL]
        | cons y l1 => simp [mrgL, mrg1_eq, ih]
    have e1 : decide (k < m) = false := by simpa using hlt
    split
    · rw [e1, mf]; congr 1; omega
    · rw [e1, mf]
theorem appF_elems {m n sz : Nat} {f g : Nat → List SV} {olds news : List Value} (hF : ∀ k, k < n → (g k).length = sz ∧ ∀ c x, (g k)[c]? = some x → ∃ u, news[k * sz + c]? = some u ∧ Ok β x u) (h0 : 0 < n) (hol : olds.length = m * sz)
    (hold : ∀ k, k < m → (f k).length = sz ∧ ∀ c x, (f k)[c]? = some x → ∃ u, olds[k * sz + c]? = some u ∧ Ok β x u) :
    ∀ k, k < m + n → (appF m n f g k).length = sz ∧ ∀ c x, (appF m n f g k)[c]? = some x → ∃ u, (olds ++ news)[k * sz + c]? = some u ∧ Ok β x u := by
  intro k hk
  rw [appF_val (fun k hk => (hF k hk).1) h0 hk (fun hk => (hold k hk).1)]
  by_cases hlt : k < m
  · rw [if_pos hlt]
    refine ⟨(hold k hlt).1, fun c x hx => ?_⟩
    obtain ⟨u, q1, q2⟩ := (hold k hlt).2 c x hx
    exact ⟨u, by rw [List.getElem?_append_left (List.getElem?_eq_some_iff.1 q1).1]; exact q1, q2⟩
  · rw [if_neg hlt]
    refine ⟨(hF (k - m) (by omega)).1, fun c x hx => ?_⟩
    obtain ⟨u, q1, q2⟩ := (hF (k - m) (by omega)).2 c x hx
    refine ⟨u, ?_, q2⟩
    have : m * sz ≤ k * sz := Nat.mul_le_mul_right _ (by omega)
    rw [List.getElem?_append_right (by omega), hol, ← q1]
    congr 1
    rw [Nat.sub_mul]
    omega
theorem appG_does {t ty e sz n len cap j i off sz1 : Nat} {new : Nat → List SV} {u : Value} {a : Addr} {c : Nat} {news : List Value} (ht : P.underlying t = some (.slice e)) (hsz : sz + 1 = P.cellsOf e) (hz : ∃ z, (tiOf P e).zero = some z ∧ lenIs (z.map SV.v) (sz + 1) = true)
    (h : appG (obAt H j) i off sz1 e (sz + 1) len n (tiOf P e).bytes new H K) (hI : Inv β H w) (hu : Ok β (.s j i off len cap sz1) u) (hcl : cap < len + n)
    (hnl : news.length = n * (sz + 1)) (hrd : ∀ (q : Nat) u, news[q]? = some u → w.cell? (a.add q) = some u)
    (hF : ∀ k, k < n → (new k).length = sz + 1 ∧ ∀ c x, (new k)[c]? = some x → ∃ u, news[k * (sz + 1) + c]? = some u ∧ Ok β x u) :
    Does P β H w K (Builtin.append_ #[t, t] ty #[u, .slice (some a) n c]) := by
  obtain ⟨z, hz1, hz2⟩ := hz
  obtain ⟨ie, zv, hi, hzz, hzc, his, hib⟩ := zero_of hz1
  have hlz : zv.cells.size = sz + 1 := by have := lenIs_eq _ _ hz2; simpa [← hzc] using this
  unfold appG at h
  split at h
  case h_2 => exact h.elim
  rename_i sz' N ln cp f hct
  obtain ⟨rfl, rfl, hiN, hol, hsrc, hn, hby, hmx, h⟩ := h
  have hby : (len + n) * P.bytesOf e ≤ 140737488355328 := hby
  simp only [Ok] at hu
  obtain ⟨A, rfl, hlc, hA⟩ := hu
  rcases Nat.eq_zero_or_pos cap with hc0 | hcp
  · subst hc0
    have hl0 : len = 0 := by omega
    subst hl0
    obtain ⟨cap', hc1, hc2, hrun⟩ := run_append_empty (ty := ty) (w := w) ht hi hzz A a n c news (by rw [hnl, his, ← hsz]) hrd hn (by rw [hib]; simpa using hby) (by omega)
    exact app_new (len := 0) (olds := []) (news := news) (z := zv) hI (h cap' (by omega)) hrun rfl hlz (by simp) hnl (by omega) hc2 (appF_elems hF hn (by simp) (fun k hk => by omega))
  · obtain ⟨g, b, hb, rfl⟩ := hA hcp
    obtain ⟨olds, o1, o2, _, o4⟩ := row_news hI hct hiN hol hb hsrc
    have h1 := grownCap_ge w (len + n) cap e
    have h2 := grownCap_le_maxLen w (len + n) cap e (by unfold maxLen; omega)
    unfold maxLen at h2
    have hrun := run_append_grow (P := P) w t ty e ie zv ht hi hzz ⟨g, b + off * (sz + 1), none⟩ len cap olds (by rw [o1, his, ← hsz]) o2 a n c news (by rw [hnl, his, ← hsz]) hrd hcl (by omega) (by rw [hib]; exact growslice_fits hcl hby)
    exact app_new (len := len) (olds := olds) (news := news) (z := zv) hI (h _ h1) hrun rfl hlz o1 hnl h1 (by omega) (appF_elems hF hn o1 fun k hk => ⟨(lenP_eq (hsrc k hk).1).1, o4 k hk⟩)
set_option maxHeartbeats 2000000 in
theorem appI_does {t ty e sz n len cap j i off sz1 : Nat} {new : Nat → List SV} {u : Value} {a : Addr} {c : Nat} {news : List Value} (ht : P.underlying t = some (.slice e)) (hsz : sz + 1 = P.cellsOf e) (hz : ∃ z, (tiOf P e).zero = some z ∧ lenIs (z.map SV.v) (sz + 1) = true)
    (h : appI (obAt H j) j i off sz1 e (sz + 1) len cap n new H K) (hI : Inv β H w) (hu : Ok β (.s j i off len cap sz1) u) (hcl : len + n ≤ cap)
    (hnl : news.length = n * (sz + 1)) (hrd : ∀ (q : Nat) u, news[q]? = some u → w.cell? (a.add q) = some u) (h1 : ∀ u ∈ news, u.oneCell' = true)
    (hF : ∀ k, k < n → (new k).length = sz + 1 ∧ ∀ c x, (new k)[c]? = some x → ∃ u, news[k * (sz + 1) + c]? = some u ∧ Ok β x u) :
    Does P β H w K (Builtin.append_ #[t, t] ty #[u, .slice (some a) n c]) := by
  obtain ⟨z, hz1, hz2⟩ := hz
  obtain ⟨ie, zv, hi, hzz, hzc, his, hib⟩ := zero_of hz1
  unfold appI at h
  split at h
  case h_2 => exact h.elim
  rename_i sz' N ln cp f hct
  obtain ⟨rfl, rfl, hro, hty, rfl, hiN, hol, rfl, hn, h⟩ := h
  have hg := obAt_get (H := H) (j := j) (by rw [hct]; intro e; cases e)
  have ho := hI.ob j _ hg
  unfold ObOk at ho
  rw [hct] at ho
  simp only [hro, Bool.false_eq_true, if_false, hty] at ho
  simp only [Ok] at hu
  obtain ⟨A, rfl, hlc, hA⟩ := hu
  rcases ho i hiN with ⟨_, hc0⟩ | ⟨g, cur, q1, q2, q3, q4, q5, q6⟩
  · omega
  obtain ⟨g', b, hb, rfl⟩ := hA (by omega)
  rw [q1] at hb
  obtain ⟨rfl, rfl⟩ : g = g' ∧ 0 = b := by simpa using hb
  have hfit : (len + n) * (sz + 1) ≤ cp i * (sz + 1) := Nat.mul_le_mul_right _ hcl
  rw [Nat.add_mul] at hfit
  have hrun := run_append_room (P := P) w t ty e ie ht hi g len (cp i) cur q2 a n c news (by rw [hnl, his, ← hsz]) hrd h1 hcl (by rw [his, ← hsz]; omega)
  rw [his, ← hsz] at hrun
  have hr := setRow_rest w g (cur.toList.take (len * (sz + 1)) ++ news ++ cur.toList.drop (len * (sz + 1) + news.length)).toArray
  have hpg := put_get cur news (len * (sz + 1))
  have hown : (obAt H j).own i := by unfold Ob.own; rw [hct]; exact ⟨hiN, hro, by omega⟩
  have hmo : memO (obAt H j) i (len + n) (appF len n (f i) new) = ⟨e, false, .row (sz + 1) N (fun k => bif k == i then len + n else ln k) cp (fun k q => bif k == i then appF len n (f i) new q else f k q)⟩ := by
    unfold memO; rw [hct]; simp only [hro, hty]
  rw [hmo] at h
  have hobk : ObOk β (w.setRow g (cur.toList.take (len * (sz + 1)) ++ news ++ cur.toList.drop (len * (sz + 1) + news.length)).toArray) j ⟨e, false, .row (sz + 1) N (fun k => bif k == i then len + n else ln k) cp (fun k q => bif k == i then appF len n (f i) new q else f k q)⟩ := by
    unfold ObOk
    simp only [Bool.false_eq_true, if_false]
    intro i' hi'
    by_cases e1 : i' = i
    · subst e1
      refine .inr ⟨g, _, q1, setRow_heap w g cur _ _ _ q2, ?_, ?_, q5, fun k hk => ?_⟩
      · simp only [List.size_toArray, List.length_append, List.length_take, List.length_drop, Array.length_toList]; omega
      · simpa using hcl
      · simp only [beq_self_eq_true, cond_true] at hk ⊢
        rw [appF_val (fun k hk => (hF k hk).1) hn hk (fun hk => (q6 k (by omega)).1)]
        by_cases hlt : k < len
        · rw [if_pos hlt]
          obtain ⟨r1, r2⟩ := q6 k (by omega)
          refine ⟨r1, fun c' x hx => ?_⟩
          have hc : c' < sz + 1 := by have := (List.getElem?_eq_some_iff.1 hx).1; omega
          have : (k + 1) * (sz + 1) ≤ len * (sz + 1) := Nat.mul_le_mul_right _ (by omega)
          rw [Nat.succ_mul] at this
          rw [hpg _ (by omega), if_neg (by omega)]
          exact r2 c' x hx
        · rw [if_neg hlt]
          obtain ⟨r1, r2⟩ := hF (k - len) (by omega)
          refine ⟨r1, fun c' x hx => ?_⟩
          have hc : c' < sz + 1 := by have := (List.getElem?_eq_some_iff.1 hx).1; omega
          have t1 : len * (sz + 1) ≤ k * (sz + 1) := Nat.mul_le_mul_right _ (by omega)
          have t2 : (k + 1) * (sz + 1) ≤ (len + n) * (sz + 1) := Nat.mul_le_mul_right _ (by omega)
          rw [Nat.succ_mul, Nat.add_mul] at t2
          obtain ⟨u, u1, u2⟩ := r2 c' x hx
          refine ⟨u, ?_, u2⟩
          rw [hpg _ (by omega), if_pos (by omega), ← u1]
          congr 1
          rw [Nat.sub_mul]
          omega
    · have hne : (i' == i) = false := by simpa using e1
      simp only [hne, cond_false]
      rcases ho i' hi' with hnn | ⟨g2, cur2, p1, p2, p3, p4, p5, p6⟩
      · exact .inl hnn
      · rcases Nat.eq_zero_or_pos (cp i') with hz | hz
        · exact .inl ⟨by omega, hz⟩
        have hne : g2 ≠ g := fun eg => by
          subst eg
          have := (hI.sep j i j i' _ _ g2 0 0 hg hg hown (by unfold Ob.mem; rw [hct]; exact ⟨hi', fun hr => (by rw [hro] at hr; cases hr), fun _ => hz⟩) q1 p1).2
          exact e1 this.symm
        exact .inr ⟨g2, cur2, p1, (setRow_other w g g2 _ hne).trans p2, p3, p4, p5, p6⟩
  obtain ⟨h8, h9⟩ := inv_set hI hg hown q1 hr.1 hr.2.1 hr.2.2.1 hr.2.2.2 (fun k hk => setRow_other w g k _ hk) hobk
    (fun i hi => by unfold Ob.own at hi ⊢; rw [hct]; exact ⟨hi.1, hro, hi.2.2⟩)
    (fun i hi => by unfold Ob.mem at hi ⊢; rw [hct]; exact ⟨hi.1, fun h => (by rw [hro] at h; cases h), fun _ => hi.2.2 rfl⟩)
    (fun i hi => by unfold Ob.over at hi ⊢; rw [hct]; exact hi)
  refine ⟨_, _, β, _, _, h, by simpa using hrun, ?_, h8, BLe.refl β, h9⟩
  simp only [Ok]
  exact ⟨_, rfl, hcl, fun _ => ⟨g, 0, q1, by simp⟩⟩
theorem appX_does {t ty e sz n len cap j i off sz1 : Nat} {new : Nat → List SV} {u : Value} {a : Addr} {c : Nat} {news : List Value} (ht : P.underlying t = some (.slice e)) (hsz : sz + 1 = P.cellsOf e) (hz : ∃ z, (tiOf P e).zero = some z ∧ lenIs (z.map SV.v) (sz + 1) = true)
    (h : appX (obAt H j) j i off sz1 e (sz + 1) len cap n (tiOf P e).bytes new H K) (hI : Inv β H w) (hu : Ok β (.s j i off len cap sz1) u)
    (hnl : news.length = n * (sz + 1)) (hrd : ∀ (q : Nat) u, news[q]? = some u → w.cell? (a.add q) = some u) (h1 : ∀ u ∈ news, u.oneCell' = true)
    (hF : ∀ k, k < n → (new k).length = sz + 1 ∧ ∀ c x, (new k)[c]? = some x → ∃ u, news[k * (sz + 1) + c]? = some u ∧ Ok β x u) :
    Does P β H w K (Builtin.append_ #[t, t] ty #[u, .slice (some a) n c]) := by
  rcases Nat.lt_or_ge cap (len + n) with hlt | hge
  · exact appG_does ht hsz hz (h.2 hlt) hI hu hlt hnl hrd hF
  · exact appI_does ht hsz hz (h.1 hge) hI hu hge hnl hrd h1 hF
/-- A family gets one more member, in new memory. -/
theorem inv_grow0 {w' : World} {j sz N cap len g : Nat} {ln cp : Nat → Nat} {f : Nat → Nat → List SV} {F : Nat → List SV} {cur : Array Value} (hI : Inv β H w) (hb : Below w.heap.size w w') (hct : (obAt H j).ct = .row sz N ln cp f) (hro : (obAt H j).ro = false)
    (hg : w.heap.size ≤ g) (hcell : w'.heap[g]? = some (.cells cur (obAt H j).ty (0, 0))) (hsz : cur.size = cap * sz) (hlc : len ≤ cap) (hcm : cap ≤ 9223372036854775807)
    (hF : ∀ k, k < len → (F k).length = sz ∧ ∀ c x, (F k)[c]? = some x → ∃ u, cur[k * sz + c]? = some u ∧ Ok β x u) :
    ∃ β', β' j N = some (g, 0) ∧ Inv0 β' (H.set j ⟨(obAt H j).ty, (obAt H j).ro, .row sz (N + 1) (fun k => bif k == N then len else ln k) (fun k => bif k == N then cap else cp k) (fun k q => bif k == N then F q else f k q)⟩) w' ∧ BLe β β' ∧
      ∀ n0, Fr n0 β H w β' (H.set j ⟨(obAt H j).ty, (obAt H j).ro, .row sz (N + 1) (fun k => bif k == N then len else ln k) (fun k => bif k == N then cap else cp k) (fun k q => bif k == N then F q else f k q)⟩) w' := by
  have hgj := obAt_get (H := H) (j := j) (by rw [hct]; intro e; cases e)
  have hlj := (List.getElem?_eq_some_iff.1 hgj).1
  have hbN : β j N = none := hI.bey j _ N hgj (by unfold Ob.over; rw [hct]; exact Nat.le_refl _)
  let β' : Bs := fun a b => if a = j ∧ b = N then some (g, 0) else β a b
  have hnew : β' j N = some (g, 0) := by simp [β']
  have hold : ∀ a b, ¬ (a = j ∧ b = N) → β' a b = β a b := fun a b h => by simp only [β']; rw [if_neg h]
  have hle : BLe β β' := fun a b y h => by
    by_cases e : a = j ∧ b = N
    · obtain ⟨rfl, rfl⟩ := e; rw [hbN] at h; cases h
    · rw [hold a b e]; exact h
  have hblk : ∀ j i g b o, H[j]? = some o → o.mem i → β j i = some (g, b) → g < w.heap.size := fun j i g b o ho hm hg => (hI.ob j o ho).block hm hg
  have ho := hI.ob j _ hgj
  unfold ObOk at ho
  rw [hct] at ho
  simp only [hro, Bool.false_eq_true, if_false] at ho
  generalize hob : (⟨(obAt H j).ty, (obAt H j).ro, .row sz (N + 1) (fun k => bif k == N then len else ln k) (fun k => bif k == N then cap else cp k) (fun k q => bif k == N then F q else f k q)⟩ : Ob) = ob'
  have key : ∀ j1 o1, (H.set j ob')[j1]? = some o1 → (j1 = j ∧ o1 = ob') ∨ (j1 ≠ j ∧ H[j1]? = some o1) := fun j1 o1 h => by
    by_cases e : j1 = j
    · subst e
      rw [List.getElem?_set_self hlj] at h
      exact .inl ⟨rfl, (Option.some.inj h).symm⟩
    · rw [List.getElem?_set_ne (Ne.symm e)] at h
      exact .inr ⟨e, h⟩
  have memj : ∀ i, ob'.mem i → i ≠ N → (obAt H j).mem i := fun i hm hne => by
    subst hob
    have hm1 : i < N + 1 := hm.1
    have hm2 : 0 < (bif i == N then cap else cp i) := hm.2.2 hro
    have hb : (i == N) = false := by simpa using hne
    rw [hb] at hm2
    unfold Ob.mem
    rw [hct]
    exact ⟨by omega, fun h => (by rw [hro] at h; cases h), fun _ => hm2⟩
  have ownj : ∀ i, ob'.own i → i ≠ N → (obAt H j).own i := fun i hm hne => by
    subst hob
    have hm1 : i < N + 1 := hm.1
    have hm2 : 0 < (bif i == N then cap else cp i) := hm.2.2
    have hb : (i == N) = false := by simpa using hne
    rw [hb] at hm2
    unfold Ob.own
    rw [hct]
    exact ⟨by omega, hro, hm2⟩
  have src : ∀ j1 o1 i1 g1 b1, (H.set j ob')[j1]? = some o1 → o1.mem i1 → β' j1 i1 = some (g1, b1) → (j1 = j ∧ i1 = N ∧ g1 = g) ∨ (¬ (j1 = j ∧ i1 = N) ∧ ∃ p, H[j1]? = some p ∧ p.mem i1 ∧ β j1 i1 = some (g1, b1) ∧ (o1.own i1 → p.own i1)) := by
    intro j1 o1 i1 g1 b1 h1 hm hx
    by_cases e : j1 = j ∧ i1 = N
    · obtain ⟨rfl, rfl⟩ := e
      rw [hnew] at hx
      exact .inl ⟨rfl, rfl, by have := congrArg (fun x => x.map Prod.fst) hx; simpa using this.symm⟩
    · rw [hold _ _ e] at hx
      refine .inr ⟨e, ?_⟩
      rcases key j1 o1 h1 with ⟨rfl, rfl⟩ | ⟨hne, h⟩
      · have hi : i1 ≠ N := fun h => e ⟨rfl, h⟩
        exact ⟨_, hgj, memj i1 hm hi, hx, fun ho => ownj i1 ho hi⟩
      · exact ⟨_, h, hm, hx, fun h => h⟩
  refine ⟨β', hnew, ⟨fun j1 o1 h1 => ?_, fun j1 i1 hj1 => ?_, fun j1 i1 j2 i2 o1 o2 g1 b1 b2 h1 h2 hw hm hb1 hb2 => ?_, fun j1 o1 i1 h1 hv => ?_⟩, hle, fun n0 => ⟨hb.tape, hb.os, hb.output, hb.size, fun k hk _ => hb.block k hk, fun k hk hown => ?_, fun k hk hmem => ?_, fun j1 i1 x _ hx => hle _ _ _ hx, fun hl => by simpa using hl⟩⟩
  · rcases key j1 o1 h1 with ⟨rfl, rfl⟩ | ⟨hne, h⟩
    · subst hob
      unfold ObOk
      simp only [hro, Bool.false_eq_true, if_false]
      intro i hi
      by_cases e : i = N
      · subst e
        refine .inr ⟨g, cur, hnew, hcell, ?_, ?_, ?_, fun k hk => ?_⟩
        · simpa using hsz
        · simpa using hlc
        · simpa using hcm
        · simp only [beq_self_eq_true, cond_true] at hk ⊢
          exact ⟨(hF k hk).1, fun c x hx => let ⟨u, u1, u2⟩ := (hF k hk).2 c x hx; ⟨u, u1, Ok.mono hle _ _ u2⟩⟩
      · have hne : (i == N) = false := by simpa using e
        simp only [hne, cond_false]
        rcases ho i (by omega) with h | ⟨g2, cur2, p1, p2, p3, p4, p5, p6⟩
        · exact .inl h
        · have hlt : g2 < w.heap.size := by
            rcases Nat.lt_or_ge g2 w.heap.size with h | h
            · exact h
            · rw [Array.getElem?_eq_none h] at p2; cases p2
          exact .inr ⟨g2, cur2, hle _ _ _ p1, (hb.block g2 hlt).trans p2, p3, p4, p5, fun k hk => ⟨(p6 k hk).1, fun c x hx => let ⟨u, u1, u2⟩ := (p6 k hk).2 c x hx; ⟨u, u1, Ok.mono hle _ _ u2⟩⟩⟩
    · exact (hI.ob j1 o1 h).same hle (fun i hn => by rw [hold _ _ (fun e => hne e.1)]; exact hn) hb.size (fun i g1 b1 hm hb1 => hb.block g1 (hblk j1 i g1 b1 o1 h hm hb1))
  · have : H.length ≤ j1 := by simpa using hj1
    rw [hold _ _ (fun e => by omega)]
    exact hI.out j1 i1 this
  · rcases src j1 o1 i1 g1 b1 h1 (Ob.own_mem hw) hb1 with ⟨a1, a2, a3⟩ | ⟨_, p, a1, a2, a3, a4⟩ <;> rcases src j2 o2 i2 g1 b2 h2 hm hb2 with ⟨c1, c2, c3⟩ | ⟨_, q, c1, c2, c3, c4⟩
    · exact ⟨a1.trans c1.symm, a2.trans c2.symm⟩
    · have := hblk _ _ _ _ _ c1 c2 c3; omega
    · have := hblk _ _ _ _ _ a1 a2 a3; omega
    · exact hI.sep j1 i1 j2 i2 p q g1 b1 b2 a1 c1 (a4 hw) c2 a3 c3
  · rcases key j1 o1 h1 with ⟨rfl, rfl⟩ | ⟨hne, h⟩
    · subst hob
      have hv : N + 1 ≤ i1 := hv
      rw [hold _ _ (fun e => by omega)]
      exact hI.bey j1 _ i1 hgj (by unfold Ob.over; rw [hct]; show N ≤ i1; omega)
    · rw [hold _ _ (fun e => hne e.1)]
      exact hI.bey j1 o1 i1 h hv
  · obtain ⟨j1, i1, o1, b, t1, t2, t3⟩ := hown
    rcases src j1 o1 i1 k b t1 (Ob.own_mem t2) t3 with ⟨_, _, a3⟩ | ⟨_, p, a1, a2, a3, a4⟩
    · omega
    · exact ⟨j1, i1, p, b, a1, a4 t2, a3⟩
  · obtain ⟨j1, i1, o1, b, t1, t2, t3⟩ := hmem
    rcases src j1 o1 i1 k b t1 t2 t3 with ⟨_, _, a3⟩ | ⟨_, p, a1, a2, a3, a4⟩
    · omega
    · exact ⟨j1, i1, p, b, a1, a2, a3⟩
theorem inv_grow {w' : World} {j sz N cap len g : Nat} {ln cp : Nat → Nat} {f : Nat → Nat → List SV} {F : Nat → List SV} {cur : Array Value} (hI : Inv β H w) (hb : Below w.heap.size w w') (hct : (obAt H j).ct = .row sz N ln cp f) (hro : (obAt H j).ro = false)
    (hg : w.heap.size ≤ g) (hcell : w'.heap[g]? = some (.cells cur (obAt H j).ty (0, 0))) (hsz : cur.size = cap * sz) (hlc : len ≤ cap) (hcm : cap ≤ 9223372036854775807)
    (hF : ∀ k, k < len → (F k).length = sz ∧ ∀ c x, (F k)[c]? = some x → ∃ u, cur[k * sz + c]? = some u ∧ Ok β x u) :
    ∃ β', β' j N = some (g, 0) ∧ Inv β' (H.set j ⟨(obAt H j).ty, (obAt H j).ro, .row sz (N + 1) (fun k => bif k == N then len else ln k) (fun k => bif k == N then cap else cp k) (fun k q => bif k == N then F q else f k q)⟩) w' ∧ BLe β β' ∧
      ∀ n0, Fr n0 β H w β' (H.set j ⟨(obAt H j).ty, (obAt H j).ro, .row sz (N + 1) (fun k => bif k == N then len else ln k) (fun k => bif k == N then cap else cp k) (fun k q => bif k == N then F q else f k q)⟩) w' := by
  obtain ⟨β', h1, h2, h3, h4⟩ := inv_grow0 hI hb hct hro hg hcell hsz hlc hcm hF
  exact ⟨β', h1, ⟨h2, hI.gl.fr (h4 0)⟩, h3, h4⟩
theorem appY_does {t ty e sz n len cap j i off sz1 : Nat} {new : Nat → List SV} {u : Value} {a : Addr} {c : Nat} {news : List Value} (ht : P.underlying t = some (.slice e)) (hsz : sz + 1 = P.cellsOf e) (hz : ∃ z, (tiOf P e).zero = some z ∧ lenIs (z.map SV.v) (sz + 1) = true)
    (h : appY (obAt H j) j i off sz1 e (sz + 1) len cap n (tiOf P e).bytes new H K) (hI : Inv β H w) (hu : Ok β (.s j i off len cap sz1) u)
    (hnl : news.length = n * (sz + 1)) (hrd : ∀ (q : Nat) u, news[q]? = some u → w.cell? (a.add q) = some u) (h1 : ∀ u ∈ news, u.oneCell' = true)
    (hF : ∀ k, k < n → (new k).length = sz + 1 ∧ ∀ c x, (new k)[c]? = some x → ∃ u, news[k * (sz + 1) + c]? = some u ∧ Ok β x u) :
    Does P β H w K (Builtin.append_ #[t, t] ty #[u, .slice (some a) n c]) := by
  unfold appY at h
  split at h
  case h_2 => exact h.elim
  rename_i sz' N ln cp f hct
  obtain ⟨rfl, rfl, hro, hty, rfl, hiN, hol, rfl, hn, hby, hmx, hsrc, h⟩ := h
  have hval := fun {k : Nat} (hk : k < len + n) => appF_val (f := f i) (m := len) (fun k hk => (hF k hk).1) hn hk (fun hk => (lenP_eq (hsrc k hk).1).1)
  rcases Nat.lt_or_ge (cp i) (len + n) with hlt | hge
  · obtain ⟨z, hz1, hz2⟩ := hz
    obtain ⟨ie, zv, hi, hzz, hzc, his, hib⟩ := zero_of hz1
    have hlz : zv.cells.size = sz + 1 := by have := lenIs_eq _ _ hz2; simpa [← hzc] using this
    have hby : (len + n) * P.bytesOf e ≤ 140737488355328 := hby
    simp only [Ok] at hu
    obtain ⟨A, rfl, hlc, hA⟩ := hu
    -- the new block
    obtain ⟨olds, cap', hc1, hc2, hrun, hol2, hold⟩ : ∃ (olds : List Value) (cap' : Nat), len + n ≤ cap' ∧ cap' ≤ 9223372036854775807 ∧
        (Builtin.append_ #[t, t] ty #[.slice A len (cp i), .slice (some a) n c]).run P w = .ok (.slice (some ⟨w.heap.size, 0, none⟩) (len + n) cap') (w.drew.alloc (.cells (olds.toArray ++ news.toArray ++ Builtin.zeroCells zv.cells (cap' - (len + n))) e)) ∧ olds.length = len * (sz + 1) ∧
        ∀ k, k < len → (f i k).length = sz + 1 ∧ ∀ c x, (f i k)[c]? = some x → ∃ u, olds[k * (sz + 1) + c]? = some u ∧ Ok β x u := by
      rcases Nat.eq_zero_or_pos (cp i) with hc0 | hcp
      · have hl0 : len = 0 := by omega
        subst hl0
        rw [hc0]
        obtain ⟨cap', hc1, hc2, hrun⟩ := run_append_empty (ty := ty) (w := w) ht hi hzz A a n c news (by rw [hnl, his, ← hsz]) hrd hn (by rw [hib]; simpa using hby) (by omega)
        exact ⟨[], cap', by omega, hc2, hrun, by simp, fun k hk => by omega⟩
      · obtain ⟨g, b, hb, rfl⟩ := hA hcp
        obtain ⟨olds, o1, o2, _, o4⟩ := row_news (o := 0) (n := len) hI hct hiN (by omega) hb (by simpa using hsrc)
        have h1 := grownCap_ge w (len + n) (cp i) e
        have h2 := grownCap_le_maxLen w (len + n) (cp i) e (by unfold maxLen; omega)
        unfold maxLen at h2
        have hrun := run_append_grow (P := P) w t ty e ie zv ht hi hzz ⟨g, b + 0 * (sz + 1), none⟩ len (cp i) olds (by rw [o1, his, ← hsz]) o2 a n c news (by rw [hnl, his, ← hsz]) hrd hlt (by omega) (by rw [hib]; exact growslice_fits hlt hby)
        exact ⟨olds, _, h1, by omega, hrun, o1, fun k hk => ⟨(lenP_eq (hsrc k hk).1).1, by simpa using o4 k hk⟩⟩
    have hel := appF_elems hF hn hol2 hold
    have hsize : (olds.toArray ++ news.toArray ++ Builtin.zeroCells zv.cells (cap' - (len + n))).size = cap' * (sz + 1) := by
      simp only [Array.size_append, List.size_toArray, zeroCells_size, hlz, hol2, hnl, ← Nat.add_mul]
      congr 1
      omega
    have hb : Below w.heap.size w (w.drew.alloc (.cells (olds.toArray ++ news.toArray ++ Builtin.zeroCells zv.cells (cap' - (len + n))) e)) := (Below.refl _ _).drew.alloc (Nat.le_refl _) _
    obtain ⟨β', g1, g2, g3, g4⟩ := inv_grow (F := appF len n (f i) new) (len := len + n) (cap := cap') hI hb hct hro (Nat.le_refl _) (by rw [hty]; exact heap_alloc_new w.drew _) hsize hc1 hc2 fun k hk => ⟨(hel k hk).1, fun c x hx => by
      obtain ⟨u, h1, h2⟩ := (hel k hk).2 c x hx
      refine ⟨u, ?_, h2⟩
      have hlt := (List.getElem?_eq_some_iff.1 h1).1
      rw [Array.getElem?_append_left (by simpa using hlt), ← h1]
      simp⟩
    refine ⟨_, _, β', _, _, h (N + 1) _ _ _ N ⟨by omega, by omega, .inr (Nat.le_refl _), fun q hq => by omega, by simp, by simpa using hc1, fun k hk => ?_, fun k hk => ?_, fun q hq => ?_, fun q hq hne => ?_⟩, hrun, ?_, g2, g3, g4⟩
    · simp only [beq_self_eq_true, cond_true]
      rw [hval (by omega), if_pos hk]
    · simp only [beq_self_eq_true, cond_true]
      rw [hval (by omega), if_neg (by omega)]
      congr 1
      omega
    · have : (q == N) = false := by simp; omega
      simp only [this, cond_false]
    · have : (q == N) = false := by simp; omega
      simp only [this, cond_false]
      exact ⟨by trivial, fun _ => by trivial⟩
    · simp only [Ok, beq_self_eq_true, cond_true]
      exact ⟨_, rfl, hc1, fun _ => ⟨_, 0, g1, by simp⟩⟩
  · refine appI_does (len := len) (cap := cp i) ht hsz hz ?_ hI hu hge hnl hrd h1 hF
    unfold appI
    rw [hct]
    refine ⟨rfl, rfl, hro, hty, rfl, hiN, hol, rfl, hn, ?_⟩
    unfold memO
    rw [hct]
    refine h N _ cp _ i ⟨Nat.le_refl _, hiN, .inl rfl, fun q hq => .inl hq, by simp, hge, fun k hk => ?_, fun k hk => ?_, fun _ _ => rfl, fun q hq hne => ?_⟩
    · simp only [beq_self_eq_true, cond_true]
      rw [hval (by omega), if_pos hk]
    · simp only [beq_self_eq_true, cond_true]
      rw [hval (by omega), if_neg (by omega)]
      congr 1
      omega
    · have : (q == i) = false := by simpa using hne
      simp only [this, cond_false]
      exact ⟨by trivial, fun _ => by trivial⟩
/-- A member of a family, as an object of its own. -/
theorem take_out0 {j i sz N : Nat} {ln cp : Nat → Nat} {f : Nat → Nat → List SV} (hI : Inv β H w) (hct : (obAt H j).ct = .row sz N ln cp f) (hro : (obAt H j).ro = false) (hi : i < N) :
    Inv0 (push β H.length (β j i)) (H.set j (holeO (obAt H j) i) ++ [⟨(obAt H j).ty, false, .row sz 1 (fun _ => ln i) (fun _ => cp i) (fun _ => f i)⟩]) w ∧ BLe β (push β H.length (β j i)) ∧
      ∀ n0, Fr n0 β H w (push β H.length (β j i)) (H.set j (holeO (obAt H j) i) ++ [⟨(obAt H j).ty, false, .row sz 1 (fun _ => ln i) (fun _ => cp i) (fun _ => f i)⟩]) w := by
  have hg := obAt_get (H := H) (j := j) (by rw [hct]; intro e; cases e)
  have hlj := (List.getElem?_eq_some_iff.1 hg).1
  have hle := push_le hI (β j i)
  have hhole : holeO (obAt H j) i = ⟨(obAt H j).ty, false, .row sz N (fun k => bif k == i then 0 else ln k) (fun k => bif k == i then 0 else cp k) f⟩ := by unfold holeO; rw [hct, hro]
  have ho := hI.ob j _ hg
  unfold ObOk at ho
  rw [hct] at ho
  simp only [hro, Bool.false_eq_true, if_false] at ho
  -- where an object came from
  have cases' : ∀ j1 o1, (H.set j (holeO (obAt H j) i) ++ [⟨(obAt H j).ty, false, .row sz 1 (fun _ => ln i) (fun _ => cp i) (fun _ => f i)⟩])[j1]? = some o1 →
      (j1 = H.length ∧ o1 = ⟨(obAt H j).ty, false, .row sz 1 (fun _ => ln i) (fun _ => cp i) (fun _ => f i)⟩) ∨ (j1 ≠ H.length ∧ j1 = j ∧ o1 = holeO (obAt H j) i) ∨ (j1 ≠ H.length ∧ j1 ≠ j ∧ H[j1]? = some o1) := by
    intro j1 o1 h1
    rcases Nat.lt_trichotomy j1 H.length with h | h | h
    · rw [List.getElem?_append_left (by simpa using h)] at h1
      by_cases e : j1 = j
      · subst e
        rw [List.getElem?_set_self hlj] at h1
        exact .inr (.inl ⟨by omega, rfl, (Option.some.inj h1).symm⟩)
      · rw [List.getElem?_set_ne (Ne.symm e)] at h1
        exact .inr (.inr ⟨by omega, e, h1⟩)
    · subst h
      rw [List.getElem?_append_right (by simp)] at h1
      simp at h1
      exact .inl ⟨rfl, h1.symm⟩
    · rw [List.getElem?_eq_none (by simp; omega)] at h1; cases h1
  have src : ∀ j1 o1 i1 x, (H.set j (holeO (obAt H j) i) ++ [⟨(obAt H j).ty, false, .row sz 1 (fun _ => ln i) (fun _ => cp i) (fun _ => f i)⟩])[j1]? = some o1 → o1.mem i1 → push β H.length (β j i) j1 i1 = some x →
      ∃ j0 i0 p, H[j0]? = some p ∧ p.mem i0 ∧ β j0 i0 = some x ∧ (o1.own i1 → p.own i0) ∧ ((j1 = H.length ∧ i1 = 0 ∧ j0 = j ∧ i0 = i) ∨ (j1 = j0 ∧ i1 = i0 ∧ ¬ (j0 = j ∧ i0 = i))) := by
    intro j1 o1 i1 x h1 hm hx
    rcases cases' j1 o1 h1 with ⟨rfl, rfl⟩ | ⟨hn, rfl, rfl⟩ | ⟨hn, hne, h2⟩
    · have e1 : i1 = 0 := Nat.lt_one_iff.1 hm.1
      subst e1
      rw [push_new] at hx
      have hcp : 0 < cp i := hm.2.2 rfl
      exact ⟨j, i, _, hg, by unfold Ob.mem; rw [hct]; exact ⟨hi, fun h => (by rw [hro] at h; cases h), fun _ => hcp⟩, hx, fun _ => by unfold Ob.own; rw [hct]; exact ⟨hi, hro, hcp⟩, .inl ⟨rfl, rfl, rfl, rfl⟩⟩
    · rw [push_old _ _ _ hn] at hx
      rw [hhole] at hm
      have hm1 : i1 < N := hm.1
      have hm2 : 0 < (bif i1 == i then 0 else cp i1) := hm.2.2 rfl
      have hii : i1 ≠ i := fun e => by subst e; simp at hm2
      have hb : (i1 == i) = false := by simpa using hii
      rw [hb] at hm2
      exact ⟨j1, i1, _, hg, by unfold Ob.mem; rw [hct]; exact ⟨hm1, fun h => (by rw [hro] at h; cases h), fun _ => hm2⟩, hx, fun _ => by unfold Ob.own; rw [hct]; exact ⟨hm1, hro, hm2⟩, .inr ⟨rfl, rfl, fun h => hii h.2⟩⟩
    · rw [push_old _ _ _ hn] at hx
      exact ⟨j1, i1, _, h2, hm, hx, fun h => h, .inr ⟨rfl, rfl, fun h => hne h.1⟩⟩
  refine ⟨⟨fun j1 o1 h1 => ?_, fun j1 i1 hj1 => ?_, fun j1 i1 j2 i2 o1 o2 g b b' h1 h2 hw hm hb hb' => ?_, fun j1 o1 i1 h1 hv => ?_⟩, hle, fun n0 => ⟨rfl, rfl, rfl, Nat.le_refl _, fun _ _ _ => rfl, fun g hg' hown => ?_, fun g hg' hmem => ?_, fun j1 i1 x _ hx => hle _ _ _ hx, fun h => by simp; omega⟩⟩
  · rcases cases' j1 o1 h1 with ⟨rfl, rfl⟩ | ⟨hn, rfl, rfl⟩ | ⟨hn, hne, h2⟩
    · intro i1 hi1
      have e1 : i1 = 0 := by omega
      subst e1
      rcases ho i hi with h | ⟨g, cur, q1, q2, q3, q4, q5, q6⟩
      · exact .inl h
      · exact .inr ⟨g, cur, by rw [push_new]; exact q1, q2, q3, q4, q5, fun k hk => ⟨(q6 k hk).1, fun c x hx => let ⟨u, u1, u2⟩ := (q6 k hk).2 c x hx; ⟨u, u1, Ok.mono hle _ _ u2⟩⟩⟩
    · rw [hhole]
      intro i1 hi1
      by_cases e : i1 = i
      · subst e; exact .inl ⟨by simp, by simp⟩
      · have hb : (i1 == i) = false := by simpa using e
        simp only [hb, cond_false]
        rcases ho i1 hi1 with h | ⟨g, cur, q1, q2, q3, q4, q5, q6⟩
        · exact .inl h
        · exact .inr ⟨g, cur, hle _ _ _ q1, q2, q3, q4, q5, fun k hk => ⟨(q6 k hk).1, fun c x hx => let ⟨u, u1, u2⟩ := (q6 k hk).2 c x hx; ⟨u, u1, Ok.mono hle _ _ u2⟩⟩⟩
    · exact (hI.ob j1 o1 h2).same hle (fun i hn' => by rw [push_old _ _ _ hn]; exact hn') (Nat.le_refl _) fun _ _ _ _ _ => rfl
  · simp at hj1
    rw [push_old _ _ _ (by omega)]
    exact hI.out j1 i1 (by omega)
  · obtain ⟨j3, i3, p, q1, q2, q3, q4, q5⟩ := src j1 o1 i1 _ h1 (Ob.own_mem hw) hb
    obtain ⟨j4, i4, p', r1, r2, r3, r4, r5⟩ := src j2 o2 i2 _ h2 hm hb'
    obtain ⟨e1, e2⟩ := hI.sep j3 i3 j4 i4 p p' g b b' q1 r1 (q4 hw) r2 q3 r3
    subst e1 e2
    rcases q5 with ⟨a1, a2, a3, a4⟩ | ⟨a1, a2, a3⟩ <;> rcases r5 with ⟨b1, b2, b3, b4⟩ | ⟨b1, b2, b3⟩
    · exact ⟨a1.trans b1.symm, a2.trans b2.symm⟩
    · exact absurd ⟨a3, a4⟩ b3
    · exact absurd ⟨b3, b4⟩ a3
    · exact ⟨a1.trans b1.symm, a2.trans b2.symm⟩
  · rcases cases' j1 o1 h1 with ⟨rfl, rfl⟩ | ⟨hn, rfl, rfl⟩ | ⟨hn, hne, h2⟩
    · have hv : 1 ≤ i1 := hv
      simp only [push, if_true]
      rw [if_neg (by omega)]
    · rw [push_old _ _ _ hn]
      rw [hhole] at hv
      exact hI.bey j1 _ i1 hg (by unfold Ob.over; rw [hct]; exact hv)
    · rw [push_old _ _ _ hn]
      exact hI.bey j1 o1 i1 h2 hv
  · obtain ⟨j1, i1, o1, b, h1, h2, h3⟩ := hown
    obtain ⟨j3, i3, p, q1, q2, q3, q4, q5⟩ := src j1 o1 i1 _ h1 (Ob.own_mem h2) h3
    exact ⟨j3, i3, p, b, q1, q4 h2, q3⟩
  · obtain ⟨j1, i1, o1, b, h1, h2, h3⟩ := hmem
    obtain ⟨j3, i3, p, q1, q2, q3, q4, q5⟩ := src j1 o1 i1 _ h1 h2 h3
    exact ⟨j3, i3, p, b, q1, q2, q3⟩
theorem take_out {j i sz N : Nat} {ln cp : Nat → Nat} {f : Nat → Nat → List SV} (hI : Inv β H w) (hct : (obAt H j).ct = .row sz N ln cp f) (hro : (obAt H j).ro = false) (hi : i < N) :
    Inv (push β H.length (β j i)) (H.set j (holeO (obAt H j) i) ++ [⟨(obAt H j).ty, false, .row sz 1 (fun _ => ln i) (fun _ => cp i) (fun _ => f i)⟩]) w ∧ BLe β (push β H.length (β j i)) ∧
      ∀ n0, Fr n0 β H w (push β H.length (β j i)) (H.set j (holeO (obAt H j) i) ++ [⟨(obAt H j).ty, false, .row sz 1 (fun _ => ln i) (fun _ => cp i) (fun _ => f i)⟩]) w := by
  obtain ⟨h1, h2, h3⟩ := take_out0 hI hct hro hi
  exact ⟨⟨h1, hI.gl.fr (h3 0)⟩, h2, h3⟩
theorem does_pre {β1 : Bs} {H1 : List Ob} {s : Sem Value} (hb : BLe β β1) (hf : ∀ n0, Fr n0 β H w β1 H1 w) (h : Does P β1 H1 w K s) : Does P β H w K s := by
  obtain ⟨r, z, β', H', w', q1, q2, q3, q4, q5, q6⟩ := h
  exact ⟨r, z, β', H', w', q1, q2, q3, q4, hb.trans q5, fun n0 => (hf n0).trans (q6 n0)⟩
/-- Zeros behind nothing. -/
def apz2 (e esz : Nat) (n : Nat) (z : List SV) (H : List Ob) (K : SV → List Ob → Prop) : Prop := ∀ cap, n ≤ cap → newRow1 e (esz + 1) n cap (fun _ => z) H K
def apz (e esz by_ : Nat) (n : Int) (H : List Ob) (K : SV → List Ob → Prop) (z : List Value) : Prop := lenIs (z.map SV.v) (esz + 1) = true ∧ 0 < n ∧ n ≤ 9223372036854775807 ∧ n * (by_ : Int) ≤ 281474976710656 ∧ apz2 e esz n.toNat (z.map SV.v) H K
/-- Zeros behind a part of a row, beyond its room. -/
def apzG (o : Ob) (i off sz1 e esz len by_ : Nat) (n : Int) (H : List Ob) (K : SV → List Ob → Prop) (z : List Value) : Prop := lenIs (z.map SV.v) (esz + 1) = true ∧ appG o i off sz1 e (esz + 1) len n.toNat by_ (fun _ => z.map SV.v) H K
def app3 (P : Program) (td td' : TD) (x : SV) (n : Int) (H : List Ob) (K : SV → List Ob → Prop) : Prop :=
  match td, td', x with
  | .slice e (esz + 1), .int _, .v (.slice none 0 0) => optK (tiOf P e).zero (apz e esz (tiOf P e).bytes n H K)
  | .slice e (esz + 1), .int _, .s j i off len cap sz1 => 0 < cap ∧ (cap : Int) < len + n ∧ 0 < n ∧ optK (tiOf P e).zero (apzG (obAt H j) i off sz1 e esz len (tiOf P e).bytes n H K)
  | _, _, _ => False
theorem zeroCells_get (z : Array Value) (n i : Nat) (h : i < n * z.size) (hz : 0 < z.size) : (Builtin.zeroCells z n)[i]? = some (z[i % z.size]'(Nat.mod_lt _ hz)) := by
  unfold Builtin.zeroCells
  rw [Array.getElem?_map, Array.getElem?_range, if_pos h]
  simp only [Option.map_some]
  rw [getElem!_pos z (i % z.size) (Nat.mod_lt _ hz)]
theorem run_grow_zeros {P : Program} (w : World) (t tn ty e : TypeId) (i : TypeInfo) (z : Value) (k kn : IntKind) (ht : P.underlying t = some (.slice e)) (htn : P.underlying tn = some (.int kn)) (hi : P.info? e = some i) (hz : i.zero = some z)
    (b : Addr) (sLen sCap : Nat) (olds : List Value) (hlo : olds.length = sLen * i.size) (holds : ∀ j v, olds[j]? = some v → w.cell? (b.add j) = some v)
    (n : Nat) (h0 : 0 < n) (hs : 0 < i.size) (hg : sCap < sLen + n) (h63 : ((sLen + n : Nat) : Int) ≤ 9223372036854775807) (h48 : n * i.bytes ≤ 281474976710656) (hfit : Builtin.nextslicecap (sLen + n) sCap * i.bytes ≤ 281474976710656) :
    (Builtin.append_ #[t, tn] ty #[.slice (some b) sLen sCap, .int k n]).run P w =
      .ok (.slice (some ⟨w.heap.size, 0, none⟩) (sLen + n) (grownCap w (sLen + n) sCap e))
        (w.drew.alloc (.cells (olds.toArray ++ Builtin.zeroCells z.cells n ++ Builtin.zeroCells z.cells (grownCap w (sLen + n) sCap e - (sLen + n))) e)) := by
  have hn : ¬ (sLen + n ≤ sCap) := by omega
  have hw : IntKind.i64.wrap (n : Int) = n := by rw [IntKind.wrap_i64]; omega
  have h63' : ¬ (9223372036854775807 < ((sLen : Int) + (n : Int))) := by omega
  have h48' : ¬ (281474976710656 < Builtin.nextslicecap (sLen + n) sCap * i.bytes) := by omega
  have h48i : ¬ (281474976710656 < (n : Int) * (i.bytes : Int)) := by
    rw [← Int.natCast_mul]
    omega
  have hneg : ¬ ((n : Int) < 0) := by omega
  have hns : ¬ (n * i.size = 0) := Nat.mul_ne_zero (by omega) (by omega)
  have hfo := run_firstCells_some (P := P) w.drew i.size sLen b sLen sCap olds hlo (by simpa using holds)
  simp [Builtin.append_, run_underlying ht, run_underlying htn, sizeOf, typeInfo, zeroValue, hi, hz, asInt, asIntOf, hw, hn, hneg, hns, h63', h48', h48i, Question.forced, hfo, newRow, grownCap]
theorem apzG_does {t tn ty e esz n len cap j i off sz1 : Nat} {k kn : IntKind} {z : List Value} {u : Value} (ht : P.underlying t = some (.slice e)) (htn : P.underlying tn = some (.int kn)) (hsz : esz + 1 = P.cellsOf e) (hz1 : (tiOf P e).zero = some z)
    (h : apzG (obAt H j) i off sz1 e esz len (tiOf P e).bytes (n : Nat) H K z) (hI : Inv β H w) (hu : Ok β (.s j i off len cap sz1) u) (hcp : 0 < cap) (hcl : cap < len + n) (h0 : 0 < n) :
    Does P β H w K (Builtin.append_ #[t, tn] ty #[u, .int k n]) := by
  obtain ⟨hl, h⟩ := h
  rw [Int.toNat_natCast] at h
  obtain ⟨ie, zv, hi, hzz, hzc, his, hib⟩ := zero_of hz1
  have hlz : zv.cells.size = esz + 1 := by have := lenIs_eq _ _ hl; simpa [← hzc] using this
  unfold appG at h
  split at h
  case h_2 => exact h.elim
  rename_i sz' N ln cp f hct
  obtain ⟨rfl, rfl, hiN, hol, hsrc, hn, hby, hmx, h⟩ := h
  have hby : (len + n) * P.bytesOf e ≤ 140737488355328 := hby
  simp only [Ok] at hu
  obtain ⟨A, rfl, hlc, hA⟩ := hu
  obtain ⟨g, b, hb, rfl⟩ := hA hcp
  obtain ⟨olds, o1, o2, _, o4⟩ := row_news hI hct hiN hol hb hsrc
  have h1 := grownCap_ge w (len + n) cap e
  have h2 := grownCap_le_maxLen w (len + n) cap e (by unfold maxLen; omega)
  unfold maxLen at h2
  have hnb : n * P.bytesOf e ≤ (len + n) * P.bytesOf e := Nat.mul_le_mul_right _ (by omega)
  have hrun := run_grow_zeros (P := P) w t tn ty e ie zv k kn ht htn hi hzz ⟨g, b + off * (esz + 1), none⟩ len cap olds (by rw [o1, his, ← hsz]) o2 n h0 (by rw [his, ← hsz]; omega) hcl (by omega) (by rw [hib]; omega) (by rw [hib]; exact growslice_fits hcl hby)
  have hzl : (Builtin.zeroCells zv.cells n).toList.length = n * (esz + 1) := by simp [zeroCells_size, hlz]
  have hF : ∀ k, k < n → (z.map SV.v).length = esz + 1 ∧ ∀ c x, (z.map SV.v)[c]? = some x → ∃ u, (Builtin.zeroCells zv.cells n).toList[k * (esz + 1) + c]? = some u ∧ Ok β x u := fun k hk => ⟨lenIs_eq _ _ hl, fun c x hx => by
    have hlen : (z.map SV.v).length = esz + 1 := lenIs_eq _ _ hl
    have hc : c < esz + 1 := by have := (List.getElem?_eq_some_iff.1 hx).1; omega
    have hlt : k * (esz + 1) + c < n * zv.cells.size := by
      have : (k + 1) * (esz + 1) ≤ n * (esz + 1) := Nat.mul_le_mul_right _ (by omega)
      rw [Nat.succ_mul] at this
      rw [hlz]
      omega
    have hmod : (k * (esz + 1) + c) % (esz + 1) = c := by rw [Nat.add_comm, Nat.add_mul_mod_self_right]; exact Nat.mod_eq_of_lt hc
    rw [Array.getElem?_toList, zeroCells_get _ _ _ hlt (by omega)]
    simp only [List.getElem?_map] at hx
    obtain ⟨y, hy, rfl⟩ := Option.map_eq_some_iff.1 hx
    refine ⟨_, rfl, ?_⟩
    simp only [Ok]
    simp only [hlz, hmod]
    rw [← hzc] at hy
    rw [Array.getElem?_toList] at hy
    exact (Array.getElem?_eq_some_iff.1 hy).2⟩
  exact app_new (len := len) (olds := olds) (news := (Builtin.zeroCells zv.cells n).toList) (z := zv) hI (h _ h1) (by rw [hrun]) rfl hlz o1 hzl h1 (by omega) (appF_elems hF hn o1 fun k hk => ⟨(lenP_eq (hsrc k hk).1).1, o4 k hk⟩)
theorem app3_does {t tn ty : TypeId} {x : SV} {u : Value} {k : IntKind} {n : Int} (h : app3 P (tdOf P t) (tdOf P tn) x n H K) (hI : Inv β H w) (hu : Ok β x u) : Does P β H w K (Builtin.append_ #[t, tn] ty #[u, .int k n]) := by
  unfold app3 at h
  split at h
  case h_3 => exact h.elim
  case h_2 =>
    rename_i e esz kn j i off len cap sz1 htd htn
    obtain ⟨ht, hsz⟩ := td_slice htd
    obtain ⟨hcp, hcl, h0, h⟩ := h
    obtain ⟨z, hz, h⟩ := optK_iff h
    obtain ⟨m, rfl⟩ : ∃ m : Nat, n = m := ⟨n.toNat, by omega⟩
    exact apzG_does ht (td_int htn) hsz hz h hI hu hcp (by omega) (by omega)
  rename_i e esz kn htd htn
  have e1 := ok_v hu
  subst e1
  obtain ⟨ht, hsz⟩ := td_slice htd
  obtain ⟨z, hz, hl, h0, hn, hby, h⟩ := optK_iff h
  obtain ⟨ie, zv, hi, hzz, hzc, his, hib⟩ := zero_of hz
  have hlz : z.length = esz + 1 := by have := lenIs_eq _ _ hl; simpa using this
  have hs1 : ie.size = esz + 1 := his.trans hsz.symm
  obtain ⟨m, rfl⟩ : ∃ m : Nat, n = m := ⟨n.toNat, by omega⟩
  rw [Int.toNat_natCast] at h
  have hby2 : m * ie.bytes ≤ 281474976710656 := by
    have : ((m * P.bytesOf e : Nat) : Int) ≤ 281474976710656 := by rw [Int.natCast_mul]; exact hby
    rw [hib]
    exact Int.ofNat_le.1 this
  have hrun := Lib.run_append_nil_zeros (P := P) w t tn ty e ie zv k kn ht (td_int htn) hi hzz m (by omega) (by omega) hn hby2
  have c1 := grownCap_ge w m 0 e
  have c2 := grownCap_le_maxLen w m 0 e (by unfold maxLen; omega)
  unfold maxLen at c2
  subst hzc
  have hzs : zv.cells.size = esz + 1 := by simpa using hlz
  refine newRow1_does (h _ c1) hI hrun ((Below.refl _ _).drew.alloc (Nat.le_refl _) _) (Nat.le_refl _) (heap_alloc_new w.drew _) ?_ c1 c2 fun q hq => ⟨by simpa using hlz, fun c x hx => ?_⟩
  · simp only [Array.size_append, zeroCells_size, hzs, ← Nat.add_mul]
    congr 1
    omega
  · have hc : c < esz + 1 := by have := (List.getElem?_eq_some_iff.1 hx).1; simpa [hzs] using this
    have hlt : q * (esz + 1) + c < m * (esz + 1) := by
      have : (q + 1) * (esz + 1) ≤ m * (esz + 1) := Nat.mul_le_mul_right _ (by omega)
      rw [Nat.succ_mul] at this
      omega
    have hmod : (q * (esz + 1) + c) % (esz + 1) = c := by rw [Nat.add_comm, Nat.add_mul_mod_self_right]; exact Nat.mod_eq_of_lt hc
    simp only [List.getElem?_map] at hx
    have hget : zv.cells.toList[c]? = some (zv.cells.toList[c]'(by simpa [hzs] using hc)) := List.getElem?_eq_getElem _
    rw [hget] at hx
    simp at hx
    subst hx
    refine ⟨zv.cells[c]'(by omega), ?_, by simp only [Ok]⟩
    rw [Array.getElem?_append_left (by rw [zeroCells_size, hzs]; exact hlt), zeroCells_get _ _ _ (by rw [hzs]; exact hlt) (by omega)]
    simp only [hzs, hmod]
end
/- ===== a byte as a string ===== -/
def byL (K : SV → Prop) (l : List SV) : Prop :=
  match l with
  | [.v (.int .u8 n)] => K (.v (.string (strOfNums [n])))
  | _ => False
def cvB2 (td : TD) (o : Ob) (i off : Nat) (K : SV → Prop) : Prop :=
  match td with
  | .int .u8 => rdRow o i off 0 1 1 (byL K)
  | _ => False
def cvB (P : Program) (e : Nat) (o : Ob) (i off len sz : Nat) (K : SV → Prop) : Prop :=
  match len with
  | 1 => sz = 1 ∧ cvB2 (tiOf P e).td o i off K
  | _ => False
def cvS (P : Program) (ts td : TD) (o : Ob) (i off len sz : Nat) (K : SV → Prop) : Prop :=
  match ts, td with
  | .slice e _, .str => cvB P e o i off len sz K
  | _, _ => False
def cvK (P : Program) (nw : Bool) (ts td : TD) (x : SV) (H : List Ob) (K : SV → Prop) : Prop :=
  match x with
  | .v y => convK nw ts td (.v y) K
  | .s j i off len _ sz => cvS P ts td (obAt H j) i off len sz K
  | _ => False
theorem cvS_gives {P : Program} {β : Bs} {w : World} {H : List Ob} {s d : TypeId} {j i off len cap sz : Nat} {u : Value} {K : SV → Prop} (h : cvS P (tdOf P s) (tdOf P d) (obAt H j) i off len sz K) (hI : Inv β H w) (hu : Ok β (.s j i off len cap sz) u) :
    Gives P β (fun w' => Below w.heap.size w w') K (convert s d u) := by
  unfold cvS at h
  split at h
  case h_2 => exact h.elim
  rename_i e esz htd hdd
  unfold cvB at h
  split at h
  case h_2 => exact h.elim
  obtain ⟨rfl, h⟩ := h
  unfold cvB2 at h
  split at h
  case h_2 => exact h.elim
  rename_i hed
  simp only [Ok] at hu
  obtain ⟨A, rfl, h1, h2⟩ := hu
  obtain ⟨g, b, h3, rfl⟩ := h2 (by omega)
  obtain ⟨l, g', b', hK, e1, hL⟩ := read_lies (x := .e j i off 0 1) (n := 1) (u := .pointer (some ⟨g, b + (off * 1 + 0), none⟩)) h hI (by simp only [Ok]; exact ⟨g, b, h3, rfl⟩)
  obtain ⟨rfl, rfl⟩ : g = g' ∧ b + (off * 1 + 0) = b' := by simpa using e1
  unfold byL at hK
  split at hK
  case h_2 => exact hK.elim
  rename_i n
  obtain ⟨v, q1, q2, q3⟩ := hL 0 _ rfl
  have e2 := ok_v q2
  subst e2
  refine ⟨_, _, hK, by simp only [Ok]; rfl, fun w' hw' => ?_⟩
  refine run_convert_bytes_arg w' s e (td_slice htd).1 (td_int hed) g _ 1 cap [n] rfl (fun k hk => ?_) d (td_str hdd)
  obtain rfl : k = 0 := by omega
  have := (hw'.cell (p := ⟨g, b + (off * 1 + 0) + 0, none⟩) q3).trans q1
  simpa using this
/- ===== maps ===== -/
section
open MapKept
/-- Keys that are the same. -/
def kq : Value → Value → Bool
  | .int _ a, .int _ b => a == b
  | .string a, .string b => a == b
  | .bool a, .bool b => a == b
  | _, _ => false
theorem kq_iff {d : TypeDesc} {a b : Value} (ha : IsKey d a) (hb : IsKey d b) : kq a b = true ↔ a = b := by
  cases d <;> cases a <;> cases b <;> simp_all [IsKey, kq, bytes_beq]
def noG : Value → Option Value := fun _ => none
def upG (get : Value → Option Value) (key u : Value) : Value → Option Value := fun k => bif kq k key then some u else get k
def upN (n : Nat) : Option Value → Nat
  | some _ => n
  | none => n + 1
def keyK (d : TypeDesc) (x : SV) (K : Value → Prop) : Prop :=
  match d, x with
  | .int q, .v (.int q' n) => q' = q ∧ K (.int q' n)
  | .string, .v (.string s) => K (.string s)
  | .bool, .v (.bool b) => K (.bool b)
  | _, _ => False
def mpD (td : TD) (d : TypeDesc) (X : Prop) : Prop :=
  match td, d with
  | .int q, .int q' => q = q' ∧ X
  | .str, .string => X
  | .bool, .bool => X
  | _, _ => False
theorem keyK_iff {β : Bs} {d : TypeDesc} {x : SV} {u : Value} {K : Value → Prop} (h : keyK d x K) (hu : Ok β x u) : IsKey d u ∧ K u := by
  unfold keyK at h
  split at h
  · have e := ok_v hu; subst e; exact ⟨h.1, h.2⟩
  · have e := ok_v hu; subst e; exact ⟨trivial, h⟩
  · have e := ok_v hu; subst e; exact ⟨trivial, h⟩
  · exact h.elim
theorem mpD_iff {P : Program} {t : TypeId} {d : TypeDesc} {X : Prop} (h : mpD (tdOf P t) d X) : P.underlying t = some d ∧ X := by
  unfold mpD at h
  split at h
  · rename_i q q' htd
    obtain ⟨rfl, h⟩ := h
    exact ⟨td_int htd, h⟩
  · rename_i htd
    exact ⟨td_str htd, h⟩
  · rename_i htd
    refine ⟨?_, h⟩
    unfold tdOf at htd
    split at htd <;> simp_all
  · exact h.elim
theorem mapIs_find {d : TypeDesc} {n : Nat} {get : Value → Option Value} {es : Array MapEntry} {k : Value} (h : MapIs d n get es) (hk : IsKey d k) :
    (Instr.findNow d k es.toList 0 = some none ∧ get k = none ∧ ∀ e ∈ es.toList, e.key ≠ k) ∨ ∃ j e, Instr.findNow d k es.toList 0 = some (some (j, e.val)) ∧ es.toList[j]? = some e ∧ e.key = k ∧ get k = some e.val := by
  rcases findNow_spec hk es.toList 0 h.key with ⟨h1, h2⟩ | ⟨j, e0, h1, h2, h3⟩
  · refine .inl ⟨h1, ?_, h2⟩
    cases hg : get k with
    | none => rfl
    | some x =>
      obtain ⟨e, he, e1, _⟩ := (h.get k x hk).1 hg
      exact absurd e1 (h2 e he)
  · exact .inr ⟨j, e0, by simpa using h1, h2, h3, (h.get k _ hk).2 ⟨e0, List.mem_of_getElem? h2, h3, rfl⟩⟩
theorem run_lookup_is {P : Program} {w : World} {t kt e : TypeId} {d : TypeDesc} {g n : Nat} {get : Value → Option Value} {es : Array MapEntry} {clk : Nat} {k z : Value} (ht : P.underlying t = some (.map kt e)) (hd : P.underlying kt = some d)
    (hz : (zeroValue e).run P w = .ok z w) (hg : w.heap[g]? = some (.map es clk)) (hm : MapIs d n get es) (hk : IsKey d k) (ok : Bool) :
    (Instr.lookup t (.map (some g)) k ok).run P w = .ok (if ok then .tuple #[(get k).getD z, .bool (get k).isSome] else (get k).getD z) w := by
  rcases mapIs_find hm hk with ⟨h1, h2, _⟩ | ⟨j, e0, h1, _, _, h2⟩
  · rw [h2]
    simp [Instr.lookup, run_underlying ht, MapKept.run_getObj_map hg, run_checkKey hd hk _ 9999, run_findKey hd h1, hz, Result.andThen]
  · rw [h2]
    simp [Instr.lookup, run_underlying ht, MapKept.run_getObj_map hg, run_checkKey hd hk _ 9999, run_findKey hd h1, Result.andThen]
theorem mapIs_new (d : TypeDesc) : MapIs d 0 noG #[] := ⟨rfl, fun e he => by simp at he, by simp, fun k x _ => by simp [noG]⟩
theorem mapIs_up {P : Program} {w : World} {t kt e : TypeId} {d : TypeDesc} {g n : Nat} {get : Value → Option Value} {es : Array MapEntry} {clk : Nat} {k u : Value} (ht : P.underlying t = some (.map kt e)) (hd : P.underlying kt = some d)
    (hg : w.heap[g]? = some (.map es clk)) (hm : MapIs d n get es) (hk : IsKey d k) :
    ∃ es' clk', (Instr.mapUpdate t (.map (some g)) k u).run P w = .ok () { w with heap := w.heap.setIfInBounds g (.map es' clk') } ∧ MapIs d (upN n (get k)) (upG get k u) es' := by
  rcases mapIs_find hm hk with ⟨h1, h2, h3⟩ | ⟨j, e0, h1, h2, h3, h4⟩
  · refine ⟨es.push ⟨k, u, clk⟩, clk + 1, ?_, ?_, fun x hx => ?_, ?_, fun k' x hk' => ?_⟩
    · simp [Instr.mapUpdate, run_underlying ht, MapKept.run_getObj_map hg, run_checkKey hd hk _ 9999, run_findKey hd h1, MapKept.run_setObj_map _ hg, Result.andThen]
    · rw [h2]; simp [upN, hm.size]
    · simp only [Array.toList_push, List.mem_append, List.mem_singleton] at hx
      rcases hx with hx | rfl
      · exact hm.key x hx
      · exact hk
    · simp only [Array.toList_push, List.map_append, List.map_cons, List.map_nil]
      rw [List.nodup_append]
      refine ⟨hm.nodup, by simp, fun a ha b hb => ?_⟩
      simp at hb
      subst hb
      obtain ⟨y, hy, rfl⟩ := List.mem_map.1 ha
      exact h3 y hy
    · simp only [Array.toList_push, List.mem_append, List.mem_singleton]
      unfold upG
      cases hq : kq k' k with
      | true =>
        have e := (kq_iff hk' hk).1 hq
        subst e
        simp only [cond_true, Option.some.injEq]
        constructor
        · rintro rfl; exact ⟨_, .inr rfl, rfl, rfl⟩
        · rintro ⟨y, hy | rfl, e1, e2⟩
          · exact absurd e1 (h3 y hy)
          · exact e2
      | false =>
        have hne : k' ≠ k := fun e => by rw [(kq_iff hk' hk).2 e] at hq; cases hq
        simp only [cond_false]
        rw [hm.get k' x hk']
        constructor
        · rintro ⟨y, hy, e1⟩; exact ⟨y, .inl hy, e1⟩
        · rintro ⟨y, hy | rfl, e1, e2⟩
          · exact ⟨y, hy, e1, e2⟩
          · exact absurd e1.symm hne
  · have hj : es[j]? = some e0 := by simpa using h2
    have hjl : j < es.toList.length := (List.getElem?_eq_some_iff.1 h2).1
    have hkeyf : ∀ e', es[j]? = some e' → ({ e' with key := k, val := u } : MapEntry).key = e'.key := fun e' he' => by rw [hj] at he'; cases he'; exact h3.symm
    have hlist : (es.modify j (fun e' => { e' with key := k, val := u })).toList = es.toList.set j { e0 with key := k, val := u } := by rw [Array.toList_modify, ChangeMaps.modify_eq_set _ _ _ _ h2]
    refine ⟨es.modify j (fun e' => { e' with key := k, val := u }), clk, ?_, ?_, isKey_modify hm.key _ _ hkeyf, ?_, fun k' x hk' => ?_⟩
    · simp [Instr.mapUpdate, run_underlying ht, MapKept.run_getObj_map hg, run_checkKey hd hk _ 9999, run_findKey hd h1, hj, h3, run_keyThatStays hk, MapKept.run_setObj_map _ hg, Result.andThen]
    · rw [h4]; simp [upN, hm.size]
    · rw [modify_keys _ _ hkeyf]; exact hm.nodup
    · have others : ∀ i y, es.toList[i]? = some y → y.key = k → i = j := fun i y hi hy => by
        have hnd := hm.nodup
        have hil := (List.getElem?_eq_some_iff.1 hi).1
        have hp := List.pairwise_iff_getElem.1 hnd
        have hi' : es.toList[i] = y := by have := List.getElem?_eq_some_iff.1 hi; exact this.2
        have hj' : es.toList[j] = e0 := by have := List.getElem?_eq_some_iff.1 h2; exact this.2
        rcases Nat.lt_trichotomy i j with hlt | he | hlt
        · exact (hp i j (by simpa using hil) (by simpa using hjl) hlt (by rw [List.getElem_map, List.getElem_map, hi', hj', hy, h3])).elim
        · exact he
        · exact (hp j i (by simpa using hjl) (by simpa using hil) hlt (by rw [List.getElem_map, List.getElem_map, hi', hj', hy, h3])).elim
      rw [hlist]
      unfold upG
      cases hq : kq k' k with
      | true =>
        have e := (kq_iff hk' hk).1 hq
        subst e
        simp only [cond_true, Option.some.injEq]
        constructor
        · rintro rfl; exact ⟨_, List.mem_set hjl _, rfl, rfl⟩
        · rintro ⟨y, hy, e1, e2⟩
          rcases List.mem_or_eq_of_mem_set hy with hy' | rfl
          · obtain ⟨i, hi⟩ := List.mem_iff_getElem?.1 hy
            by_cases hij : i = j
            · subst hij
              rw [List.getElem?_set_self hjl] at hi
              rw [← Option.some.inj hi] at e2
              exact e2
            · rw [List.getElem?_set_ne (Ne.symm hij)] at hi
              exact absurd (others i y hi e1) hij
          · exact e2
      | false =>
        have hne : k' ≠ k := fun e => by rw [(kq_iff hk' hk).2 e] at hq; cases hq
        simp only [cond_false]
        rw [hm.get k' x hk']
        constructor
        · rintro ⟨y, hy, e1, e2⟩
          obtain ⟨i, hi⟩ := List.mem_iff_getElem?.1 hy
          have hij : j ≠ i := fun e => by
            subst e
            rw [h2] at hi
            have := Option.some.inj hi
            subst this
            exact hne (e1.symm.trans h3)
          exact ⟨y, List.mem_of_getElem? (i := i) (by rw [List.getElem?_set_ne hij]; exact hi), e1, e2⟩
        · rintro ⟨y, hy, e1, e2⟩
          rcases List.mem_or_eq_of_mem_set hy with hy | rfl
          · exact ⟨y, hy, e1, e2⟩
          · exact absurd e1.symm hne
def zOf (P : Program) (e : TypeId) : Option Value := (P.info? e).bind fun i => i.zero
theorem zOf_run {P : Program} {e : TypeId} {z : Value} (h : zOf P e = some z) (w : World) : (zeroValue e).run P w = .ok z w := by
  unfold zOf at h
  cases hi : P.info? e with
  | none => rw [hi] at h; cases h
  | some i =>
    rw [hi] at h
    simp only [Option.bind_some] at h
    simp [zeroValue, typeInfo, program, hi, h, bind, Sem.bind, Sem.run, pure]
def mm3 (t : TypeId) (d : TypeDesc) (H : List Ob) (K : SV → List Ob → Prop) : Prop := K (.m H.length) (H ++ [⟨t, false, .mp d 0 noG⟩])
def makeMapK (P : Program) (t : TypeId) (td : TD) (r : Option SV) (H : List Ob) (K : SV → List Ob → Prop) : Prop :=
  match td, r with
  | .map k _, none => match (tiOf P k).td with
    | .int q => mm3 t (.int q) H K
    | .str => mm3 t .string H K
    | .bool => mm3 t .bool H K
    | _ => False
  | _, _ => False
def lk3 (get : Value → Option Value) (z : Value) (ok : Bool) (K : SV → Prop) (k : Value) : Prop :=
  match ok with
  | true => K (.t [.v ((get k).getD z), .v (.bool (get k).isSome)])
  | false => K (.v ((get k).getD z))
def lk2b (o : Ob) (ktd : TD) (z : Value) (k : SV) (ok : Bool) (K : SV → Prop) : Prop :=
  match o.ct with
  | .mp d _ get => mpD ktd d (keyK d k (lk3 get z ok K))
  | _ => False
def lk2 (o : Ob) (ktd : TD) (z : Option Value) (k : SV) (ok : Bool) (K : SV → Prop) : Prop :=
  match z with
  | some z => lk2b o ktd z k ok K
  | none => False
def lookK (P : Program) (td : TD) (x k : SV) (ok : Bool) (H : List Ob) (K : SV → Prop) : Prop :=
  match td, x with
  | .map kt e, .m j => lk2 (obAt H j) (tiOf P kt).td (zOf P e) k ok K
  | _, _ => False
def mu3 (ty : TypeId) (j : Nat) (d : TypeDesc) (n : Nat) (get : Value → Option Value) (u : Value) (H : List Ob) (K : SV → List Ob → Prop) (k : Value) : Prop := K .und (H.set j ⟨ty, false, .mp d (upN n (get k)) (upG get k u)⟩)
def mu2b (o : Ob) (j : Nat) (ktd : TD) (k : SV) (u : Value) (H : List Ob) (K : SV → List Ob → Prop) : Prop :=
  match o.ct with
  | .mp d n get => o.ro = false ∧ mpD ktd d (keyK d k (mu3 o.ty j d n get u H K))
  | _ => False
def mu2 (o : Ob) (j : Nat) (ktd : TD) (k v : SV) (H : List Ob) (K : SV → List Ob → Prop) : Prop :=
  match v with
  | .v u => mu2b o j ktd k u H K
  | _ => False
def mupK (P : Program) (td : TD) (x k v : SV) (H : List Ob) (K : SV → List Ob → Prop) : Prop :=
  match td, x with
  | .map kt _, .m j => mu2 (obAt H j) j (tiOf P kt).td k v H K
  | _, _ => False
theorem makeMapK_does {P : Program} {β : Bs} {H : List Ob} {w : World} {K : SV → List Ob → Prop} {t : TypeId} (h : makeMapK P t (tdOf P t) none H K) (hI : Inv β H w) : Does P β H w K (Instr.makeMap t none) := by
  obtain ⟨d, h⟩ : ∃ d, mm3 t d H K := by
    unfold makeMapK at h
    split at h
    · split at h
      · exact ⟨_, h⟩
      · exact ⟨_, h⟩
      · exact ⟨_, h⟩
      · exact h.elim
    · exact h.elim
  have hb : Below w.heap.size w (w.alloc (.map #[] 0)) := (Below.refl _ _).alloc (Nat.le_refl _) _
  have hob : ObOk (push β H.length (some (w.heap.size, 0))) (w.alloc (.map #[] 0)) H.length ⟨t, false, .mp d 0 noG⟩ := ⟨w.heap.size, #[], 0, push_new _ _ _, heap_alloc_new w _, mapIs_new d⟩
  obtain ⟨h1, h2, h3⟩ := inv_new hI hb (some (w.heap.size, 0)) (fun g b e => by simp at e; omega) hob ⟨fun i hi => hi, fun h => Nat.lt_irrefl _ h⟩
  refine ⟨.m H.length, .map (some w.heap.size), _, _, _, h, rfl, ?_, h1, h2, h3⟩
  simp only [Ok]
  exact ⟨w.heap.size, 0, push_new _ _ _, rfl⟩
theorem lookK_gives {P : Program} {β : Bs} {w : World} {H : List Ob} {t : TypeId} {x k : SV} {u uk : Value} {ok : Bool} {K : SV → Prop} (h : lookK P (tdOf P t) x k ok H K) (hI : Inv β H w) (hu : Ok β x u) (huk : Ok β k uk) :
    Gives P β (fun w' => Below w.heap.size w w') K (Instr.lookup t u uk ok) := by
  unfold lookK at h
  split at h
  · rename_i kt e j htd
    have ht := td_map htd
    unfold lk2 at h
    split at h
    case h_2 => exact h.elim
    rename_i z hz
    unfold lk2b at h
    split at h
    · rename_i d n get hct
      obtain ⟨hd, h⟩ := mpD_iff h
      obtain ⟨hk, h⟩ := keyK_iff h huk
      have hg := obAt_get (H := H) (j := j) (by rw [hct]; intro e; cases e)
      have ho := hI.ob j _ hg
      unfold ObOk at ho
      rw [hct] at ho
      obtain ⟨g, es, clk, h1, h2, h3⟩ := ho
      simp only [Ok] at hu
      obtain ⟨g', b, h4, rfl⟩ := hu
      rw [h1] at h4
      obtain ⟨rfl, rfl⟩ : g = g' ∧ 0 = b := by simpa using h4
      have hlt : g < w.heap.size := by
        rcases Nat.lt_or_ge g w.heap.size with h | h
        · exact h
        · rw [Array.getElem?_eq_none h] at h2; cases h2
      have hzz := zOf_run hz
      cases ok with
      | true => exact ⟨_, _, h, by simp [Ok, OkL], fun w' hw' => run_lookup_is ht hd (hzz w') ((hw'.block g hlt).trans h2) h3 hk true⟩
      | false => exact ⟨.v ((get uk).getD z), (get uk).getD z, h, by simp only [Ok], fun w' hw' => by simpa using run_lookup_is ht hd (hzz w') ((hw'.block g hlt).trans h2) h3 hk false⟩
    · exact h.elim
  · exact h.elim
theorem mupK_does {P : Program} {β : Bs} {H : List Ob} {w : World} {K : SV → List Ob → Prop} {t : TypeId} {x k v : SV} {u uk uv : Value} (h : mupK P (tdOf P t) x k v H K) (hI : Inv β H w) (hu : Ok β x u) (huk : Ok β k uk) (huv : Ok β v uv) :
    DoesU P β H w K (Instr.mapUpdate t u uk uv) := by
  unfold mupK at h
  split at h
  · rename_i kt e j htd
    have ht := td_map htd
    unfold mu2 at h
    split at h
    case h_2 => exact h.elim
    rename_i u1
    unfold mu2b at h
    split at h
    · rename_i d n get hct
      obtain ⟨hro, h⟩ := h
      obtain ⟨hd, h⟩ := mpD_iff h
      obtain ⟨hk, h⟩ := keyK_iff h huk
      have e1 := ok_v huv
      subst e1
      have hg := obAt_get (H := H) (j := j) (by rw [hct]; intro e; cases e)
      have ho := hI.ob j _ hg
      unfold ObOk at ho
      rw [hct] at ho
      obtain ⟨g, es, clk, h1, h2, h3⟩ := ho
      simp only [Ok] at hu
      obtain ⟨g', b, h4, rfl⟩ := hu
      rw [h1] at h4
      obtain ⟨rfl, rfl⟩ : g = g' ∧ 0 = b := by simpa using h4
      have hlt : g < w.heap.size := by
        rcases Nat.lt_or_ge g w.heap.size with h | h
        · exact h
        · rw [Array.getElem?_eq_none h] at h2; cases h2
      obtain ⟨es', clk', hrun, hm⟩ := mapIs_up (u := uv) ht hd h2 h3 hk
      have hown : (obAt H j).own 0 := by unfold Ob.own; rw [hct]; exact ⟨rfl, hro⟩
      have hs := inv_set (ob' := ⟨(obAt H j).ty, false, .mp d (upN n (get uk)) (upG get uk uv)⟩) hI hg hown h1 (w' := { w with heap := w.heap.setIfInBounds g (.map es' clk') }) rfl rfl rfl (by simp) (fun k hk => by simp [Array.getElem?_setIfInBounds, Ne.symm hk])
        ⟨g, es', clk', h1, by simp [hlt], hm⟩ (fun i hi => by unfold Ob.own at hi ⊢; rw [hct]; exact ⟨hi.1, hro⟩) (fun i hi => by unfold Ob.mem at hi ⊢; rw [hct]; exact hi) (fun i hi => by unfold Ob.over at hi ⊢; rw [hct]; exact hi)
      exact ⟨β, _, _, h, hrun, hs.1, BLe.refl β, hs.2⟩
    · exact h.elim
  · exact h.elim
/-- len of a map. -/
def lenM2 (o : Ob) (K : SV → Prop) : Prop :=
  match o.ct with
  | .mp _ n _ => K (.v (.int .i64 n))
  | _ => False
theorem lenM_gives {P : Program} {β : Bs} {w : World} {H : List Ob} {t : TypeId} {j : Nat} {u : Value} {K : SV → Prop} {kt e : Nat} (htd : tdOf P t = .map kt e) (h : lenM2 (obAt H j) K) (hI : Inv β H w) (hu : Ok β (.m j) u) (ts : Array TypeId) (ty : TypeId) (hts : ts[0]? = some t) :
    Gives P β (fun w' => Below w.heap.size w w') K (Builtin.len_ ts ty #[u]) := by
  unfold lenM2 at h
  split at h
  · rename_i d n get hct
    have hg := obAt_get (H := H) (j := j) (by rw [hct]; intro e; cases e)
    have ho := hI.ob j _ hg
    unfold ObOk at ho
    rw [hct] at ho
    obtain ⟨g, es, clk, h1, h2, h3⟩ := ho
    simp only [Ok] at hu
    obtain ⟨g', b, h4, rfl⟩ := hu
    rw [h1] at h4
    obtain ⟨rfl, rfl⟩ : g = g' ∧ 0 = b := by simpa using h4
    have hlt : g < w.heap.size := by
      rcases Nat.lt_or_ge g w.heap.size with h | h
      · exact h
      · rw [Array.getElem?_eq_none h] at h2; cases h2
    refine ⟨_, _, h, by simp only [Ok]; rfl, fun w' hw' => ?_⟩
    unfold Builtin.len_
    simp [hts, run_underlying (td_map htd), MapKept.run_getObj_map ((hw'.block g hlt).trans h2), goInt, h3.size, Result.andThen]
  · exact h.elim
end
theorem obAt_last : ∀ {l : List Ob} {o : Ob} {n : Nat}, l.length = n → obAt (l ++ [o]) n = o
  | [], _, _, h => by subst h; rfl
  | _ :: l, o, n, h => by
    subst h
    exact obAt_last (l := l) rfl
section
variable {P : Program} {β : Bs} {H : List Ob} {w : World} {K : SV → List Ob → Prop}
theorem appK_does {ax : Bool} {t ty : TypeId} {s x : SV} {u v : Value} (h : appK ax P (tdOf P t) s x H K) (hI : Inv β H w) (hu : Ok β s u) (hv : Ok β x v) : Does P β H w K (Builtin.append_ #[t, t] ty #[u, v]) := by
  unfold appK at h
  split at h
  · rename_i e esz j i o n capx sz htd
    obtain ⟨rfl, hz, h⟩ := h
    obtain ⟨ht, hsz⟩ := td_slice htd
    unfold appSrc at h
    split at h
    · rename_i sz' N len cap f hct
      obtain ⟨rfl, hi, hon, hsrc, h⟩ := h
      have hsrc := srcOk_all hsrc
      simp only [Ok] at hv
      obtain ⟨B, rfl, hnc, hB⟩ := hv
      have hnews : 0 < n → ∃ a, ∃ news : List Value, B = some a ∧ news.length = n * (esz + 1) ∧ (∀ (q : Nat) u, news[q]? = some u → w.cell? (a.add q) = some u) ∧ (∀ u ∈ news, u.oneCell' = true) ∧ ∀ k, k < n → ((fun k => f i (o + k)) k).length = esz + 1 ∧ ∀ c x, ((fun k => f i (o + k)) k)[c]? = some x → ∃ u, news[k * (esz + 1) + c]? = some u ∧ Ok β x u := by
        intro hn
        obtain ⟨g, b, hb, rfl⟩ := hB (by omega)
        obtain ⟨news, n1, n2, n3, n4⟩ := row_news hI hct hi hon hb hsrc
        exact ⟨_, news, rfl, n1, n2, n3, fun k hk => ⟨(lenP_eq (hsrc k hk).1).1, n4 k hk⟩⟩
      unfold appBase at h
      split at h
      · have e1 := ok_v hu
        subst e1
        refine appA_does ht hsz hz h hI fun hn => ?_
        obtain ⟨a, news, n0, n1, n2, _, n4⟩ := hnews hn
        exact ⟨a, news, n0, n1, n2, n4⟩
      · rename_i j2 i2 o2 len2 cap2 sz2
        rcases Nat.eq_zero_or_pos n with rfl | hn0
        · replace h : K (.s j2 i2 o2 len2 cap2 sz2) H := h
          have hu2 := hu
          simp only [Ok] at hu
          obtain ⟨A, rfl, hle, _⟩ := hu
          obtain ⟨z, hz1, hz2⟩ := hz
          obtain ⟨ie, zv, hi, hzz, hzc, his, hib⟩ := zero_of hz1
          have hrun : (Builtin.append_ #[t, t] ty #[.slice A len2 cap2, .slice B 0 capx]).run P w = .ok (.slice A len2 cap2) w := by
            cases A <;> cases B <;> simp [Builtin.append_, run_underlying ht, sizeOf, typeInfo, hi, Builtin.lenOf, Builtin.firstCells, loadCells, loadCellsFrom, storeCells, hle]
          exact ⟨_, _, β, _, _, h, hrun, hu2, hI, BLe.refl β, fun n0 => Fr.refl n0 β H w⟩
        · replace h : (len2 = 0 ∧ cap2 = 0 ∧ appA e (esz + 1) n (tiOf P e).bytes (fun k => f i (o + k)) H K) ∨ ((i2 = 0 ∧ o2 = 0 ∧ sz2 = esz + 1 ∧ appB (obAt H j2) j2 e (esz + 1) len2 cap2 n (tiOf P e).bytes (fun k => f i (o + k)) H K) ∨ appE ax (appM (obAt H j2) j2 i2 o2 sz2 e (esz + 1) len2 cap2 n (tiOf P e).bytes (fun k => f i (o + k)) H K) (appU (obAt H j2) j2 i2 o2 sz2 e (esz + 1) len2 cap2 n (tiOf P e).bytes (fun k => f i (o + k)) H K)) := by
            cases n with
            | zero => omega
            | succ n => exact h
          replace h := h.imp_right (Or.imp_right appE_or)
          rcases h with ⟨rfl, rfl, h⟩ | ⟨rfl, rfl, rfl, h⟩ | h | h | h
          · simp only [Ok] at hu
            obtain ⟨A, rfl, _, _⟩ := hu
            refine appA_does ht hsz hz h hI fun hn => ?_
            obtain ⟨a, news, n0, n1, n2, _, n4⟩ := hnews hn
            exact ⟨a, news, n0, n1, n2, n4⟩
          · have hn : 0 < n := by
              unfold appB at h
              split at h
              · exact h.2.2.2.2.2.1
              · exact h.elim
            obtain ⟨a, news, rfl, n1, n2, n3, n4⟩ := hnews hn
            exact appB_does ht hsz hz h hI hu n1 n2 n3 n4
          · unfold appM at h
            split at h
            · rename_i sz3 N3 ln3 cp3 f3 hct3
              obtain ⟨rfl, rfl, hro3, hty3, rfl, hi3, hln3, hcp3, hn3, hb1, hb2, h⟩ := h
              obtain ⟨t1, t2, t3⟩ := take_out hI hct3 hro3 hi3
              obtain ⟨a, news, rfl, n1, n2, n3, n4⟩ := hnews hn3
              refine does_pre t2 t3 (appB_does (j := H.length) (len := len2) (cap := cap2) (n := n) (new := fun k => f i (o + k)) (news := news) ht hsz hz ?_ t1 ?_ n1 n2 n3 fun k hk => ⟨(n4 k hk).1, fun c x hx => let ⟨u, u1, u2⟩ := (n4 k hk).2 c x hx; ⟨u, u1, Ok.mono t2 _ _ u2⟩⟩)
              · have e1 : obAt (H.set j2 (holeO (obAt H j2) i2) ++ [⟨(obAt H j2).ty, false, .row (esz + 1) 1 (fun _ => ln3 i2) (fun _ => cp3 i2) (fun _ => f3 i2)⟩]) H.length = ⟨(obAt H j2).ty, false, .row (esz + 1) 1 (fun _ => ln3 i2) (fun _ => cp3 i2) (fun _ => f3 i2)⟩ := obAt_last (by simp)
                have e2 : (H.set j2 (holeO (obAt H j2) i2) ++ [(⟨(obAt H j2).ty, false, .row (esz + 1) 1 (fun _ => ln3 i2) (fun _ => cp3 i2) (fun _ => f3 i2)⟩ : Ob)]).set H.length deadOb = H.set j2 (holeO (obAt H j2) i2) ++ [deadOb] := by
                  rw [List.set_append_right _ _ (by simp)]; simp
                unfold appB
                rw [e1]
                simp only
                rw [e2]
                exact ⟨trivial, hty3, trivial, hln3, hcp3, hn3, hb1, hb2, h⟩
              · simp only [Ok] at hu ⊢
                obtain ⟨A, q1, q2, q3⟩ := hu
                refine ⟨A, q1, q2, fun hc => ?_⟩
                obtain ⟨g, b, q4, q5⟩ := q3 hc
                exact ⟨g, b, by rw [push_new]; exact q4, q5⟩
            · exact h.elim
          · obtain ⟨a, news, rfl, n1, n2, n3, n4⟩ := hnews hn0
            exact appX_does ht hsz hz h hI hu n1 n2 n3 n4
          · obtain ⟨a, news, rfl, n1, n2, n3, n4⟩ := hnews hn0
            exact appY_does ht hsz hz h hI hu n1 n2 n3 n4
      · exact h.elim
    · exact h.elim
  · exact h.elim
end
/- ===== operations ===== -/
/-- An operation that leaves the memory alone, and its value. -/
def lenM (td : TD) (j : Nat) (H : List Ob) (K : SV → Prop) : Prop :=
  match td with
  | .map _ _ => lenM2 (obAt H j) K
  | _ => False
def len2 (td : TD) (x : SV) (H : List Ob) (K : SV → Prop) : Prop :=
  match x with
  | .m j => lenM td j H K
  | .v x => lenK td (.v x) K
  | .s j i o len cap sz => lenK td (.s j i o len cap sz) K
  | .a l => lenK td (.a l) K
  | _ => False
def len1 (P : Program) (l : List SV) (ts : List TypeId) (H : List Ob) (K : SV → Prop) : Prop :=
  match l, ts with
  | [x], t :: _ => len2 (tiOf P t).td x H K
  | _, _ => False
def cap1 (P : Program) (l : List SV) (ts : List TypeId) (K : SV → Prop) : Prop :=
  match l, ts with
  | [x], t :: _ => capK (tiOf P t).td x K
  | _, _ => False
def notOth : TD → Prop → Prop
  | .bool, X => X
  | .int _, X => X
  | .str, X => X
  | .ptr, X => X
  | .slice _ _, X => X
  | .array _ _ _, X => X
  | .struct _, X => X
  | .func, X => X
  | .map _ _, X => X
  | .other, _ => False
theorem notOth_ok {td : TD} {X : Prop} (h : notOth td X) : X ∧ td ≠ .other := by
  cases td <;> simp_all [notOth]
def ixS (P : Program) (td : TD) (x y : SV) (K : SV → Prop) : Prop :=
  match td with
  | .str => indexK P .str x y K
  | .array n e m => notOth (tiOf P e).td (indexK P (.array n e m) x y K)
  | _ => False
def opP (P : Program) (nw : Bool) (o : Op) (σ : Sl) (H : List Ob) (K : SV → Prop) : Prop :=
  match o with
  | .move x => K (ev σ x)
  | .assign x => K (ev σ x)
  | .pick c a b => pickK (ev σ c) (ev σ a) (ev σ b) K
  | .nilCheck x => nilK (ev σ x) K
  | .binOp op t x y _ => binK P nw op (tiOf P t).td t (ev σ x) (ev σ y) K
  | .unOp op _ x => unK nw op (ev σ x) K
  | .convert s d x => cvK P nw (tiOf P s).td (tiOf P d).td (ev σ x) H K
  | .fieldAddr s x f => fldK ((tiOf P s).td.fd f) (ev σ x) K
  | .field s x f => fieldK P ((tiOf P s).td.fd f) (ev σ x) K
  | .indexAddr t x i => ixK (tiOf P t).td (ev σ x) (ev σ i) K
  | .index t x i => ixS P (tiOf P t).td (ev σ x) (ev σ i) K
  | .load t x => loadK (tiOf P t) (ev σ x) H K
  | .extract t i => extK (ev σ t) i K
  | .slice t x lo hi mx => slK (tiOf P t).td (ev σ x) (lo.map (ev σ)) (hi.map (ev σ)) (mx.map (ev σ)) K
  | .makeFunc fn fs cs => K (.f fn (fs.toList.map (ev σ)) (cs.toList.map (ev σ)))
  | .build t parts => buildK (tiOf P t) (parts.toList.map fun (i, x) => (i, ev σ x)) K
  | .call ⟨.builtin .len, args, ts⟩ => len1 P (args.toList.map (ev σ)) ts.toList H K
  | .lookup t m k ok => lookK P (tiOf P t).td (ev σ m) (ev σ k) ok H K
  | .call ⟨.builtin .cap, args, ts⟩ => cap1 P (args.toList.map (ev σ)) ts.toList K
  | .call ⟨.builtin .min, args, _⟩ => minK (args.toList.map (ev σ)) K
  | .call ⟨.builtin .max, args, _⟩ => maxK (args.toList.map (ev σ)) K
  | _ => False
/-- 'o' yields the value of 'r', in all worlds of the class. -/
def Yields (P : Program) (β : Bs) (C : World → Prop) (K : SV → Prop) (o : Oper) (a : Act) : Prop := ∃ r z, K r ∧ Ok β r z ∧ ∀ w, C w → (execOp a.eval o).run P w = .ok (.value z) w
theorem yields_of {P : Program} {β : Bs} {C : World → Prop} {K : SV → Prop} {o : Oper} {a : Act} {s : Sem Value} (h : Gives P β C K s) (he : ∀ w z, s.run P w = .ok z w → (execOp a.eval o).run P w = .ok (.value z) w) : Yields P β C K o a := by
  obtain ⟨r, z, h1, h2, h3⟩ := h
  exact ⟨r, z, h1, h2, fun w hw => he w z (h3 w hw)⟩
theorem okL_map {β : Bs} {σ : Sl} {a : Act} (h : SlotsOk β σ a) : ∀ (l : List Operand), OkL β (l.map (ev σ)) (l.map a.eval)
  | [] => by simp [OkL]
  | x :: l => by simp only [List.map_cons, OkL]; exact ⟨_, _, rfl, ev_ok h x, okL_map h l⟩
theorem okO_map {β : Bs} {σ : Sl} {a : Act} (h : SlotsOk β σ a) (x : Option Operand) : OkO β (x.map (ev σ)) (x.map a.eval) := by
  cases x with
  | none => trivial
  | some x => exact ev_ok h x
theorem fieldK_gives {P : Program} {β : Bs} {C : World → Prop} {K : SV → Prop} {s : TypeId} {f : Nat} {x : SV} {u : Value} (h : fieldK P ((tdOf P s).fd f) x K) (hu : Ok β x u) : Gives P β C K (Instr.field s u f) := by
  unfold fieldK at h
  split at h
  · rename_i off t sz l he
    simp only [Ok] at hu
    obtain ⟨cs, rfl, hcs⟩ := hu
    unfold TD.fd at he
    split at he
    · rename_i l' hl
      obtain ⟨fs, h1, h2⟩ := td_struct hl
      rw [nth_eq, h2] at he
      simp only [List.getElem?_map, Option.map_eq_some_iff, Array.getElem?_toList] at he
      obtain ⟨fd, h3, h4⟩ := he
      obtain ⟨e1, e2, e3⟩ : fd.offset = off ∧ fd.type = t ∧ P.cellsOf fd.type = sz + 1 := by simpa using h4
      subst e1 e2
      obtain ⟨hne, h⟩ := h
      refine gives_mono (oneK_part (off := fd.offset) h e3 hne hcs) fun w => ?_
      unfold Instr.field
      simp only [Sem.run_bind, run_underlying h1, Result.andThen_ok, h3, asAgg, Sem.run_pure]
    · cases he
  · exact h.elim
def isLoad : Op → Bool
  | .load _ _ => true
  | .lookup _ _ _ _ => true
  | .call ⟨.builtin .len, _, _⟩ => true
  | .convert _ _ _ => true
  | _ => false
theorem opP_yieldsC {P : Program} {nw : Bool} {β : Bs} {σ : Sl} {H : List Ob} {K : SV → Prop} {o : Oper} {a : Act} {w : World} {C : World → Prop} (hC : isLoad o.op = true → ∀ w', C w' → Below w.heap.size w w') (h : opP P nw o.op σ H K) (hI : Inv β H w) (hs : SlotsOk β σ a) : Yields P β C K o a := by
  unfold opP at h
  split at h
  · rename_i x ho
    exact ⟨_, _, h, ev_ok hs x, fun w' _ => by simp only [execOp, ho]; rfl⟩
  · rename_i x ho
    exact ⟨_, _, h, ev_ok hs x, fun w' _ => by simp only [execOp, ho]; rfl⟩
  · rename_i c x y ho
    obtain ⟨r, z, h1, h2, h3⟩ := pickK_gives (P := P) (C := C) h (ev_ok hs c) (ev_ok hs x) (ev_ok hs y)
    refine ⟨r, z, h1, h2, fun w' hw => ?_⟩
    have := h3 w' hw
    simp only [execOp, ho, Sem.run_bind] at this ⊢
    cases hc : (asBool (a.eval c)).run P w' with
    | halt e w1 => rw [hc] at this; cases this
    | ok b w1 =>
      rw [hc] at this
      simp only [Result.andThen_ok, Sem.run_pure, Result.ok.injEq] at this ⊢
      exact ⟨by rw [this.1], this.2⟩
  · rename_i x ho
    have hu := ev_ok hs x
    unfold nilK at h
    split at h
    · rename_i j i c hx
      rw [hx] at hu
      simp only [Ok] at hu
      obtain ⟨g, b, h1, h2⟩ := hu
      exact ⟨_, a.eval x, h, by rw [h2]; simp only [Ok]; exact ⟨g, b, h1, rfl⟩, fun w' _ => by simp only [execOp, ho, h2]; rfl⟩
    · rename_i j i k c sz hx
      rw [hx] at hu
      simp only [Ok] at hu
      obtain ⟨g, b, h1, h2⟩ := hu
      exact ⟨_, a.eval x, h, by rw [h2]; simp only [Ok]; exact ⟨g, b, h1, rfl⟩, fun w' _ => by simp only [execOp, ho, h2]; rfl⟩
    · rename_i g fs cs hx
      rw [hx] at hu
      simp only [Ok] at hu
      obtain ⟨xs, ys, h2, h3, h4⟩ := hu
      exact ⟨_, a.eval x, h, by rw [h2]; simp only [Ok]; exact ⟨xs, ys, rfl, h3, h4⟩, fun w' _ => by simp only [execOp, ho, h2]; rfl⟩
    · exact h.elim
  · rename_i op t x y yt ho
    obtain ⟨r, z, h1, h2, h3⟩ := binK_gives (P := P) (C := C) (ox := x) (oy := y) h (ev_ok hs x) (ev_ok hs y)
    refine ⟨r, z, h1, h2, fun w' hw => ?_⟩
    obtain ⟨h4, h5⟩ := h3 w' hw
    simp only [execOp, ho, Sem.run_bind, h4, h5, Result.andThen_ok, Sem.run_pure]
  · rename_i op t x ho
    exact yields_of (unK_gives h (ev_ok hs x)) fun w z hr => by simp only [execOp, ho, Sem.run_bind, hr, Result.andThen_ok, Sem.run_pure]
  · rename_i s d x ho
    have hu := ev_ok hs x
    unfold cvK at h
    split at h
    · rename_i y hx
      rw [hx] at hu
      exact yields_of (convK_gives h hu) fun w z hr => by simp only [execOp, ho, Sem.run_bind, hr, Result.andThen_ok, Sem.run_pure]
    · rename_i hx
      rw [hx] at hu
      obtain ⟨r, z, h1, h2, h3⟩ := cvS_gives h hI hu
      exact ⟨r, z, h1, h2, fun w' hw' => by
        have hr := h3 w' (hC (by rw [ho]; rfl) w' hw')
        simp only [execOp, ho, Sem.run_bind, hr, Result.andThen_ok, Sem.run_pure]⟩
    · exact h.elim
  · rename_i s x f ho
    exact yields_of (fldK_gives h (ev_ok hs x)) fun w z hr => by simp only [execOp, ho, Sem.run_bind, hr, Result.andThen_ok, Sem.run_pure]
  · rename_i s x f ho
    exact yields_of (fieldK_gives h (ev_ok hs x)) fun w z hr => by simp only [execOp, ho, Sem.run_bind, hr, Result.andThen_ok, Sem.run_pure]
  · rename_i t x i ho
    exact yields_of (ixK_gives h (ev_ok hs x) (ev_ok hs i)) fun w z hr => by simp only [execOp, ho, Sem.run_bind, hr, Result.andThen_ok, Sem.run_pure]
  · rename_i t x i ho
    unfold ixS at h
    split at h
    · rename_i htd
      rw [← htd] at h
      exact yields_of (indexK_gives h (ev_ok hs x) (ev_ok hs i) (fun e n m he => by rw [show tdOf P t = .str from htd] at he; cases he)) fun w z hr => by simp only [execOp, ho, Sem.run_bind, hr, Result.andThen_ok, Sem.run_pure]
    · rename_i n e m htd
      obtain ⟨h, hne⟩ := notOth_ok h
      rw [← htd] at h
      exact yields_of (indexK_gives h (ev_ok hs x) (ev_ok hs i) (fun e' n' m' he => by
        rw [show tdOf P t = .array n e m from htd] at he
        cases he
        exact hne)) fun w z hr => by simp only [execOp, ho, Sem.run_bind, hr, Result.andThen_ok, Sem.run_pure]
    · exact h.elim
  · rename_i t x ho
    obtain ⟨r, z, h1, h2, h3⟩ := loadK_gives h hI (ev_ok hs x)
    exact ⟨r, z, h1, h2, fun w' hw' => by
      have hr := h3 w' (hC (by rw [ho]; rfl) w' hw')
      simp only [execOp, ho, Sem.run_bind, hr, Result.andThen_ok, Sem.run_pure]⟩
  · rename_i t i ho
    exact yields_of (extK_gives h (ev_ok hs t)) fun w z hr => by simp only [execOp, ho, Sem.run_bind, hr, Result.andThen_ok, Sem.run_pure]
  · rename_i t x lo hi mx ho
    exact yields_of (slK_gives h (ev_ok hs x) (okO_map hs lo) (okO_map hs hi) (okO_map hs mx)) fun w z hr => by simp only [execOp, ho, Sem.run_bind, hr, Result.andThen_ok, Sem.run_pure]
  · rename_i fn fs cs ho
    refine ⟨_, .func fn (fs.map a.eval) (cs.map a.eval), h, ?_, fun w' _ => by simp only [execOp, ho]; rfl⟩
    simp only [Ok]
    exact ⟨_, _, rfl, by simpa using okL_map hs fs.toList, by simpa using okL_map hs cs.toList⟩
  · rename_i t parts ho
    exact yields_of (buildK_gives (us := parts.map fun (i, x) => (i, a.eval x)) h (by simpa using okP_of hs parts.toList)) fun w z hr => by simp only [execOp, ho, Sem.run_bind, hr, Result.andThen_ok, Sem.run_pure]
  · rename_i args ts ho
    unfold len1 at h
    split at h
    · rename_i x1 t r hargs hts
      obtain ⟨x, hargs2, rfl⟩ : ∃ x, args.toList = [x] ∧ ev σ x = x1 := by
        cases hl : args.toList with
        | nil => rw [hl] at hargs; cases hargs
        | cons x l => rw [hl] at hargs; simp only [List.map_cons, List.cons.injEq, List.map_eq_nil_iff] at hargs; exact ⟨x, by rw [hargs.2], hargs.1⟩
      have e1 : args = #[x] := by rw [← Array.toArray_toList (xs := args), hargs2]
      subst e1
      have e2 : ts[0]? = some t := by rw [← Array.getElem?_toList, hts]; rfl
      have fin : ∀ {C' : World → Prop}, (∀ w', C w' → C' w') → Gives P β C' K (Builtin.len_ ts o.type #[a.eval x]) → Yields P β C K o a := fun hC' hG =>
        let ⟨r, z, q1, q2, q3⟩ := yields_of (o := o) (a := a) hG fun w z hr => by simp only [execOp, ho, resolve, invoke, builtin, Sem.run_bind, Sem.run_pure, Result.andThen_ok, List.map_toArray, List.map_cons, List.map_nil, hr]
        ⟨r, z, q1, q2, fun w hw => q3 w (hC' w hw)⟩
      have hu := ev_ok hs x
      unfold len2 at h
      split at h
      · rename_i j hx
        rw [hx] at hu
        unfold lenM at h
        split at h
        · rename_i kt e htd
          exact fin (hC (by rw [ho]; rfl)) (lenM_gives htd h hI hu ts o.type e2)
        · exact h.elim
      · rename_i y hx; rw [hx] at hu; exact fin (fun _ h => h) (lenK_gives h hu ts o.type e2)
      · rename_i hx; rw [hx] at hu; exact fin (fun _ h => h) (lenK_gives h hu ts o.type e2)
      · rename_i hx; rw [hx] at hu; exact fin (fun _ h => h) (lenK_gives h hu ts o.type e2)
      · exact h.elim
    · exact h.elim
  · rename_i t m k ok ho
    obtain ⟨r, z, h1, h2, h3⟩ := lookK_gives h hI (ev_ok hs m) (ev_ok hs k)
    exact ⟨r, z, h1, h2, fun w' hw' => by
      have hr := h3 w' (hC (by rw [ho]; rfl) w' hw')
      simp only [execOp, ho, Sem.run_bind, hr, Result.andThen_ok, Sem.run_pure]⟩
  · rename_i args ts ho
    unfold cap1 at h
    split at h
    · rename_i x1 t r hargs hts
      obtain ⟨x, hargs2, rfl⟩ : ∃ x, args.toList = [x] ∧ ev σ x = x1 := by
        cases hl : args.toList with
        | nil => rw [hl] at hargs; cases hargs
        | cons x l => rw [hl] at hargs; simp only [List.map_cons, List.cons.injEq, List.map_eq_nil_iff] at hargs; exact ⟨x, by rw [hargs.2], hargs.1⟩
      have e1 : args = #[x] := by rw [← Array.toArray_toList (xs := args), hargs2]
      subst e1
      have e2 : ts[0]? = some t := by rw [← Array.getElem?_toList, hts]; rfl
      exact yields_of (capK_gives h (ev_ok hs x) ts o.type e2) fun w z hr => by simp only [execOp, ho, resolve, invoke, builtin, Sem.run_bind, Sem.run_pure, Result.andThen_ok, List.map_toArray, List.map_cons, List.map_nil, hr]
    · exact h.elim
  · rename_i args ts ho
    exact yields_of (minK_gives h (okL_map hs args.toList) ts o.type) fun w z hr => by
      have e : (args.map a.eval) = (args.toList.map a.eval).toArray := by apply Array.ext'; simp
      simp only [execOp, ho, resolve, invoke, builtin, Sem.run_bind, Sem.run_pure, Result.andThen_ok, e, hr]
  · rename_i args ts ho
    exact yields_of (maxK_gives h (okL_map hs args.toList) ts o.type) fun w z hr => by
      have e : (args.map a.eval) = (args.toList.map a.eval).toArray := by apply Array.ext'; simp
      simp only [execOp, ho, resolve, invoke, builtin, Sem.run_bind, Sem.run_pure, Result.andThen_ok, e, hr]
  · exact h.elim
theorem opP_yields {P : Program} {nw : Bool} {β : Bs} {σ : Sl} {H : List Ob} {K : SV → Prop} {o : Oper} {a : Act} {w : World} (h : opP P nw o.op σ H K) (hI : Inv β H w) (hs : SlotsOk β σ a) : Yields P β (fun w' => Below w.heap.size w w') K o a := opP_yieldsC (fun _ _ h => h) h hI hs

end Go.Proofs.YtolioflblegneaaGreat
