/- A symbolic executor for Go code, first part: values, objects, the rules of operations. No program in sight. -/
import Derived.MapKept
import Derived.WalkKit
import Derived.Below
import Derived.Laws.AppendOwn
import Derived.Lib.Hide
import Derived.Laws.StructEq
import Derived.Laws.Rows
import Derived.Laws.Tables
import Derived.Laws.MakeOwn
import Derived.Laws.CopyRow
set_option maxRecDepth 100000
set_option linter.unusedSimpArgs false
set_option linter.unusedVariables false
namespace Go.Proofs.Ytdinkpefoljigaa
open Go.RowKit
/- ===== symbolic values ===== -/
/-- A value as the executor sees it: addresses name objects, and members of objects. -/
inductive SV where
  | v (x : Value)
  | p (j i c : Nat)
  | e (j i k c sz : Nat)
  | s (j i o len cap sz : Nat)
  | f (fn : Fn) (first caps : List SV)
  | a (l : List SV)
  | t (l : List SV)
  | m (j : Nat)
  | und
  | junk
abbrev Bs := Nat → Nat → Option (Nat × Nat)
mutual
/-- What a symbolic value stands for. -/
def Ok (β : Bs) : SV → Value → Prop
  | .v x, u => u = x
  | .p j i c, u => ∃ g b, β j i = some (g, b) ∧ u = .pointer (some ⟨g, b + c, none⟩)
  | .e j i k c sz, u => ∃ g b, β j i = some (g, b) ∧ u = .pointer (some ⟨g, b + (k * sz + c), none⟩)
  | .s j i o len cap sz, u => ∃ A, u = .slice A len cap ∧ len ≤ cap ∧ (0 < cap → ∃ g b, β j i = some (g, b) ∧ A = some ⟨g, b + o * sz, none⟩)
  | .f fn fs cs, u => ∃ xs ys, u = .func fn xs ys ∧ OkL β fs xs.toList ∧ OkL β cs ys.toList
  | .a l, u => ∃ xs, u = .agg xs ∧ OkL β l xs.toList
  | .t l, u => ∃ xs, u = .tuple xs ∧ OkL β l xs.toList
  | .m j, u => ∃ g b, β j 0 = some (g, b) ∧ u = .map (some g)
  | .und, u => u = undef
  | .junk, _ => True
def OkL (β : Bs) : List SV → List Value → Prop
  | [], us => us = []
  | x :: l, us => ∃ u us', us = u :: us' ∧ Ok β x u ∧ OkL β l us'
end
def BLe (β β' : Bs) : Prop := ∀ j i x, β j i = some x → β' j i = some x
theorem BLe.refl (β : Bs) : BLe β β := fun _ _ _ h => h
theorem BLe.trans {a b c : Bs} (h1 : BLe a b) (h2 : BLe b c) : BLe a c := fun j i x h => h2 j i x (h1 j i x h)
mutual
theorem Ok.mono {β β' : Bs} (hb : BLe β β') : ∀ (x : SV) (u : Value), Ok β x u → Ok β' x u
  | .v _, _, h => h
  | .p j i c, u, h => by
    obtain ⟨g, b, h1, h2⟩ := (by simpa only [Ok] using h : ∃ g b, β j i = some (g, b) ∧ u = .pointer (some ⟨g, b + c, none⟩))
    simp only [Ok]
    exact ⟨g, b, hb _ _ _ h1, h2⟩
  | .e j i k c sz, u, h => by
    simp only [Ok] at h ⊢
    obtain ⟨g, b, h1, h2⟩ := h
    exact ⟨g, b, hb _ _ _ h1, h2⟩
  | .s j i o len cap sz, u, h => by
    simp only [Ok] at h ⊢
    obtain ⟨A, h1, h0, h2⟩ := h
    exact ⟨A, h1, h0, fun hc => let ⟨g, b, h3, h4⟩ := h2 hc; ⟨g, b, hb _ _ _ h3, h4⟩⟩
  | .f fn fs cs, u, h => by
    simp only [Ok] at h ⊢
    obtain ⟨xs, ys, h1, h2, h3⟩ := h
    exact ⟨xs, ys, h1, OkL.mono hb _ _ h2, OkL.mono hb _ _ h3⟩
  | .a l, u, h => by
    simp only [Ok] at h ⊢
    obtain ⟨xs, h1, h2⟩ := h
    exact ⟨xs, h1, OkL.mono hb _ _ h2⟩
  | .t l, u, h => by
    simp only [Ok] at h ⊢
    obtain ⟨xs, h1, h2⟩ := h
    exact ⟨xs, h1, OkL.mono hb _ _ h2⟩
  | .m j, u, h => by
    simp only [Ok] at h ⊢
    obtain ⟨g, b, h1, h2⟩ := h
    exact ⟨g, b, hb _ _ _ h1, h2⟩
  | .und, _, h => h
  | .junk, _, _ => by simp only [Ok]
theorem OkL.mono {β β' : Bs} (hb : BLe β β') : ∀ (l : List SV) (us : List Value), OkL β l us → OkL β' l us
  | [], _, h => h
  | x :: l, us, h => by
    simp only [OkL] at h ⊢
    obtain ⟨u, us', h1, h2, h3⟩ := h
    exact ⟨u, us', h1, Ok.mono hb _ _ h2, OkL.mono hb _ _ h3⟩
end
theorem okL_length {β : Bs} : ∀ {l : List SV} {us : List Value}, OkL β l us → us.length = l.length
  | [], us, h => by simp only [OkL] at h; simp [h]
  | x :: l, us, h => by
    simp only [OkL] at h
    obtain ⟨u, us', rfl, _, h3⟩ := h
    simp [okL_length h3]
theorem okL_get {β : Bs} : ∀ {l : List SV} {us : List Value}, OkL β l us → ∀ (c : Nat) (x : SV), l[c]? = some x → ∃ u, us[c]? = some u ∧ Ok β x u
  | [], us, h, c, x, hx => by simp at hx
  | y :: l, us, h, 0, x, hx => by
    simp only [OkL] at h
    obtain ⟨u, us', rfl, h2, _⟩ := h
    simp at hx
    subst hx
    exact ⟨u, by simp, h2⟩
  | y :: l, us, h, c + 1, x, hx => by
    simp only [OkL] at h
    obtain ⟨u, us', rfl, _, h3⟩ := h
    simpa using okL_get h3 c x (by simpa using hx)
theorem okL_of {β : Bs} : ∀ {l : List SV} {us : List Value}, us.length = l.length → (∀ (c : Nat) (x : SV), l[c]? = some x → ∃ u, us[c]? = some u ∧ Ok β x u) → OkL β l us
  | [], us, hl, _ => by simp only [OkL]; exact List.length_eq_zero_iff.1 hl
  | x :: l, [], hl, _ => by simp at hl
  | x :: l, u :: us, hl, h => by
    simp only [OkL]
    obtain ⟨u', h1, h2⟩ := h 0 x (by simp)
    simp at h1
    subst h1
    exact ⟨u, us, rfl, h2, okL_of (by simpa using hl) fun c y hy => by simpa using h (c + 1) y (by simpa using hy)⟩
theorem okL_append {β : Bs} : ∀ {l l' : List SV} {us us' : List Value}, OkL β l us → OkL β l' us' → OkL β (l ++ l') (us ++ us')
  | [], l', us, us', h, h' => by simp only [OkL] at h; subst h; simpa using h'
  | x :: l, l', us, us', h, h' => by
    simp only [OkL] at h
    obtain ⟨u, vs, rfl, h2, h3⟩ := h
    simp only [List.cons_append, OkL]
    exact ⟨u, vs ++ us', rfl, h2, okL_append h3 h'⟩
/-- Values without addresses, as they are. -/
theorem okL_vs {β : Bs} : ∀ (us : List Value), OkL β (us.map SV.v) us
  | [] => by simp [OkL]
  | u :: us => by simp only [List.map_cons, OkL]; exact ⟨u, us, rfl, by simp [Ok], okL_vs us⟩
/- ===== objects ===== -/
inductive Ct where
  | st (cs : List SV)
  | row (sz N : Nat) (len cap : Nat → Nat) (f : Nat → Nat → List SV)
  | mp (d : TypeDesc) (n : Nat) (get : Value → Option Value)
  | dead
structure Ob where
  ty : TypeId
  ro : Bool
  ct : Ct
/-- What a map's entries are. -/
structure MapIs (d : TypeDesc) (n : Nat) (get : Value → Option Value) (es : Array MapEntry) : Prop where
  size : es.size = n
  key : ∀ e ∈ es.toList, MapKept.IsKey d e.key
  nodup : (es.toList.map (·.key)).Nodup
  get : ∀ k x, MapKept.IsKey d k → (get k = some x ↔ ∃ e ∈ es.toList, e.key = k ∧ e.val = x)
/-- What an object says of the memory. -/
def ObOk (β : Bs) (w : World) (j : Nat) (ob : Ob) : Prop :=
  match ob.ct with
  | .st cs => ∃ g cur, β j 0 = some (g, 0) ∧ w.heap[g]? = some (.cells cur ob.ty (0, 0)) ∧ OkL β cs cur.toList
  | .row sz N len cap f =>
    if ob.ro then ∀ i, i < N → ∀ k, k < len i → ∃ g b, β j i = some (g, b) ∧ g < w.heap.size ∧ ∀ c x, (f i k)[c]? = some x → ∃ u, w.cell? ⟨g, b + (k * sz + c), none⟩ = some u ∧ Ok β x u
    else ∀ i, i < N → (len i = 0 ∧ cap i = 0) ∨
      ∃ g cur, β j i = some (g, 0) ∧ w.heap[g]? = some (.cells cur ob.ty (0, 0)) ∧ cur.size = cap i * sz ∧ len i ≤ cap i ∧ cap i ≤ 9223372036854775807 ∧
        ∀ k, k < len i → (f i k).length = sz ∧ ∀ c x, (f i k)[c]? = some x → ∃ u, cur[k * sz + c]? = some u ∧ Ok β x u
  | .mp d n get => ∃ g es clk, β j 0 = some (g, 0) ∧ w.heap[g]? = some (.map es clk) ∧ MapIs d n get es
  | .dead => True
/-- A member that is in use. -/
def Ob.mem (ob : Ob) (i : Nat) : Prop :=
  match ob.ct with
  | .st _ => i = 0
  | .row _ N len cap _ => i < N ∧ (ob.ro = true → 0 < len i) ∧ (ob.ro = false → 0 < cap i)
  | .mp _ _ _ => i = 0
  | .dead => False
/-- .. and may be written. -/
def Ob.own (ob : Ob) (i : Nat) : Prop :=
  match ob.ct with
  | .st _ => i = 0 ∧ ob.ro = false
  | .row _ N _ cap _ => i < N ∧ ob.ro = false ∧ 0 < cap i
  | .mp _ _ _ => i = 0 ∧ ob.ro = false
  | .dead => False
/-- A member that there is not. -/
def Ob.over (ob : Ob) (i : Nat) : Prop :=
  match ob.ct with
  | .st _ => 0 < i
  | .row _ N _ _ _ => N ≤ i
  | .mp _ _ _ => 0 < i
  | .dead => False
structure Inv (β : Bs) (H : List Ob) (w : World) : Prop where
  ob : ∀ j o, H[j]? = some o → ObOk β w j o
  out : ∀ j i, H.length ≤ j → β j i = none
  sep : ∀ j i j' i' o o' g b b', H[j]? = some o → H[j']? = some o' → o.own i → o'.mem i' → β j i = some (g, b) → β j' i' = some (g, b') → j = j' ∧ i = i'
  bey : ∀ j o i, H[j]? = some o → o.over i → β j i = none
/-- The blocks that are known. -/
def MemB (β : Bs) (H : List Ob) (g : Nat) : Prop := ∃ j i o b, H[j]? = some o ∧ o.mem i ∧ β j i = some (g, b)
/-- The blocks that may be written. -/
def OwnB (β : Bs) (H : List Ob) (g : Nat) : Prop := ∃ j i o b, H[j]? = some o ∧ o.own i ∧ β j i = some (g, b)
theorem Ob.own_mem {ob : Ob} {i : Nat} (h : ob.own i) : ob.mem i := by
  obtain ⟨ty, ro, ct⟩ := ob
  cases ct with
  | st cs => exact h.1
  | row sz N len cap f => exact ⟨h.1, ⟨fun hr => (by have := h.2.1; simp only at this hr; rw [this] at hr; cases hr), fun _ => h.2.2⟩⟩
  | mp d n get => exact h.1
  | dead => exact h
theorem ObOk.block {β : Bs} {w : World} {j i : Nat} {ob : Ob} (h : ObOk β w j ob) (hm : ob.mem i) {g b : Nat} (hb : β j i = some (g, b)) : g < w.heap.size := by
  obtain ⟨ty, ro, ct⟩ := ob
  have key : ∀ (g : Nat) (cur : Array Value), w.heap[g]? = some (.cells cur ty (0, 0)) → g < w.heap.size := fun g cur hg => by
    rcases Nat.lt_or_ge g w.heap.size with h | h
    · exact h
    · rw [Array.getElem?_eq_none h] at hg; cases hg
  cases ct with
  | st cs =>
    obtain ⟨g', cur, h1, h2, _⟩ := h
    simp only [Ob.mem] at hm
    subst hm
    rw [h1] at hb
    obtain ⟨rfl, rfl⟩ : g' = g ∧ 0 = b := by simpa using hb
    exact key _ _ h2
  | row sz N len cap f =>
    simp only [Ob.mem] at hm
    cases ro with
    | true =>
      obtain ⟨g', b', h1, h2, _⟩ := h i hm.1 0 (hm.2.1 rfl)
      rw [h1] at hb
      obtain ⟨rfl, rfl⟩ : g' = g ∧ b' = b := by simpa using hb
      exact h2
    | false =>
      rcases h i hm.1 with ⟨_, h0⟩ | ⟨g', cur, h1, h2, _⟩
      · have := hm.2.2 rfl; omega
      · rw [h1] at hb
        obtain ⟨rfl, rfl⟩ : g' = g ∧ 0 = b := by simpa using hb
        exact key _ _ h2
  | mp d n get =>
    obtain ⟨g', es, clk, h1, h2, _⟩ := h
    simp only [Ob.mem] at hm
    subst hm
    rw [h1] at hb
    obtain ⟨rfl, rfl⟩ : g' = g ∧ 0 = b := by simpa using hb
    rcases Nat.lt_or_ge g' w.heap.size with h | h
    · exact h
    · rw [Array.getElem?_eq_none h] at h2; cases h2
  | dead => exact hm.elim
/-- An object is as it was where its blocks are. -/
theorem ObOk.same {β β' : Bs} {w w' : World} {j : Nat} {ob : Ob} (h : ObOk β w j ob) (hb : BLe β β') (hn : ∀ i, β j i = none → β' j i = none) (hs : w.heap.size ≤ w'.heap.size)
    (hh : ∀ i g b, ob.mem i → β j i = some (g, b) → w'.heap[g]? = w.heap[g]?) : ObOk β' w' j ob := by
  obtain ⟨ty, ro, ct⟩ := ob
  cases ct with
  | st cs =>
    obtain ⟨g, cur, h1, h2, h3⟩ := h
    exact ⟨g, cur, hb _ _ _ h1, (hh 0 g 0 rfl h1).trans h2, OkL.mono hb _ _ h3⟩
  | row sz N len cap f =>
    cases ro with
    | true =>
      intro i hi k hk
      obtain ⟨g, b, h1, h2, h3⟩ := h i hi k hk
      have e := hh i g b ⟨hi, fun _ => Nat.lt_of_le_of_lt (Nat.zero_le _) hk, fun h => by cases h⟩ h1
      refine ⟨g, b, hb _ _ _ h1, Nat.lt_of_lt_of_le h2 hs, fun c x hx => ?_⟩
      obtain ⟨u, h4, h5⟩ := h3 c x hx
      exact ⟨u, (World.cell?_of_block (a := ⟨g, _, none⟩) e).trans h4, Ok.mono hb _ _ h5⟩
    | false =>
      intro i hi
      rcases h i hi with h1 | ⟨g, cur, h1, h2, h3, h4, h5⟩
      · exact .inl h1
      · rcases Nat.eq_zero_or_pos (cap i) with hc0 | hc0
        · exact .inl ⟨by omega, hc0⟩
        refine .inr ⟨g, cur, hb _ _ _ h1, (hh i g 0 ⟨hi, fun h => (by cases h), fun _ => hc0⟩ h1).trans h2, h3, h4, h5.1, fun k hk => ⟨(h5.2 k hk).1, fun c x hx => ?_⟩⟩
        obtain ⟨u, h6, h7⟩ := (h5.2 k hk).2 c x hx
        exact ⟨u, h6, Ok.mono hb _ _ h7⟩
  | mp d n get =>
    obtain ⟨g, es, clk, h1, h2, h3⟩ := h
    exact ⟨g, es, clk, hb _ _ _ h1, (hh 0 g 0 rfl h1).trans h2, h3⟩
  | dead => trivial
theorem Inv.below {β : Bs} {H : List Ob} {w w' : World} (h : Inv β H w) (hb : Below w.heap.size w w') : Inv β H w' :=
  ⟨fun j o ho => (h.ob j o ho).same (BLe.refl β) (fun _ h => h) hb.size (fun _ _ _ hm hg => hb.block _ ((h.ob j o ho).block hm hg)), h.out, h.sep, h.bey⟩
/-- What a piece of code may do: objects that it may write, and new memory. 'n0': the objects whose places stay. -/
structure Fr (n0 : Nat) (β : Bs) (H : List Ob) (w : World) (β' : Bs) (H' : List Ob) (w' : World) : Prop where
  tape : w'.tape = w.tape
  os : w'.os = w.os
  output : w'.output = w.output
  size : w.heap.size ≤ w'.heap.size
  block : ∀ g, g < w.heap.size → ¬ OwnB β H g → w'.heap[g]? = w.heap[g]?
  own : ∀ g, g < w.heap.size → OwnB β' H' g → OwnB β H g
  mem : ∀ g, g < w.heap.size → MemB β' H' g → MemB β H g
  le : ∀ j i x, j < n0 → β j i = some x → β' j i = some x
  len : n0 ≤ H.length → n0 ≤ H'.length
theorem Fr.refl (n0 : Nat) (β : Bs) (H : List Ob) (w : World) : Fr n0 β H w β H w := ⟨rfl, rfl, rfl, Nat.le_refl _, fun _ _ _ => rfl, fun _ _ h => h, fun _ _ h => h, fun _ _ _ _ h => h, fun h => h⟩
theorem Fr.trans {n0 : Nat} {β β1 β2 : Bs} {H H1 H2 : List Ob} {w w1 w2 : World} (h : Fr n0 β H w β1 H1 w1) (h' : Fr n0 β1 H1 w1 β2 H2 w2) : Fr n0 β H w β2 H2 w2 :=
  ⟨h'.tape.trans h.tape, h'.os.trans h.os, h'.output.trans h.output, Nat.le_trans h.size h'.size,
   fun g hg hn => (h'.block g (Nat.lt_of_lt_of_le hg h.size) (fun ho => hn (h.own g hg ho))).trans (h.block g hg hn),
   fun g hg ho => h.own g hg (h'.own g (Nat.lt_of_lt_of_le hg h.size) ho),
   fun g hg ho => h.mem g hg (h'.mem g (Nat.lt_of_lt_of_le hg h.size) ho),
   fun j i x hj hx => h'.le j i x hj (h.le j i x hj hx), fun hl => h'.len (h.len hl)⟩
theorem Fr.mono {n0 n1 : Nat} {β β1 : Bs} {H H1 : List Ob} {w w1 : World} (h : Fr n0 β H w β1 H1 w1) (hn : n1 ≤ n0) (hl : n0 ≤ H.length) : Fr n1 β H w β1 H1 w1 :=
  ⟨h.tape, h.os, h.output, h.size, h.block, h.own, h.mem, fun j i x hj => h.le j i x (Nat.lt_of_lt_of_le hj hn), fun _ => Nat.le_trans hn (h.len hl)⟩
theorem Fr.below {n0 : Nat} {β : Bs} {H : List Ob} {w w' : World} (h : Below w.heap.size w w') : Fr n0 β H w β H w' :=
  ⟨h.tape, h.os, h.output, h.size, fun g hg _ => h.block g hg, fun _ _ ho => ho, fun _ _ ho => ho, fun _ _ _ _ hx => hx, fun h => h⟩
/- ===== types ===== -/
inductive TD where
  | bool
  | int (k : IntKind)
  | str
  | ptr
  | slice (e esz : Nat)
  | array (n e esz : Nat)
  | struct (fs : List (Nat × Nat × Nat))
  | func
  | map (k e : Nat)
  | other
structure TI where
  td : TD
  size : Nat
  bytes : Nat
  zero : Option (List Value)
def tdOf (P : Program) (t : TypeId) : TD :=
  match P.underlying t with
  | some .bool => .bool
  | some (.int k) => .int k
  | some .string => .str
  | some (.pointer _) => .ptr
  | some (.slice e) => .slice e (P.cellsOf e)
  | some (.array n e) => .array n e (P.cellsOf e)
  | some (.struct fs) => .struct (fs.toList.map fun f => (f.offset, f.type, P.cellsOf f.type))
  | some (.func _ _ _) => .func
  | some (.map k e) => .map k e
  | _ => .other
/-- What the executor reads of a type. -/
def tiOf (P : Program) (t : TypeId) : TI := ⟨tdOf P t, P.cellsOf t, P.bytesOf t, (P.info? t).bind fun i => i.zero.map fun v => v.cells.toList⟩
def TD.agg : TD → Bool
  | .array _ _ _ => true
  | .struct _ => true
  | _ => false
section
variable {P : Program} {t : TypeId}
theorem td_slice {e esz : Nat} (h : tdOf P t = .slice e esz) : P.underlying t = some (.slice e) ∧ esz = P.cellsOf e := by
  unfold tdOf at h
  split at h <;> simp_all
  rw [← h.2, h.1]
theorem td_array {n e esz : Nat} (h : tdOf P t = .array n e esz) : P.underlying t = some (.array n e) ∧ esz = P.cellsOf e := by
  unfold tdOf at h
  split at h <;> simp_all
  rw [← h.2.2, h.2.1]
theorem td_struct {l : List (Nat × Nat × Nat)} (h : tdOf P t = .struct l) : ∃ fs, P.underlying t = some (.struct fs) ∧ l = fs.toList.map fun f => (f.offset, f.type, P.cellsOf f.type) := by
  unfold tdOf at h
  split at h <;> simp_all
theorem td_int {k : IntKind} (h : tdOf P t = .int k) : P.underlying t = some (.int k) := by
  unfold tdOf at h
  split at h <;> simp_all
theorem td_bool (h : tdOf P t = .bool) : P.underlying t = some .bool := by
  unfold tdOf at h
  split at h <;> simp_all
theorem td_str (h : tdOf P t = .str) : P.underlying t = some .string := by
  unfold tdOf at h
  split at h <;> simp_all
theorem td_map {k e : Nat} (h : tdOf P t = .map k e) : P.underlying t = some (.map k e) := by
  unfold tdOf at h
  split at h <;> simp_all
theorem td_agg (h : tdOf P t ≠ .other) (w : World) : (isAgg t).run P w = .ok (tdOf P t).agg w := by
  cases hd : P.underlying t with
  | none => exact absurd (by unfold tdOf; rw [hd]) h
  | some d =>
    unfold tdOf isAgg
    simp only [Sem.run_bind, run_underlying hd, Result.andThen_ok, hd]
    cases d <;> rfl
theorem info_of_size {n : Nat} (h : P.cellsOf t = n + 1) : ∃ i, P.info? t = some i ∧ i.size = n + 1 := by
  unfold Program.cellsOf at h
  cases hi : P.info? t with
  | none => rw [hi] at h; cases h
  | some i => rw [hi] at h; exact ⟨i, rfl, h⟩
theorem run_sizeOf_of {n : Nat} (h : P.cellsOf t = n + 1) (w : World) : (sizeOf t).run P w = .ok (n + 1) w := by
  obtain ⟨i, hi, hs⟩ := info_of_size h
  simp [sizeOf, typeInfo, program, hi, hs, bind, Sem.bind, Sem.run, pure]
theorem run_zeroValue_of {l : List Value} (h : (tiOf P t).zero = some l) (w : World) : ∃ v, (zeroValue t).run P w = .ok v w ∧ v.cells.toList = l := by
  unfold tiOf at h
  simp only at h
  cases hi : P.info? t with
  | none => rw [hi] at h; cases h
  | some i =>
    rw [hi] at h
    simp only [Option.bind_some] at h
    cases hz : i.zero with
    | none => rw [hz] at h; cases h
    | some v =>
      rw [hz] at h
      refine ⟨v, ?_, by simpa using h⟩
      simp [zeroValue, typeInfo, program, hi, hz, bind, Sem.bind, Sem.run, pure]
end
/- ===== slots ===== -/
abbrev Sl := List (Nat × SV)
def lk (b : Bool) (v : SV) (f : Nat → SV) (d : Nat) : SV :=
  match b with
  | true => v
  | false => f d
def look : Sl → Nat → SV
  | [], _ => .junk
  | (k, v) :: l, d => lk (k == d) v (look l) d
def cst : Value → SV
  | .agg cs => .a (cs.toList.map SV.v)
  | .tuple cs => .t (cs.toList.map SV.v)
  | x => .v x
def ev (σ : Sl) : Operand → SV
  | .tmp t => look σ t
  | .const v => cst v
  | .func f => .f (.func f) [] []
  | .global _ => .junk
def SlotsOk (β : Bs) (σ : Sl) (a : Act) : Prop := ∀ d, Ok β (look σ d) (a.tmps.getD d undef)
theorem cst_ok (β : Bs) (v : Value) : Ok β (cst v) v := by
  unfold cst
  split
  · rename_i cs; simp only [Ok]; exact ⟨cs, rfl, okL_vs _⟩
  · rename_i cs; simp only [Ok]; exact ⟨cs, rfl, okL_vs _⟩
  · simp only [Ok]
theorem ev_ok {β : Bs} {σ : Sl} {a : Act} (h : SlotsOk β σ a) (x : Operand) : Ok β (ev σ x) (a.eval x) := by
  cases x with
  | tmp t => exact h t
  | const v => exact cst_ok β v
  | global g => simp only [ev, Ok]
  | func f => simp only [ev, Ok]; exact ⟨#[], #[], rfl, by simp [OkL], by simp [OkL]⟩
theorem look_put {β : Bs} {σ : Sl} {a : Act} (h : SlotsOk β σ a) {d : Nat} {x : SV} {u : Value} (hx : Ok β x u) (hd : d < a.tmps.size) : SlotsOk β ((d, x) :: σ) (a.put (some d) u) := by
  intro d'
  simp only [look, Act.put]
  by_cases e : d = d'
  · subst e
    simp [hd, lk]
    exact hx
  · have : (d == d') = false := by simpa using e
    rw [this]
    simp only [lk]
    have h1 := h d'
    have e2 : (a.tmps.setIfInBounds d u).getD d' undef = a.tmps.getD d' undef := by
      simp [Array.getD_eq_getD_getElem?, e]
    rw [e2]
    exact h1
theorem look_mono {β β' : Bs} {σ : Sl} {a : Act} (h : SlotsOk β σ a) (hb : BLe β β') : SlotsOk β' σ a := fun d => Ok.mono hb _ _ (h d)
/-- A slot that is known better. -/
theorem look_same {β : Bs} {σ : Sl} {a : Act} (h : SlotsOk β σ a) {d : Nat} {x : SV} (hx : Ok β x (a.tmps.getD d undef)) : SlotsOk β ((d, x) :: σ) a := by
  intro d'
  simp only [look]
  by_cases e : d = d'
  · subst e; simpa [lk] using hx
  · have : (d == d') = false := by simpa using e
    rw [this]
    exact h d'
/- ===== branches ===== -/
def branch (b : Bool) (X Y : Prop) : Prop := (b = true → X) ∧ (b = false → Y)
theorem branch_true (X Y : Prop) : branch true X Y = X := by simp [branch]
theorem branch_false (X Y : Prop) : branch false X Y = Y := by simp [branch]
theorem branch_decide (p : Prop) [Decidable p] (X Y : Prop) : branch (decide p) X Y = ((p → X) ∧ (¬ p → Y)) := by simp [branch]
theorem branch_not (b : Bool) (X Y : Prop) : branch (!b) X Y = branch b Y X := by cases b <;> simp [branch]
theorem branch_beq (a b : Int) (X Y : Prop) : branch (a == b) X Y = ((a = b → X) ∧ (¬ a = b → Y)) := by simp [branch]
theorem branch_bne (a b : Int) (X Y : Prop) : branch (a != b) X Y = ((a = b → Y) ∧ (¬ a = b → X)) := by
  by_cases h : a = b <;> simp [branch, h]
/- ===== ints ===== -/
def inr (k : IntKind) (z : Int) : Prop :=
  match k with
  | .i8 => -128 ≤ z ∧ z ≤ 127
  | .i16 => -32768 ≤ z ∧ z ≤ 32767
  | .i32 => -2147483648 ≤ z ∧ z ≤ 2147483647
  | .i64 => -9223372036854775808 ≤ z ∧ z ≤ 9223372036854775807
  | .u8 => 0 ≤ z ∧ z ≤ 255
  | .u16 => 0 ≤ z ∧ z ≤ 65535
  | .u32 => 0 ≤ z ∧ z ≤ 4294967295
  | .u64 => 0 ≤ z ∧ z ≤ 18446744073709551615
theorem wrap_inr {k : IntKind} {z : Int} (h : inr k z) : k.wrap z = z := by
  cases k <;> simp only [inr] at h
  · exact IntWalk.i8_in z h
  · exact IntWalk.i16_in z h
  · exact IntWalk.i32_in z h
  · exact IntWalk.i64_in z h
  · exact IntWalk.u8_in z h
  · exact IntWalk.u16_in z h
  · exact IntWalk.u32_in z h
  · exact IntWalk.u64_in z h
/-- A result that may wrap; where 'nw' says so, it must not. -/
def arK (nw : Bool) (k : IntKind) (z : Int) (K : SV → Prop) : Prop :=
  match nw with
  | true => inr k z ∧ K (.v (.int k z))
  | false => K (.v (.int k (k.wrap z)))
/- ===== the rules of single operations: values alone ===== -/
/-- 's', run in any of the worlds, gives what 'r' stands for. -/
def Gives (P : Program) (β : Bs) (C : World → Prop) (K : SV → Prop) (s : Sem Value) : Prop := ∃ r z, K r ∧ Ok β r z ∧ ∀ w, C w → s.run P w = .ok z w
theorem gives_pure {P : Program} {β : Bs} {C : World → Prop} {K : SV → Prop} {r : SV} {z : Value} (hK : K r) (hz : Ok β r z) : Gives P β C K (pure z) := ⟨r, z, hK, hz, fun _ _ => rfl⟩
theorem gives_v {P : Program} {β : Bs} {C : World → Prop} {K : SV → Prop} {z : Value} (hK : K (.v z)) : Gives P β C K (pure z) := ⟨_, z, hK, by simp only [Ok], fun _ _ => rfl⟩
theorem arK_gives {P : Program} {β : Bs} {C : World → Prop} {nw : Bool} {k : IntKind} {z : Int} {K : SV → Prop} (h : arK nw k z K) : Gives P β C K (pure (.int k (k.wrap z))) := by
  unfold arK at h
  cases nw with
  | true => obtain ⟨h1, h2⟩ := h; rw [wrap_inr h1]; exact gives_v h2
  | false => exact gives_v h
def eqS : SV → SV → Option Bool
  | .v (.int _ m), .v (.int _ n) => some (m == n)
  | .v (.bool m), .v (.bool n) => some (m == n)
  | .v (.string m), .v (.string n) => some (m.toList == n.toList)
  | _, _ => none
def intK (nw : Bool) (op : BinOp) (k : IntKind) (m n : Int) (K : SV → Prop) : Prop :=
  match op with
  | .add => arK nw k (m + n) K
  | .sub => arK nw k (m - n) K
  | .mul => arK nw k (m * n) K
  | .quo => ¬ n = 0 ∧ arK nw k (m.tdiv n) K
  | .rem => ¬ n = 0 ∧ K (.v (.int k (m.tmod n)))
  | .and => K (.v (.int k (k.wrap ((BitVec.ofInt k.bits m &&& BitVec.ofInt k.bits n).toNat : Int))))
  | .or => K (.v (.int k (k.wrap ((BitVec.ofInt k.bits m ||| BitVec.ofInt k.bits n).toNat : Int))))
  | .xor => K (.v (.int k (k.wrap ((BitVec.ofInt k.bits m ^^^ BitVec.ofInt k.bits n).toNat : Int))))
  | .andNot => K (.v (.int k (k.wrap ((BitVec.ofInt k.bits m &&& ~~~ BitVec.ofInt k.bits n).toNat : Int))))
  | .eql => K (.v (.bool (m == n)))
  | .neq => K (.v (.bool (m != n)))
  | .lss => K (.v (.bool (decide (m < n))))
  | .leq => K (.v (.bool (decide (m ≤ n))))
  | .gtr => K (.v (.bool (decide (n < m))))
  | .geq => K (.v (.bool (decide (n ≤ m))))
  | _ => False
def shK (nw : Bool) (op : BinOp) (k : IntKind) (m n : Int) (K : SV → Prop) : Prop :=
  match op with
  | .shl => 0 ≤ n ∧ arK nw k (m * 2 ^ (min n.toNat k.bits)) K
  | .shr => 0 ≤ n ∧ K (.v (.int k (m.fdiv (2 ^ (min n.toNat k.bits)))))
  | _ => False
def strK (op : BinOp) (x y : ByteArray) (K : SV → Prop) : Prop :=
  match op with
  | .add => x.size + y.size ≤ 9223372036854775807 ∧ K (.v (.string (x ++ y)))
  | .eql => K (.v (.bool (x.toList == y.toList)))
  | .neq => K (.v (.bool (!(x.toList == y.toList))))
  | .lss => K (.v (.bool (Op.bytesLess x.toList y.toList)))
  | .leq => K (.v (.bool (Op.bytesLess x.toList y.toList || x.toList == y.toList)))
  | .gtr => K (.v (.bool (!(Op.bytesLess x.toList y.toList || x.toList == y.toList))))
  | .geq => K (.v (.bool (!(Op.bytesLess x.toList y.toList))))
  | _ => False
/-- Structs that are compared cell by cell. -/
def eqLB : List Value → List Value → Bool
  | .int _ m :: l, .int _ n :: l' => m == n && eqLB l l'
  | .bool m :: l, .bool n :: l' => m == n && eqLB l l'
  | .string m :: l, .string n :: l' => m.toList == n.toList && eqLB l l'
  | _, _ => true
def AggEq (P : Program) (t : TypeId) (xs ys : List Value) : Prop := ∀ (op : BinOp) (x y : Operand) (w : World),
  (eqGuard op t x y (.agg xs.toArray) (.agg ys.toArray)).run P w = .ok () w ∧ (Op.equal t (.agg xs.toArray) (.agg ys.toArray)).run P w = .ok (eqLB xs ys) w
def grounds : List SV → Option (List Value)
  | [] => some []
  | .v x :: l => (grounds l).map (x :: ·)
  | _ => none
def aggK (P : Program) (t : TypeId) (neg : Bool) (gx gy : Option (List Value)) (K : SV → Prop) : Prop :=
  match gx, gy with
  | some xs, some ys => AggEq P t xs ys ∧ K (.v (.bool (bif neg then !(eqLB xs ys) else eqLB xs ys)))
  | _, _ => False
/-- '==' and '!=' on other values. -/
def eqK (P : Program) (td : TD) (t : TypeId) (neg : Bool) (x y : SV) (K : SV → Prop) : Prop :=
  match td, x, y with
  | .bool, .v (.bool m), .v (.bool n) => K (.v (.bool (bif neg then m != n else m == n)))
  | .slice _ _, .s _ _ _ _ cap _, .v (.slice none _ _) => ∀ b : Bool, (0 < cap → b = false) → K (.v (.bool (bif neg then !b else b)))
  | .slice _ _, .v (.slice none _ _), .v (.slice none _ _) => K (.v (.bool (!neg)))
  | .struct _, .a l, .a l' => aggK P t neg (grounds l) (grounds l') K
  | .array _ _ _, .a l, .a l' => aggK P t neg (grounds l) (grounds l') K
  | _, _, _ => False
def binK (P : Program) (nw : Bool) (op : BinOp) (td : TD) (t : TypeId) (x y : SV) (K : SV → Prop) : Prop :=
  match op, x, y with
  | .shl, .v (.int k m), .v (.int _ n) => shK nw .shl k m n K
  | .shr, .v (.int k m), .v (.int _ n) => shK nw .shr k m n K
  | op, .v (.int k m), .v (.int k' n) => k = k' ∧ intK nw op k m n K
  | op, .v (.string m), .v (.string n) => strK op m n K
  | .eql, x, y => eqK P td t false x y K
  | .neq, x, y => eqK P td t true x y K
  | _, _, _ => False
section
variable {P : Program} {β : Bs} {C : World → Prop} {K : SV → Prop}
theorem ok_v {x u : Value} (h : Ok β (.v x) u) : u = x := by simpa only [Ok] using h
theorem intK_gives {nw : Bool} {op : BinOp} {k : IntKind} {m n : Int} (h : intK nw op k m n K) (ho : op ≠ .shl) (ho' : op ≠ .shr) (t : TypeId) : Gives P β C K (binOp op t (.int k m) (.int k n)) := by
  cases op <;> simp only [intK] at h <;> simp only [binOp, ne_eq, not_true_eq_false, if_false] <;>
    first
    | exact absurd rfl ho
    | exact absurd rfl ho'
    | (simp only [Op.intArith]; exact arK_gives h)
    | (simp only [Op.intDiv, if_neg h.1]; exact arK_gives h.2)
    | (simp only [Op.intDiv, if_neg h.1]; exact gives_v h.2)
    | (simp only [Op.intBits]; exact gives_v h)
    | (simp only [Op.intCmp]; exact gives_v h)
theorem shK_gives {nw : Bool} {op : BinOp} {k k' : IntKind} {m n : Int} (h : shK nw op k m n K) : Gives P β C K (Op.shift op k m k' n) := by
  cases op <;> simp only [shK] at h
  · obtain ⟨h1, h2⟩ := h
    simp only [Op.shift, if_neg (show ¬ n < 0 by omega)]
    exact arK_gives h2
  · obtain ⟨h1, h2⟩ := h
    simp only [Op.shift, if_neg (show ¬ n < 0 by omega)]
    exact gives_v h2
theorem strK_gives {op : BinOp} {x y : ByteArray} (h : strK op x y K) : Gives P β C K (Op.stringOp op x y) := by
  cases op <;> simp only [strK] at h <;> simp only [Op.stringOp] <;>
    first
    | exact gives_v h
    | (have e : ¬ (((x.size + y.size : Nat) : Int) > IntKind.i64.max) := by
         have : IntKind.i64.max = 9223372036854775807 := rfl
         omega
       rw [if_neg e]; exact gives_v h.2)
theorem grounds_ok : ∀ {l : List SV} {xs us : List Value}, grounds l = some xs → OkL β l us → us = xs
  | [], xs, us, h, ho => by simp only [grounds] at h; simp only [OkL] at ho; simp_all
  | .v x :: l, xs, us, h, ho => by
    simp only [grounds] at h
    simp only [OkL, Ok] at ho
    obtain ⟨u, us', rfl, rfl, h3⟩ := ho
    cases hg : grounds l with
    | none => rw [hg] at h; cases h
    | some ys =>
      rw [hg] at h
      have := grounds_ok hg h3
      simp at h
      rw [← h, this]
  | .p _ _ _ :: _, _, _, h, _ => by simp [grounds] at h
  | .e _ _ _ _ _ :: _, _, _, h, _ => by simp [grounds] at h
  | .s _ _ _ _ _ _ :: _, _, _, h, _ => by simp [grounds] at h
  | .f _ _ _ :: _, _, _, h, _ => by simp [grounds] at h
  | .a _ :: _, _, _, h, _ => by simp [grounds] at h
  | .t _ :: _, _, _, h, _ => by simp [grounds] at h
  | .und :: _, _, _, h, _ => by simp [grounds] at h
  | .junk :: _, _, _, h, _ => by simp [grounds] at h
/-- A test and what it hands on, with the guard ahead of it. -/
def GivesE (P : Program) (β : Bs) (C : World → Prop) (K : SV → Prop) (g : Sem Unit) (s : Sem Value) : Prop := ∃ r z, K r ∧ Ok β r z ∧ ∀ w, C w → g.run P w = .ok () w ∧ s.run P w = .ok z w
theorem gives_guard {g : Sem Unit} {s : Sem Value} (h : Gives P β C K s) (hg : ∀ w, g.run P w = .ok () w) : GivesE P β C K g s := by
  obtain ⟨r, z, h1, h2, h3⟩ := h
  exact ⟨r, z, h1, h2, fun w hw => ⟨hg w, h3 w hw⟩⟩
theorem eqGuard_other {op : BinOp} {t : TypeId} {x y : Operand} {a b : Value} (h1 : ∀ cs ds, a = .agg cs → b = .agg ds → False) (h2 : a = .nilIface → b = .nilIface → False) (w : World) : (eqGuard op t x y a b).run P w = .ok () w := by
  cases op <;> first | rfl | skip
  all_goals
    unfold eqGuard
    cases a <;> cases b <;> first | rfl | exact (h1 _ _ rfl rfl).elim | exact (h2 rfl rfl).elim
theorem aggK_gives {t : TypeId} {neg : Bool} {l l' : List SV} {us vs : Array Value} {x y : Operand} (h : aggK P t neg (grounds l) (grounds l') K) (hu : OkL β l us.toList) (hv : OkL β l' vs.toList) :
    GivesE P β C K (eqGuard (bif neg then .neq else .eql) t x y (.agg us) (.agg vs)) (binOp (bif neg then .neq else .eql) t (.agg us) (.agg vs)) := by
  unfold aggK at h
  split at h
  · rename_i xs ys hx hy
    have e1 := grounds_ok hx hu
    have e2 := grounds_ok hy hv
    have e1' : us = xs.toArray := by rw [← e1]
    have e2' : vs = ys.toArray := by rw [← e2]
    subst e1' e2'
    refine ⟨_, _, h.2, by simp only [Ok]; rfl, fun w _ => ?_⟩
    obtain ⟨h1, h2⟩ := h.1 (bif neg then .neq else .eql) x y w
    refine ⟨h1, ?_⟩
    cases neg with
    | true => simp only [cond_true, binOp, Sem.run_bind, h2, Result.andThen_ok]; rfl
    | false => simp only [cond_false, binOp, Sem.run_bind, h2, Result.andThen_ok]; rfl
  · exact h.elim
theorem run_equal_bool {t : TypeId} (ht : P.underlying t = some .bool) (a b : Bool) (w : World) : (Op.equal t (.bool a) (.bool b)).run P w = .ok (a == b) w := run_equalIn_bool' w 9999 t a b ht
theorem run_equal_slice_nil {t e : TypeId} (ht : P.underlying t = some (.slice e)) (A : Option Addr) (n m p q : Nat) (w : World) : (Op.equal t (.slice A n m) (.slice none p q)).run P w = .ok A.isNone w := by
  have : ∀ d, (Op.equalIn (d + 1) t (.slice A n m) (.slice none p q)).run P w = .ok A.isNone w := fun d => by
    cases A <;> simp [Op.equalIn, run_underlying ht]
  exact this 9999
theorem eqK_gives {t : TypeId} {neg : Bool} {x y : SV} {u v : Value} {ox oy : Operand} (h : eqK P (tdOf P t) t neg x y K) (hu : Ok β x u) (hv : Ok β y v) :
    GivesE P β C K (eqGuard (bif neg then .neq else .eql) t ox oy u v) (binOp (bif neg then .neq else .eql) t u v) := by
  unfold eqK at h
  split at h
  · rename_i m n htd
    have e1 := ok_v hu
    have e2 := ok_v hv
    subst e1 e2
    refine ⟨_, _, h, by simp only [Ok]; rfl, fun w _ => ⟨?_, ?_⟩⟩
    · cases neg <;> exact eqGuard_other (by intros; contradiction) (by intros; contradiction) w
    · have := run_equal_bool (td_bool htd) m n w
      cases neg
      · simp only [cond_false, binOp, Sem.run_bind, this, Result.andThen_ok]; rfl
      · simp only [cond_true, binOp, Sem.run_bind, this, Result.andThen_ok]; cases m <;> cases n <;> rfl
  · rename_i j i o len cap sz p q htd
    have e2 := ok_v hv
    subst e2
    simp only [Ok] at hu
    obtain ⟨A, rfl, _, hA⟩ := hu
    have hb : 0 < cap → A.isNone = false := fun hc => by obtain ⟨g, b, _, h2⟩ := hA hc; rw [h2]; rfl
    refine ⟨_, _, h A.isNone hb, by simp only [Ok]; rfl, fun w _ => ⟨?_, ?_⟩⟩
    · cases neg <;> exact eqGuard_other (by intros; contradiction) (by intros; contradiction) w
    · have := run_equal_slice_nil (td_slice htd).1 A len cap p q w
      cases neg
      · simp only [cond_false, binOp, Sem.run_bind, this, Result.andThen_ok]; rfl
      · simp only [cond_true, binOp, Sem.run_bind, this, Result.andThen_ok]; rfl
  · rename_i a b p q htd
    have e1 := ok_v hu
    have e2 := ok_v hv
    subst e1 e2
    refine ⟨_, _, h, by simp only [Ok]; rfl, fun w _ => ⟨?_, ?_⟩⟩
    · cases neg <;> exact eqGuard_other (by intros; contradiction) (by intros; contradiction) w
    · have := run_equal_slice_nil (td_slice htd).1 none a b p q w
      cases neg
      · simp only [cond_false, binOp, Sem.run_bind, this, Result.andThen_ok]; rfl
      · simp only [cond_true, binOp, Sem.run_bind, this, Result.andThen_ok]; rfl
  · simp only [Ok] at hu hv
    obtain ⟨us, rfl, hu⟩ := hu
    obtain ⟨vs, rfl, hv⟩ := hv
    exact aggK_gives h hu hv
  · simp only [Ok] at hu hv
    obtain ⟨us, rfl, hu⟩ := hu
    obtain ⟨vs, rfl, hv⟩ := hv
    exact aggK_gives h hu hv
  · exact h.elim
theorem binK_gives {nw : Bool} {op : BinOp} {t : TypeId} {x y : SV} {u v : Value} {ox oy : Operand} (h : binK P nw op (tdOf P t) t x y K) (hu : Ok β x u) (hv : Ok β y v) :
    GivesE P β C K (eqGuard op t ox oy u v) (binOp op t u v) := by
  unfold binK at h
  split at h
  · rename_i k m k2 n
    have e1 := ok_v hu
    have e2 := ok_v hv
    subst e1 e2
    exact gives_guard (shK_gives (k' := k2) h) (eqGuard_other (by intros; contradiction) (by intros; contradiction))
  · rename_i k m k2 n
    have e1 := ok_v hu
    have e2 := ok_v hv
    subst e1 e2
    exact gives_guard (shK_gives (k' := k2) h) (eqGuard_other (by intros; contradiction) (by intros; contradiction))
  · rename_i k m k' n h1 h2
    have e1 := ok_v hu
    have e2 := ok_v hv
    subst e1 e2
    obtain ⟨rfl, h⟩ := h
    exact gives_guard (intK_gives h (fun e => by subst e; exact h1 rfl) (fun e => by subst e; exact h2 rfl) t) (eqGuard_other (by intros; contradiction) (by intros; contradiction))
  · have e1 := ok_v hu
    have e2 := ok_v hv
    subst e1 e2
    refine gives_guard ?_ (eqGuard_other (by intros; contradiction) (by intros; contradiction))
    have := strK_gives (P := P) (β := β) (C := C) h
    cases op <;> exact this
  · exact eqK_gives (neg := false) h hu hv
  · exact eqK_gives (neg := true) h hu hv
  · exact h.elim
end
/- ===== more rules of values ===== -/
def brV (b : Bool) (x y : SV) (K : SV → Prop) : Prop :=
  match x, y with
  | .v (.bool m), .v (.bool n) => K (.v (.bool (bif b then m else n)))
  | .v (.int k m), .v (.int k' n) => k = k' ∧ K (.v (.int k (bif b then m else n)))
  | x, y => branch b (K x) (K y)
def pickK (c x y : SV) (K : SV → Prop) : Prop :=
  match c with
  | .v (.bool b) => brV b x y K
  | _ => False
def nilK (x : SV) (K : SV → Prop) : Prop :=
  match x with
  | .p j i c => K (.p j i c)
  | .e j i k c sz => K (.e j i k c sz)
  | .f (.func g) fs cs => K (.f (.func g) fs cs)
  | _ => False
def unK (nw : Bool) (op : UnOp) (x : SV) (K : SV → Prop) : Prop :=
  match op, x with
  | .neg, .v (.int k n) => arK nw k (0 - n) K
  | .not, .v (.bool b) => K (.v (.bool (!b)))
  | .xor, .v (.int k n) => K (.v (.int k (k.wrap ((BitVec.ofInt k.bits (if k.signed then -1 else k.max) ^^^ BitVec.ofInt k.bits n).toNat : Int))))
  | _, _ => False
def convK (nw : Bool) (s d : TD) (x : SV) (K : SV → Prop) : Prop :=
  match s, d, x with
  | .int _, .int k, .v (.int _ n) => arK nw k n K
  | .str, .str, .v (.string b) => K (.v (.string b))
  | _, _, _ => False
def nth {α : Type} : List α → Nat → Option α
  | [], _ => none
  | x :: _, 0 => some x
  | _ :: l, n + 1 => nth l n
theorem nth_eq {α : Type} : ∀ (l : List α) (n : Nat), nth l n = l[n]?
  | [], _ => by simp [nth]
  | x :: _, 0 => by simp [nth]
  | _ :: l, n + 1 => by simp [nth, nth_eq l n]
def fldK (fd : Option (Nat × Nat × Nat)) (x : SV) (K : SV → Prop) : Prop :=
  match fd, x with
  | some (off, _, _ + 1), .p j i c => K (.p j i (c + off))
  | some (off, _, _ + 1), .e j i k c sz => K (.e j i k (c + off) sz)
  | _, _ => False
def TD.fd (td : TD) (f : Nat) : Option (Nat × Nat × Nat) :=
  match td with
  | .struct fs => nth fs f
  | _ => none
/-- All m cells behind the first 'off' ones. -/
def sub (l : List SV) (off m : Nat) : List SV := (l.drop off).take m
def lenIs : List SV → Nat → Bool
  | [], 0 => true
  | _ :: l, n + 1 => lenIs l n
  | _, _ => false
theorem lenIs_eq : ∀ (l : List SV) (n : Nat), lenIs l n = true → l.length = n
  | [], 0, _ => rfl
  | _ :: l, n + 1, h => by simp only [lenIs] at h; simp [lenIs_eq l n h]
  | [], n + 1, h => by simp [lenIs] at h
  | _ :: _, 0, h => by simp [lenIs] at h
/-- A value of n cells. -/
def oneK (agg : Bool) (n : Nat) (l : List SV) (K : SV → Prop) : Prop :=
  match agg, l with
  | false, [x] => n = 1 ∧ K x
  | true, l => lenIs l n = true ∧ K (.a l)
  | _, _ => False
def fieldK (P : Program) (fd : Option (Nat × Nat × Nat)) (x : SV) (K : SV → Prop) : Prop :=
  match fd, x with
  | some (off, t, sz + 1), .a l => (tiOf P t).td ≠ .other ∧ oneK (tiOf P t).td.agg (sz + 1) (sub l off (sz + 1)) K
  | _, _ => False
def arrK (z : Int) (K : Nat → Prop) : Nat → Prop
  | 0 => True
  | n + 1 => arrK z K n ∧ (z = (n : Int) → K n)
def arrP (j i c esz : Nat) (K : SV → Prop) (m : Nat) : Prop := K (.p j i (c + m * esz))
def arrE (j i k c sz esz : Nat) (K : SV → Prop) (m : Nat) : Prop := K (.e j i k (c + m * esz) sz)
def ixK (td : TD) (x y : SV) (K : SV → Prop) : Prop :=
  match td, x, y with
  | .slice _ (e + 1), .s j i o len _ sz, .v (.int _ z) => 0 ≤ z ∧ z < (len : Int) ∧ sz = e + 1 ∧ K (.e j i (o + z.toNat) 0 sz)
  | .array n _ (e + 1), .p j i c, .v (.int _ z) => 0 ≤ z ∧ z < (n : Int) ∧ arrK z (arrP j i c (e + 1) K) n
  | .array n _ (e + 1), .e j i k c sz, .v (.int _ z) => 0 ≤ z ∧ z < (n : Int) ∧ arrK z (arrE j i k c sz (e + 1) K) n
  | _, _, _ => False
def arrV (agg : Bool) (l : List SV) (esz : Nat) (K : SV → Prop) (m : Nat) : Prop := oneK agg esz (sub l (m * esz) esz) K
def indexK (P : Program) (td : TD) (x y : SV) (K : SV → Prop) : Prop :=
  match td, x, y with
  | .array n t (e + 1), .a l, .v (.int _ z) => 0 ≤ z ∧ z < (n : Int) ∧ arrK z (arrV (tiOf P t).td.agg l (e + 1) K) n
  | .str, .v (.string s), .v (.int _ z) => 0 ≤ z ∧ z < (s.size : Int) ∧ ∀ b, s[z.toNat]? = some b → K (.v (.int .u8 (b.toNat : Int)))
  | _, _, _ => False
def optK {α : Type} (x : Option α) (K : α → Prop) : Prop :=
  match x with
  | some y => K y
  | none => False
theorem optK_iff {α : Type} {x : Option α} {K : α → Prop} (h : optK x K) : ∃ y, x = some y ∧ K y := by
  cases x with
  | none => exact h.elim
  | some y => exact ⟨y, rfl, h⟩
def extK (x : SV) (i : Nat) (K : SV → Prop) : Prop :=
  match x with
  | .t l => optK (nth l i) K
  | _ => False
/-- The bounds of a slice expression. -/
def boundK (x : Option SV) (dflt y : Nat) (K : Nat → Prop) : Prop :=
  match x with
  | none => K dflt
  | some (.v (.int _ z)) => 0 ≤ z ∧ z ≤ (y : Int) ∧ K z.toNat
  | some _ => False
def sl3 (j i o sz : Nat) (K : SV → Prop) (m h l : Nat) : Prop := K (.s j i (o + l) (h - l) (m - l) sz)
def sl2 (j i o sz : Nat) (lo : Option SV) (K : SV → Prop) (m h : Nat) : Prop := boundK lo 0 h (sl3 j i o sz K m h)
def sl1 (j i o len sz : Nat) (lo hi : Option SV) (K : SV → Prop) (m : Nat) : Prop := boundK hi len m (sl2 j i o sz lo K m)
def st2 (s : ByteArray) (K : SV → Prop) (h l : Nat) : Prop := K (.v (.string (s.extract l h)))
def st1 (s : ByteArray) (lo : Option SV) (K : SV → Prop) (h : Nat) : Prop := boundK lo 0 h (st2 s K h)
def nl2 (K : SV → Prop) (_ : Nat) : Prop := K (.v (.slice none 0 0))
def nl1 (lo : Option SV) (K : SV → Prop) (h : Nat) : Prop := boundK lo 0 h (nl2 K)
def slK (td : TD) (x : SV) (lo hi mx : Option SV) (K : SV → Prop) : Prop :=
  match td, x, mx with
  | .slice _ (e + 1), .s j i o len cap sz, none => sz = e + 1 ∧ sl1 j i o len sz lo hi K cap
  | .slice _ (e + 1), .s j i o len cap sz, some mx => sz = e + 1 ∧ hi.isSome = true ∧ boundK (some mx) cap cap (sl1 j i o len sz lo hi K)
  | .str, .v (.string s), none => boundK hi s.size s.size (st1 s lo K)
  | .slice _ (_ + 1), .v (.slice none 0 0), none => boundK hi 0 0 (nl1 lo K)
  | _, _, _ => False
def lenK (td : TD) (x : SV) (K : SV → Prop) : Prop :=
  match td, x with
  | .str, .v (.string s) => K (.v (.int .i64 (s.size : Int)))
  | .slice _ _, .s _ _ _ len _ _ => K (.v (.int .i64 (len : Int)))
  | .slice _ _, .v (.slice _ n _) => K (.v (.int .i64 (n : Int)))
  | .array n _ _, _ => K (.v (.int .i64 (n : Int)))
  | _, _ => False
def capK (td : TD) (x : SV) (K : SV → Prop) : Prop :=
  match td, x with
  | .slice _ _, .s _ _ _ _ cap _ => K (.v (.int .i64 (cap : Int)))
  | .slice _ _, .v (.slice _ _ c) => K (.v (.int .i64 (c : Int)))
  | _, _ => False
def minK (l : List SV) (K : SV → Prop) : Prop :=
  match l with
  | [.v (.int k m), .v (.int _ n)] => K (.v (.int k (min m n)))
  | [.v (.int k m), .v (.int _ n), .v (.int _ p)] => K (.v (.int k (min (min m n) p)))
  | _ => False
def maxK (l : List SV) (K : SV → Prop) : Prop :=
  match l with
  | [.v (.int k m), .v (.int _ n)] => K (.v (.int k (max m n)))
  | [.v (.int k m), .v (.int _ n), .v (.int _ p)] => K (.v (.int k (max (max m n) p)))
  | _ => False
section
variable {P : Program} {β : Bs} {C : World → Prop} {K : SV → Prop}
theorem brV_gives {b : Bool} {x y : SV} {u v : Value} (h : brV b x y K) (hu : Ok β x u) (hv : Ok β y v) : ∃ r, K r ∧ Ok β r (if b then u else v) := by
  unfold brV at h
  split at h
  · have e1 := ok_v hu
    have e2 := ok_v hv
    subst e1 e2
    exact ⟨_, h, by cases b <;> simp [Ok]⟩
  · have e1 := ok_v hu
    have e2 := ok_v hv
    subst e1 e2
    obtain ⟨rfl, h⟩ := h
    exact ⟨_, h, by cases b <;> simp [Ok]⟩
  · cases b with
    | true => exact ⟨x, h.1 rfl, by simpa using hu⟩
    | false => exact ⟨y, h.2 rfl, by simpa using hv⟩
theorem pickK_gives {c x y : SV} {b u v : Value} (h : pickK c x y K) (hc : Ok β c b) (hu : Ok β x u) (hv : Ok β y v) : Gives P β C K (do pure (if ← asBool b then u else v)) := by
  unfold pickK at h
  split at h
  · have e := ok_v hc; subst e
    obtain ⟨r, h1, h2⟩ := brV_gives h hu hv
    exact gives_pure h1 h2
  · exact h.elim
theorem unK_gives {nw : Bool} {op : UnOp} {x : SV} {u : Value} (h : unK nw op x K) (hu : Ok β x u) : Gives P β C K (Op.unary op u) := by
  unfold unK at h
  split at h
  · have e := ok_v hu; subst e; exact arK_gives h
  · have e := ok_v hu; subst e; exact gives_v h
  · have e := ok_v hu; subst e; exact gives_v h
  · exact h.elim
theorem convK_gives {nw : Bool} {s d : TypeId} {x : SV} {u : Value} (h : convK nw (tdOf P s) (tdOf P d) x K) (hu : Ok β x u) : Gives P β C K (convert s d u) := by
  unfold convK at h
  split at h
  · rename_i k1 k n hs hd
    have e := ok_v hu; subst e
    obtain ⟨r, z, h1, h2, h3⟩ := arK_gives (P := P) (β := β) (C := C) h
    refine ⟨r, z, h1, h2, fun w hw => ?_⟩
    unfold convert
    simp only [Sem.run_bind, run_underlying (td_int hs), run_underlying (td_int hd), Result.andThen_ok]
    exact h3 w hw
  · rename_i b hs hd
    have e := ok_v hu; subst e
    refine ⟨_, _, h, by simp only [Ok]; rfl, fun w hw => ?_⟩
    unfold convert
    simp only [Sem.run_bind, run_underlying (td_str hs), run_underlying (td_str hd), Result.andThen_ok]
    rfl
  · exact h.elim
theorem add_none (g o n : Nat) : (⟨g, o, none⟩ : Addr).add n = ⟨g, o + n, none⟩ := by
  unfold Addr.add
  split <;> simp_all
theorem fldK_gives {s : TypeId} {f : Nat} {x : SV} {u : Value} (h : fldK ((tdOf P s).fd f) x K) (hu : Ok β x u) : Gives P β C K (Instr.fieldAt s u f) := by
  have key : ∀ off ty sz, (tdOf P s).fd f = some (off, ty, sz + 1) → ∀ g b w, (Instr.fieldAt s (.pointer (some ⟨g, b, none⟩)) f).run P w = .ok (.pointer (some ⟨g, b + off, none⟩)) w := by
    intro off ty sz he g b w
    unfold TD.fd at he
    split at he
    · rename_i l hl
      obtain ⟨fs, h1, h2⟩ := td_struct hl
      rw [nth_eq, h2] at he
      simp only [List.getElem?_map, Option.map_eq_some_iff, Array.getElem?_toList] at he
      obtain ⟨fd, h3, h4⟩ := he
      obtain ⟨e1, e2, e3⟩ : fd.offset = off ∧ fd.type = ty ∧ P.cellsOf fd.type = sz + 1 := by simpa using h4
      unfold Instr.fieldAt
      simp only [Sem.run_bind, run_underlying h1, Result.andThen_ok, h3]
      simp only [Instr.sureAddr, fieldPlace, Sem.run_bind, run_sizeOf_of e3, Result.andThen_ok, Sem.run_pure, Nat.add_one_ne_zero, if_false, add_none, e1]
    · cases he
  unfold fldK at h
  split at h
  · rename_i off ty sz j i c he
    simp only [Ok] at hu
    obtain ⟨g, b, h1, rfl⟩ := hu
    refine ⟨_, _, h, ?_, fun w _ => key _ _ _ he g _ w⟩
    simp only [Ok]
    exact ⟨g, b, h1, by rw [Nat.add_assoc]⟩
  · rename_i off ty sz j i k c z he
    simp only [Ok] at hu
    obtain ⟨g, b, h1, rfl⟩ := hu
    refine ⟨_, _, h, ?_, fun w _ => key _ _ _ he g _ w⟩
    simp only [Ok]
    exact ⟨g, b, h1, by rw [Nat.add_assoc, Nat.add_assoc]⟩
  · exact h.elim
theorem okL_drop : ∀ {l : List SV} {us : List Value}, OkL β l us → ∀ n, OkL β (l.drop n) (us.drop n)
  | _, _, h, 0 => by simpa using h
  | [], us, h, n + 1 => by simp only [OkL] at h; subst h; simp [OkL]
  | x :: l, us, h, n + 1 => by
    simp only [OkL] at h
    obtain ⟨u, us', rfl, _, h3⟩ := h
    simpa using okL_drop h3 n
theorem okL_take : ∀ {l : List SV} {us : List Value}, OkL β l us → ∀ n, OkL β (l.take n) (us.take n)
  | _, _, h, 0 => by simp [OkL]
  | [], us, h, n + 1 => by simp only [OkL] at h; subst h; simp [OkL]
  | x :: l, us, h, n + 1 => by
    simp only [OkL] at h
    obtain ⟨u, us', rfl, h2, h3⟩ := h
    simp only [List.take_succ_cons, OkL]
    exact ⟨u, us'.take n, rfl, h2, okL_take h3 n⟩
/-- A part of a value. -/
theorem oneK_part {t : TypeId} {l : List SV} {cs : Array Value} {off n : Nat} (h : oneK (tdOf P t).agg (n + 1) (sub l off (n + 1)) K) (hn : P.cellsOf t = n + 1) (ht : tdOf P t ≠ .other) (hu : OkL β l cs.toList) : Gives P β C K (part t cs off) := by
  have hs := okL_take (okL_drop hu off) (n + 1)
  unfold oneK at h
  unfold part
  split at h
  · rename_i x hagg hx
    have hs' : OkL β [x] ((cs.toList.drop off).take (n + 1)) := by rw [← hx]; exact hs
    simp only [OkL] at hs'
    obtain ⟨u, us', h1, h2, rfl⟩ := hs'
    have hn0 : n = 0 := by simpa using h.1
    subst hn0
    have hu : cs[off]? = some u := by
      have : ((cs.toList.drop off).take 1)[0]? = some u := by rw [h1]; rfl
      simpa using this
    refine ⟨x, u, h.2, h2, fun w _ => ?_⟩
    simp only [Sem.run_bind, td_agg ht, hagg, Result.andThen_ok, Bool.false_eq_true, if_false, hu, Sem.run_pure]
  · rename_i hagg
    refine ⟨_, .agg (cs.extract off (off + (n + 1))), h.2, ?_, fun w _ => ?_⟩
    · simp only [Ok]
      exact ⟨_, rfl, by simpa [sub, Nat.add_sub_cancel_left] using hs⟩
    · simp only [Sem.run_bind, td_agg ht, hagg, Result.andThen_ok, if_true, run_sizeOf_of hn, Sem.run_pure]
  · exact h.elim
end
section
variable {P : Program} {β : Bs} {C : World → Prop} {K : SV → Prop}
theorem arrK_get {z : Int} {K : Nat → Prop} : ∀ {n : Nat}, arrK z K n → 0 ≤ z → z < (n : Int) → K z.toNat
  | 0, _, h0, h1 => by omega
  | n + 1, h, h0, h1 => by
    simp only [arrK] at h
    by_cases e : z = (n : Int)
    · have := h.2 e
      rw [e]
      simpa using this
    · exact arrK_get h.1 h0 (by omega)
theorem ixK_gives {t : TypeId} {x y : SV} {u v : Value} (h : ixK (tdOf P t) x y K) (hu : Ok β x u) (hv : Ok β y v) : Gives P β C K (Instr.indexAt t u v) := by
  unfold ixK at h
  split at h
  · rename_i a e j i o len cap sz k z htd
    have e2 := ok_v hv; subst e2
    simp only [Ok] at hu
    obtain ⟨A, rfl, hlc, hA⟩ := hu
    obtain ⟨h0, h1, h2, hK⟩ := h
    obtain ⟨ht, hs⟩ := td_slice htd
    obtain ⟨g, b, hb, rfl⟩ := hA (by omega)
    refine ⟨_, .pointer (some ⟨g, b + ((o + z.toNat) * sz + 0), none⟩), hK, ?_, fun w _ => ?_⟩
    · simp only [Ok]
      exact ⟨g, b, hb, rfl⟩
    · unfold Instr.indexAt
      simp only [asIntOf, Sem.run_bind, Sem.run_pure, run_underlying ht, Result.andThen_ok]
      rw [if_pos ⟨h0, h1⟩]
      simp only [Sem.run_bind, run_sizeOf_of hs.symm, Result.andThen_ok, Sem.run_pure, add_none, h2, Nat.add_mul, Nat.add_zero, Nat.add_assoc]
  · rename_i n a e j i c k z htd
    have e2 := ok_v hv; subst e2
    simp only [Ok] at hu
    obtain ⟨g, b, hb, rfl⟩ := hu
    obtain ⟨h0, h1, hK⟩ := h
    obtain ⟨ht, hs⟩ := td_array htd
    have hK := arrK_get hK h0 h1
    simp only [arrP] at hK
    refine ⟨_, .pointer (some ⟨g, b + (c + z.toNat * (e + 1)), none⟩), hK, ?_, fun w _ => ?_⟩
    · simp only [Ok]
      exact ⟨g, b, hb, rfl⟩
    · unfold Instr.indexAt
      simp only [asIntOf, Sem.run_bind, Sem.run_pure, run_underlying ht, Result.andThen_ok, Instr.sureAddr]
      rw [if_pos ⟨h0, h1⟩]
      simp only [Sem.run_bind, run_sizeOf_of hs.symm, Result.andThen_ok, Sem.run_pure, add_none, Nat.add_assoc]
  · rename_i n a e j i k1 c sz k z htd
    have e2 := ok_v hv; subst e2
    simp only [Ok] at hu
    obtain ⟨g, b, hb, rfl⟩ := hu
    obtain ⟨h0, h1, hK⟩ := h
    obtain ⟨ht, hs⟩ := td_array htd
    have hK := arrK_get hK h0 h1
    simp only [arrE] at hK
    refine ⟨_, .pointer (some ⟨g, b + (k1 * sz + (c + z.toNat * (e + 1))), none⟩), hK, ?_, fun w _ => ?_⟩
    · simp only [Ok]
      exact ⟨g, b, hb, rfl⟩
    · unfold Instr.indexAt
      simp only [asIntOf, Sem.run_bind, Sem.run_pure, run_underlying ht, Result.andThen_ok, Instr.sureAddr]
      rw [if_pos ⟨h0, h1⟩]
      simp only [Sem.run_bind, run_sizeOf_of hs.symm, Result.andThen_ok, Sem.run_pure, add_none, Nat.add_assoc]
  · exact h.elim
theorem gives_mono {s s' : Sem Value} (h : Gives P β C K s) (he : ∀ w, s'.run P w = s.run P w) : Gives P β C K s' := by
  obtain ⟨r, z, h1, h2, h3⟩ := h
  exact ⟨r, z, h1, h2, fun w hw => (he w).trans (h3 w hw)⟩
theorem indexK_gives {t : TypeId} {x y : SV} {u v : Value} (h : indexK P (tdOf P t) x y K) (hu : Ok β x u) (hv : Ok β y v) (hother : ∀ e n m, tdOf P t = .array n e m → tdOf P e ≠ .other) : Gives P β C K (Instr.index t u v) := by
  unfold indexK at h
  split at h
  · rename_i n a e l k z htd
    have e2 := ok_v hv; subst e2
    simp only [Ok] at hu
    obtain ⟨cs, rfl, hcs⟩ := hu
    obtain ⟨h0, h1, hK⟩ := h
    obtain ⟨ht, hs⟩ := td_array htd
    have hK := arrK_get hK h0 h1
    simp only [arrV] at hK
    refine gives_mono (oneK_part (off := z.toNat * (e + 1)) hK hs.symm (hother _ _ _ htd) hcs) fun w => ?_
    unfold Instr.index
    simp only [asIntOf, Sem.run_bind, Sem.run_pure, run_underlying ht, Result.andThen_ok]
    rw [if_pos ⟨h0, h1⟩]
    simp only [Sem.run_bind, run_sizeOf_of hs.symm, Result.andThen_ok]
  · rename_i s k z htd
    have e1 := ok_v hu; subst e1
    have e2 := ok_v hv; subst e2
    obtain ⟨h0, h1, hK⟩ := h
    have hlt : z.toNat < s.size := by omega
    have hg : s[z.toNat]? = some s[z.toNat] := by simp [hlt]
    refine ⟨_, _, hK _ hg, by simp only [Ok]; rfl, fun w _ => ?_⟩
    unfold Instr.index
    simp only [asIntOf, Sem.run_bind, Sem.run_pure, run_underlying (td_str htd), Result.andThen_ok, if_pos h0, hg]
  · exact h.elim
theorem extK_gives {x : SV} {i : Nat} {u : Value} (h : extK x i K) (hu : Ok β x u) : Gives P β C K (Instr.extract u i) := by
  unfold extK at h
  split at h
  · simp only [Ok] at hu
    obtain ⟨xs, rfl, hxs⟩ := hu
    obtain ⟨y, hy, h⟩ := optK_iff h
    rw [nth_eq] at hy
    obtain ⟨u, h1, h2⟩ := okL_get hxs _ _ hy
    refine ⟨y, u, h, h2, fun w _ => ?_⟩
    unfold Instr.extract
    have h1' : xs[i]? = some u := by simpa using h1
    simp only [h1', Sem.run_pure]
  · exact h.elim
theorem boundK_run {x : SV} {u : Value} {d y : Nat} {K : Nat → Prop} {code : BoundsCode} (h : boundK (some x) d y K) (hu : Ok β x u) : ∃ n, K n ∧ n ≤ y ∧ ∀ w, (Instr.sliceBound u y code).run P w = .ok n w := by
  unfold boundK at h
  split at h
  · rename_i heq; cases heq
  · rename_i k z heq
    cases heq
    have e := ok_v hu; subst e
    refine ⟨z.toNat, h.2.2, by omega, fun w => ?_⟩
    unfold Instr.sliceBound
    simp only [asIntOf, Sem.run_bind, Sem.run_pure, Result.andThen_ok]
    rw [if_pos ⟨h.1, h.2.1⟩, Sem.run_pure]
  · exact h.elim
/-- What an optional operand is. -/
def OkO (β : Bs) : Option SV → Option Value → Prop
  | none, none => True
  | some x, some u => Ok β x u
  | _, _ => False
theorem bounds_run {isS : Bool} {len cap : Nat} {lo hi : Option SV} {ulo uhi : Option Value} (hlo : OkO β lo ulo) (hhi : OkO β hi uhi) (hlc : len ≤ cap) {K1 : Nat → Nat → Prop}
    (h : boundK hi len cap (fun h => boundK lo 0 h (K1 h))) : ∃ h l, K1 h l ∧ l ≤ h ∧ h ≤ cap ∧ ∀ w, (Instr.sliceBounds isS len cap ulo uhi none).run P w = .ok (l, h, cap) w := by
  have two : ∀ hh, hh ≤ cap → boundK lo 0 hh (K1 hh) → ∃ l, K1 hh l ∧ l ≤ hh ∧ ∀ w, (match ulo with | some v => Instr.sliceBound v hh (if (none : Option Value).isSome then .slice3C else .sliceB) | none => pure 0).run P w = .ok l w := by
    intro hh _ hK
    cases lo with
    | none =>
      cases ulo with
      | none => exact ⟨0, by simpa [boundK] using hK, Nat.zero_le _, fun w => rfl⟩
      | some _ => exact hlo.elim
    | some x =>
      cases ulo with
      | none => exact hlo.elim
      | some u => exact boundK_run hK hlo
  cases hi with
  | none =>
    cases uhi with
    | some _ => exact hhi.elim
    | none =>
      have hK : boundK lo 0 len (K1 len) := by simpa only [boundK] using h
      obtain ⟨l, h1, h2, h3⟩ := two len hlc hK
      refine ⟨len, l, h1, h2, hlc, fun w => ?_⟩
      unfold Instr.sliceBounds
      cases ulo with
      | none =>
        have h3 := h3 w
        simp only [Sem.run_pure, Result.ok.injEq, and_true] at h3
        subst h3
        simp only [Sem.run_bind, Sem.run_pure, Result.andThen_ok]
      | some v =>
        simp only at h3
        simp only [Sem.run_bind, Sem.run_pure, Result.andThen_ok, h3]
  | some x =>
    cases uhi with
    | none => exact hhi.elim
    | some u =>
      obtain ⟨hh, h1, h2, h3⟩ := boundK_run (P := P) (code := if isS then .sliceAcap else .sliceAlen) h hhi
      obtain ⟨l, h4, h5, h6⟩ := two hh h2 h1
      refine ⟨hh, l, h4, h5, h2, fun w => ?_⟩
      unfold Instr.sliceBounds
      cases ulo with
      | none =>
        have h6 := h6 w
        simp only [Sem.run_pure, Result.ok.injEq, and_true] at h6
        subst h6
        simp only [Sem.run_bind, Sem.run_pure, Result.andThen_ok, h3]
      | some v =>
        simp only at h6
        simp only [Sem.run_bind, Sem.run_pure, Result.andThen_ok, h3, h6]
end
section
variable {P : Program} {β : Bs} {C : World → Prop} {K : SV → Prop}
theorem bounds3_run {isS : Bool} {len cap : Nat} {lo : Option SV} {hi mx : SV} {ulo : Option Value} {uhi umx : Value} (hlo : OkO β lo ulo) (hhi : Ok β hi uhi) (hmx : Ok β mx umx) {K1 : Nat → Nat → Nat → Prop}
    (h : boundK (some mx) cap cap (fun m => boundK (some hi) len m (fun h => boundK lo 0 h (K1 m h)))) : ∃ m h l, K1 m h l ∧ l ≤ h ∧ h ≤ m ∧ m ≤ cap ∧ ∀ w, (Instr.sliceBounds isS len cap ulo (some uhi) (some umx)).run P w = .ok (l, h, m) w := by
  obtain ⟨m, h1, h2, h3⟩ := boundK_run (P := P) (code := if isS then .slice3Acap else .slice3Alen) h hmx
  obtain ⟨hh, h4, h5, h6⟩ := boundK_run (P := P) (code := .slice3B) h1 hhi
  cases lo with
  | none =>
    cases ulo with
    | some _ => exact hlo.elim
    | none =>
      refine ⟨m, hh, 0, by simpa [boundK] using h4, Nat.zero_le _, h5, h2, fun w => ?_⟩
      unfold Instr.sliceBounds
      simp only [Sem.run_bind, Sem.run_pure, Result.andThen_ok, h3, h6]
  | some x =>
    cases ulo with
    | none => exact hlo.elim
    | some u =>
      obtain ⟨l, h7, h8, h9⟩ := boundK_run (P := P) (code := .slice3C) h4 hlo
      refine ⟨m, hh, l, h7, h8, h5, h2, fun w => ?_⟩
      unfold Instr.sliceBounds
      simp only [Option.isSome_some, if_true] at *
      simp only [Sem.run_bind, Sem.run_pure, Result.andThen_ok, h3, h6, h9]
theorem sl_ok {j i o cap sz m h l : Nat} {A : Option Addr} (hA : 0 < cap → ∃ g b, β j i = some (g, b) ∧ A = some ⟨g, b + o * sz, none⟩) (hm : m ≤ cap) (hh : h ≤ m) (hl : l ≤ h) :
    Ok β (.s j i (o + l) (h - l) (m - l) sz) (.slice (if m = l then A else A.map (·.add (l * sz))) (h - l) (m - l)) := by
  simp only [Ok]
  refine ⟨_, rfl, by omega, fun hc => ?_⟩
  obtain ⟨g, b, h1, rfl⟩ := hA (by omega)
  refine ⟨g, b, h1, ?_⟩
  rw [if_neg (by omega)]
  simp only [Option.map_some, add_none, Nat.add_mul, Nat.add_assoc]
theorem sliceAt_slice {t e : TypeId} (ht : P.underlying t = some (.slice e)) (x : Value) (lo hi mx : Option Value) (w : World) : (Instr.sliceAt t x lo hi mx).run P w = (Instr.slice t x lo hi mx).run P w := by
  unfold Instr.sliceAt
  simp only [Sem.run_bind, run_underlying ht, Result.andThen_ok]
theorem sliceAt_string {t : TypeId} (ht : P.underlying t = some .string) (x : Value) (lo hi mx : Option Value) (w : World) : (Instr.sliceAt t x lo hi mx).run P w = (Instr.slice t x lo hi mx).run P w := by
  unfold Instr.sliceAt
  simp only [Sem.run_bind, run_underlying ht, Result.andThen_ok]
theorem slK_gives {t : TypeId} {x : SV} {lo hi mx : Option SV} {u : Value} {ulo uhi umx : Option Value} (h : slK (tdOf P t) x lo hi mx K) (hu : Ok β x u) (hlo : OkO β lo ulo) (hhi : OkO β hi uhi) (hmx : OkO β mx umx) :
    Gives P β C K (Instr.sliceAt t u ulo uhi umx) := by
  unfold slK at h
  split at h
  · rename_i a e j i o len cap sz htd
    cases umx with
    | some _ => exact hmx.elim
    | none =>
      simp only [Ok] at hu
      obtain ⟨A, rfl, hlc, hA⟩ := hu
      obtain ⟨ht, hs⟩ := td_slice htd
      obtain ⟨rfl, h⟩ := h
      obtain ⟨hh, l, h1, h2, h3, h4⟩ := bounds_run (P := P) (isS := true) (K1 := fun h l => sl3 j i o (e + 1) K cap h l) hlo hhi hlc h
      refine ⟨_, _, h1, sl_ok hA (Nat.le_refl _) h3 h2, fun w _ => ?_⟩
      rw [sliceAt_slice ht]
      unfold Instr.slice
      simp only [Sem.run_bind, run_underlying ht, Result.andThen_ok, h4, run_sizeOf_of hs.symm, Sem.run_pure]
  · rename_i a e j i o len cap sz mx' htd
    cases umx with
    | none => exact hmx.elim
    | some umx =>
      simp only [Ok] at hu
      obtain ⟨A, rfl, hlc, hA⟩ := hu
      obtain ⟨ht, hs⟩ := td_slice htd
      obtain ⟨rfl, hsome, h⟩ := h
      cases hi with
      | none => cases hsome
      | some hi =>
        cases uhi with
        | none => exact hhi.elim
        | some uhi =>
          obtain ⟨m, hh, l, h1, h2, h3, h3', h4⟩ := bounds3_run (P := P) (isS := true) (K1 := fun m h l => sl3 j i o (e + 1) K m h l) hlo hhi hmx h
          refine ⟨_, _, h1, sl_ok hA h3' h3 h2, fun w _ => ?_⟩
          rw [sliceAt_slice ht]
          unfold Instr.slice
          simp only [Sem.run_bind, run_underlying ht, Result.andThen_ok, h4, run_sizeOf_of hs.symm, Sem.run_pure]
  · rename_i s htd
    cases umx with
    | some _ => exact hmx.elim
    | none =>
      have e := ok_v hu; subst e
      have ht := td_str htd
      obtain ⟨hh, l, h1, h2, h3, h4⟩ := bounds_run (P := P) (isS := false) (K1 := fun h l => st2 s K h l) hlo hhi (Nat.le_refl _) h
      refine ⟨_, _, h1, by simp only [Ok]; rfl, fun w _ => ?_⟩
      rw [sliceAt_string ht]
      unfold Instr.slice
      simp only [Sem.run_bind, run_underlying ht, Result.andThen_ok, Option.isSome_none, Bool.false_eq_true, if_false, Sem.run_pure, h4]
  · rename_i a e htd
    cases umx with
    | some _ => exact hmx.elim
    | none =>
      have e1 := ok_v hu; subst e1
      obtain ⟨ht, hs⟩ := td_slice htd
      obtain ⟨hh, l, h1, h2, h3, h4⟩ := bounds_run (P := P) (isS := true) (len := 0) (cap := 0) (K1 := fun _ l => nl2 K l) hlo hhi (Nat.le_refl _) h
      obtain rfl : hh = 0 := by omega
      obtain rfl : l = 0 := by omega
      refine ⟨_, _, h1, by simp only [Ok]; rfl, fun w _ => ?_⟩
      rw [sliceAt_slice ht]
      unfold Instr.slice
      simp only [Sem.run_bind, run_underlying ht, Result.andThen_ok, h4, run_sizeOf_of hs.symm, Sem.run_pure]
      rfl
  · exact h.elim
theorem lenK_gives {t : TypeId} {x : SV} {u : Value} (h : lenK (tdOf P t) x K) (hu : Ok β x u) (ts : Array TypeId) (ty : TypeId) (hts : ts[0]? = some t) : Gives P β C K (Builtin.len_ ts ty #[u]) := by
  unfold lenK at h
  split at h
  · rename_i s htd
    have e := ok_v hu; subst e
    refine ⟨_, _, h, by simp only [Ok]; rfl, fun w _ => ?_⟩
    unfold Builtin.len_
    simp [hts, run_underlying (td_str htd), goInt]
  · rename_i e esz j i o len cap sz htd
    simp only [Ok] at hu
    obtain ⟨A, rfl, _, _⟩ := hu
    refine ⟨_, _, h, by simp only [Ok]; rfl, fun w _ => ?_⟩
    unfold Builtin.len_
    simp [hts, run_underlying (td_slice htd).1, goInt]
  · rename_i e esz A n c htd
    have e := ok_v hu; subst e
    refine ⟨_, _, h, by simp only [Ok]; rfl, fun w _ => ?_⟩
    unfold Builtin.len_
    simp [hts, run_underlying (td_slice htd).1, goInt]
  · rename_i n e esz htd
    refine ⟨_, _, h, by simp only [Ok]; rfl, fun w _ => ?_⟩
    unfold Builtin.len_
    simp [hts, run_underlying (td_array htd).1, goInt]
  · exact h.elim
theorem capK_gives {t : TypeId} {x : SV} {u : Value} (h : capK (tdOf P t) x K) (hu : Ok β x u) (ts : Array TypeId) (ty : TypeId) (hts : ts[0]? = some t) : Gives P β C K (Builtin.cap_ ts ty #[u]) := by
  unfold capK at h
  split at h
  · rename_i e esz j i o len cap sz htd
    simp only [Ok] at hu
    obtain ⟨A, rfl, _, _⟩ := hu
    refine ⟨_, _, h, by simp only [Ok]; rfl, fun w _ => ?_⟩
    unfold Builtin.cap_
    simp [hts, run_underlying (td_slice htd).1, goInt]
  · rename_i e esz A n c htd
    have e := ok_v hu; subst e
    refine ⟨_, _, h, by simp only [Ok]; rfl, fun w _ => ?_⟩
    unfold Builtin.cap_
    simp [hts, run_underlying (td_slice htd).1, goInt]
  · exact h.elim
theorem min2_run (k k' : IntKind) (m n : Int) (w : World) : (Builtin.min2 (.int k m) (.int k' n)).run P w = .ok (.int k (min m n)) w := by
  unfold Builtin.min2
  have : (if n < m then n else m) = min m n := by split <;> omega
  simp only [Sem.run_pure, this]
theorem max2_run (k k' : IntKind) (m n : Int) (w : World) : (Builtin.max2 (.int k m) (.int k' n)).run P w = .ok (.int k (max m n)) w := by
  unfold Builtin.max2
  have : (if n > m then n else m) = max m n := by split <;> omega
  simp only [Sem.run_pure, this]
theorem minK_gives {l : List SV} {us : List Value} (h : minK l K) (hu : OkL β l us) (ts : Array TypeId) (ty : TypeId) : Gives P β C K (Builtin.min_ ts ty us.toArray) := by
  unfold minK at h
  split at h
  · simp only [OkL, Ok] at hu
    obtain ⟨_, _, rfl, rfl, _, _, rfl, rfl, rfl⟩ := hu
    refine ⟨_, _, h, by simp only [Ok]; rfl, fun w _ => ?_⟩
    simp only [Builtin.min_, List.foldlM_cons, List.foldlM_nil, Sem.run_bind, min2_run, Result.andThen_ok, Sem.run_pure]
  · simp only [OkL, Ok] at hu
    obtain ⟨_, _, rfl, rfl, _, _, rfl, rfl, _, _, rfl, rfl, rfl⟩ := hu
    refine ⟨_, _, h, by simp only [Ok]; rfl, fun w _ => ?_⟩
    simp only [Builtin.min_, List.foldlM_cons, List.foldlM_nil, Sem.run_bind, min2_run, Result.andThen_ok, Sem.run_pure]
  · exact h.elim
theorem maxK_gives {l : List SV} {us : List Value} (h : maxK l K) (hu : OkL β l us) (ts : Array TypeId) (ty : TypeId) : Gives P β C K (Builtin.max_ ts ty us.toArray) := by
  unfold maxK at h
  split at h
  · simp only [OkL, Ok] at hu
    obtain ⟨_, _, rfl, rfl, _, _, rfl, rfl, rfl⟩ := hu
    refine ⟨_, _, h, by simp only [Ok]; rfl, fun w _ => ?_⟩
    simp only [Builtin.max_, List.foldlM_cons, List.foldlM_nil, Sem.run_bind, max2_run, Result.andThen_ok, Sem.run_pure]
  · simp only [OkL, Ok] at hu
    obtain ⟨_, _, rfl, rfl, _, _, rfl, rfl, _, _, rfl, rfl, rfl⟩ := hu
    refine ⟨_, _, h, by simp only [Ok]; rfl, fun w _ => ?_⟩
    simp only [Builtin.max_, List.foldlM_cons, List.foldlM_nil, Sem.run_bind, max2_run, Result.andThen_ok, Sem.run_pure]
  · exact h.elim
end
/- ===== reading memory ===== -/
def obAt : List Ob → Nat → Ob
  | [], _ => ⟨0, true, .dead⟩
  | o :: _, 0 => o
  | _ :: l, j + 1 => obAt l j
theorem obAt_get : ∀ {H : List Ob} {j : Nat}, (obAt H j).ct ≠ .dead → H[j]? = some (obAt H j)
  | [], _, h => absurd rfl h
  | o :: _, 0, _ => rfl
  | _ :: l, j + 1, h => by simpa [obAt] using obAt_get (H := l) (j := j) h
def rdSt (o : Ob) (i c n : Nat) (K : List SV → Prop) : Prop :=
  match o.ct with
  | .st cs => i = 0 ∧ K (sub cs c n)
  | _ => False
def rdRow (o : Ob) (i k c sz n : Nat) (K : List SV → Prop) : Prop :=
  match o.ct with
  | .row sz' N len _ f => sz' = sz ∧ i < N ∧ k < len i ∧ K (sub (f i k) c n)
  | _ => False
def readK (H : List Ob) (x : SV) (n : Nat) (K : List SV → Prop) : Prop :=
  match x with
  | .p j i c => rdSt (obAt H j) i c n K
  | .e j i k c sz => rdRow (obAt H j) i k c sz n K
  | _ => False
def oneL (agg : Bool) (n : Nat) (K : SV → Prop) (l : List SV) : Prop := oneK agg n l K
def loadK (ti : TI) (x : SV) (H : List Ob) (K : SV → Prop) : Prop :=
  match ti.td with
  | .other => False
  | td => readK H x ti.size (oneL td.agg ti.size K)
/-- Cells that can be read, now and later. -/
def Lies (β : Bs) (w : World) (g b : Nat) (l : List SV) : Prop := ∀ c y, l[c]? = some y → ∃ v, w.cell? ⟨g, b + c, none⟩ = some v ∧ Ok β y v ∧ g < w.heap.size
theorem read_lies {H : List Ob} {x : SV} {n : Nat} {K : List SV → Prop} {β : Bs} {w : World} {u : Value} (h : readK H x n K) (hI : Inv β H w) (hu : Ok β x u) :
    ∃ l g b, K l ∧ u = .pointer (some ⟨g, b, none⟩) ∧ Lies β w g b l := by
  unfold readK at h
  split at h
  · rename_i j i c
    unfold rdSt at h
    split at h
    · rename_i cs hct
      obtain ⟨rfl, hK⟩ := h
      have hg := obAt_get (H := H) (j := j) (by rw [hct]; intro e; cases e)
      have ho := hI.ob j _ hg
      unfold ObOk at ho
      rw [hct] at ho
      obtain ⟨g, cur, h1, h2, h3⟩ := ho
      simp only [Ok] at hu
      obtain ⟨g', b, h4, rfl⟩ := hu
      rw [h1] at h4
      obtain ⟨rfl, rfl⟩ : g = g' ∧ 0 = b := by simpa using h4
      have hlt : g < w.heap.size := by
        rcases Nat.lt_or_ge g w.heap.size with h | h
        · exact h
        · rw [Array.getElem?_eq_none h] at h2; cases h2
      refine ⟨_, g, 0 + c, hK, rfl, fun c' y hy => ?_⟩
      have hy' : cs[c + c']? = some y := by
        unfold sub at hy
        rw [List.getElem?_take] at hy
        split at hy
        · simpa using hy
        · cases hy
      obtain ⟨v, h5, h6⟩ := okL_get h3 _ _ hy'
      refine ⟨v, ?_, h6, hlt⟩
      rw [cell_of_row w g _ cur _ _ h2, Nat.zero_add]
      simpa using h5
    · exact h.elim
  · rename_i j i k c sz
    unfold rdRow at h
    split at h
    · rename_i sz' N len cap f hct
      obtain ⟨rfl, hi, hk, hK⟩ := h
      have hg := obAt_get (H := H) (j := j) (by rw [hct]; intro e; cases e)
      have ho := hI.ob j _ hg
      have hsub : ∀ c' y, (sub (f i k) c n)[c']? = some y → (f i k)[c + c']? = some y := fun c' y hy => by
        unfold sub at hy
        rw [List.getElem?_take] at hy
        split at hy
        · simpa using hy
        · cases hy
      unfold ObOk at ho
      rw [hct] at ho
      simp only [Ok] at hu
      obtain ⟨g', b, h4, rfl⟩ := hu
      simp only at ho
      split at ho
      · obtain ⟨g, b1, h1, h2, h3⟩ := ho i hi k hk
        rw [h1] at h4
        obtain ⟨rfl, rfl⟩ : g = g' ∧ b1 = b := by simpa using h4
        refine ⟨_, g, b1 + (k * sz' + c), hK, rfl, fun c' y hy => ?_⟩
        obtain ⟨v, h5, h6⟩ := h3 _ _ (hsub _ _ hy)
        exact ⟨v, by rw [show b1 + (k * sz' + c) + c' = b1 + (k * sz' + (c + c')) by omega]; exact h5, h6, h2⟩
      · rcases ho i hi with ⟨h1, _⟩ | ⟨g, cur, h1, h2, h3, h5, h6⟩
        · omega
        · rw [h1] at h4
          obtain ⟨rfl, rfl⟩ : g = g' ∧ 0 = b := by simpa using h4
          have hlt : g < w.heap.size := by
            rcases Nat.lt_or_ge g w.heap.size with h | h
            · exact h
            · rw [Array.getElem?_eq_none h] at h2; cases h2
          refine ⟨_, g, 0 + (k * sz' + c), hK, rfl, fun c' y hy => ?_⟩
          obtain ⟨v, h7, h8⟩ := (h6.2 k hk).2 _ _ (hsub _ _ hy)
          refine ⟨v, ?_, h8, hlt⟩
          rw [cell_of_row w g _ cur _ _ h2, show 0 + (k * sz' + c) + c' = k * sz' + (c + c') by omega]
          exact h7
    · exact h.elim
  · exact h.elim
theorem gather {β : Bs} {Q : Nat → Value → Prop} : ∀ {l : List SV}, (∀ c y, l[c]? = some y → ∃ v, Q c v ∧ Ok β y v) → ∃ vs, OkL β l vs ∧ ∀ (c : Nat) (v : Value), vs[c]? = some v → Q c v
  | [], _ => ⟨[], by simp [OkL], fun c v h => by simp at h⟩
  | x :: l, h => by
    obtain ⟨v, h1, h2⟩ := h 0 x rfl
    obtain ⟨vs, h3, h4⟩ := gather (Q := fun c v => Q (c + 1) v) (l := l) fun c y hy => h (c + 1) y (by simpa using hy)
    refine ⟨v :: vs, by simp only [OkL]; exact ⟨v, vs, rfl, h2, h3⟩, fun c u hu => ?_⟩
    cases c with
    | zero => simp at hu; subst hu; exact h1
    | succ c => exact h4 c u (by simpa using hu)
theorem lies_run {P : Program} {β : Bs} {w : World} {g b : Nat} {l : List SV} {t : TypeId} {K : SV → Prop} (h : oneL (tdOf P t).agg (P.cellsOf t) K l) (ht : tdOf P t ≠ .other) (hl : Lies β w g b l) :
    Gives P β (fun w' => Below w.heap.size w w') K (Instr.loadAt t (.pointer (some ⟨g, b, none⟩))) := by
  have later : ∀ w', Below w.heap.size w w' → ∀ c v, w.cell? ⟨g, b + c, none⟩ = some v → g < w.heap.size → w'.cell? ⟨g, b + c, none⟩ = some v := fun w' hb c v hv hg => (hb.cell (p := ⟨g, b + c, none⟩) hg).trans hv
  have two : (∃ y, (tdOf P t).agg = false ∧ l = [y] ∧ P.cellsOf t = 1 ∧ K y) ∨ ((tdOf P t).agg = true ∧ lenIs l (P.cellsOf t) = true ∧ K (.a l)) := by
    unfold oneL oneK at h
    cases hagg : (tdOf P t).agg with
    | true => rw [hagg] at h; exact .inr ⟨rfl, h⟩
    | false =>
      rw [hagg] at h
      match l, h with
      | [y], h => exact .inl ⟨y, rfl, rfl, h.1, h.2⟩
      | [], h => exact h.elim
      | _ :: _ :: _, h => exact h.elim
  rcases two with ⟨y, hagg, rfl, hc, h⟩ | ⟨hagg, h⟩
  · obtain ⟨v, h1, h2, h3⟩ := hl 0 y rfl
    refine ⟨y, v, h, h2, fun w' hw' => ?_⟩
    have := later w' hw' 0 v h1 h3
    simp only [Instr.loadAt, Instr.sureAddr, loadVar, Sem.run_bind, Sem.run_pure, td_agg ht, hagg, Result.andThen_ok, Bool.false_eq_true, if_false]
    simp only [Nat.add_zero] at this
    simp [load, Sem.run, this]
  · obtain ⟨hlen, hK⟩ := h
    have hlen := lenIs_eq _ _ hlen
    obtain ⟨vs, h1, h2⟩ := gather (Q := fun c v => w.cell? ⟨g, b + c, none⟩ = some v ∧ g < w.heap.size) (β := β) (l := l) fun c y hy => by
      obtain ⟨v, h1, h2, h3⟩ := hl c y hy
      exact ⟨v, ⟨h1, h3⟩, h2⟩
    refine ⟨.a l, .agg vs.toArray, hK, by simp only [Ok]; exact ⟨_, rfl, by simpa using h1⟩, fun w' hw' => ?_⟩
    have hvs : vs.length = P.cellsOf t := (okL_length h1).trans hlen
    have hr := run_loadCells_list (P := P) (w := w') ⟨g, b, none⟩ vs (fun j v hv => by
      obtain ⟨h3, h4⟩ := h2 j v hv
      rw [add_none]
      exact later w' hw' j v h3 h4)
    have hs : (sizeOf t).run P w' = .ok vs.length w' := by
      unfold Program.cellsOf at hvs
      cases hi : P.info? t with
      | none =>
        exfalso
        apply ht
        unfold tdOf Program.underlying
        rw [hi]
      | some i =>
        rw [hi] at hvs
        simp [sizeOf, typeInfo, program, hi, bind, Sem.bind, Sem.run, pure, hvs]
    simp only [Instr.loadAt, Instr.sureAddr, loadVar, Sem.run_bind, Sem.run_pure, td_agg ht, hagg, Result.andThen_ok, if_true, hs, hr]
theorem loadK_gives {P : Program} {β : Bs} {w : World} {H : List Ob} {t : TypeId} {x : SV} {u : Value} {K : SV → Prop} (h : loadK (tiOf P t) x H K) (hI : Inv β H w) (hu : Ok β x u) :
    Gives P β (fun w' => Below w.heap.size w w') K (Instr.loadAt t u) := by
  unfold loadK at h
  split at h
  · exact h.elim
  · rename_i hne
    obtain ⟨l, g, b, h1, rfl, h2⟩ := read_lies h hI hu
    exact lies_run h1 hne h2
/- ===== new objects, and objects that change ===== -/
def push (β : Bs) (n : Nat) (x : Option (Nat × Nat)) : Bs := fun j i => if j = n then (if i = 0 then x else none) else β j i
theorem push_new (β : Bs) (n : Nat) (x : Option (Nat × Nat)) : push β n x n 0 = x := by simp [push]
theorem push_old (β : Bs) (n : Nat) (x : Option (Nat × Nat)) {j : Nat} (h : j ≠ n) (i : Nat) : push β n x j i = β j i := by simp [push, h]
theorem push_le {β : Bs} {H : List Ob} {w : World} (hI : Inv β H w) (x : Option (Nat × Nat)) : BLe β (push β H.length x) := fun j i y h => by
  have : j ≠ H.length := fun e => by have := hI.out j i (by omega); rw [this] at h; cases h
  rw [push_old _ _ _ this]; exact h
/-- The memory of all members is as it was, but for block g. -/
def Same (β : Bs) (H : List Ob) (w w' : World) : Prop := ∀ j i g b o, H[j]? = some o → o.mem i → β j i = some (g, b) → w'.heap[g]? = w.heap[g]?
theorem inv_push {β : Bs} {H : List Ob} {w w' : World} {ob : Ob} (hI : Inv β H w) (x : Option (Nat × Nat)) (hsz : w.heap.size ≤ w'.heap.size) (hs : Same β H w w')
    (hf : ∀ g b, x = some (g, b) → ∀ j i b' o, H[j]? = some o → o.mem i → β j i = some (g, b') → False) (hob : ObOk (push β H.length x) w' H.length ob) (hN : (∀ i, ob.mem i → i = 0) ∧ ¬ ob.over 0) : Inv (push β H.length x) (H ++ [ob]) w' := by
  have cases' : ∀ j o, (H ++ [ob])[j]? = some o → (H[j]? = some o ∧ j ≠ H.length) ∨ (j = H.length ∧ o = ob) := by
    intro j o ho
    rcases Nat.lt_trichotomy j H.length with h | h | h
    · rw [List.getElem?_append_left h] at ho
      exact .inl ⟨ho, by omega⟩
    · subst h
      simp at ho
      exact .inr ⟨rfl, ho.symm⟩
    · rw [List.getElem?_eq_none (by simp; omega)] at ho; cases ho
  refine ⟨fun j o ho => ?_, fun j i hj => ?_, fun j i j' i' o o' g b b' ho ho' hw hm hb hb' => ?_, fun j o i ho hov => ?_⟩
  · rcases cases' j o ho with ⟨h, hj⟩ | ⟨rfl, rfl⟩
    · exact (hI.ob j o h).same (push_le hI x) (fun i hn => by rw [push_old _ _ _ hj]; exact hn) hsz (fun i g b hm hb => hs j i g b o h hm hb)
    · exact hob
  · simp at hj
    rw [push_old _ _ _ (by omega)]
    exact hI.out j i (by omega)
  · rcases cases' j o ho with ⟨h, hj⟩ | ⟨rfl, rfl⟩
    · rw [push_old _ _ _ hj] at hb
      rcases cases' j' o' ho' with ⟨h', hj'⟩ | ⟨rfl, rfl⟩
      · rw [push_old _ _ _ hj'] at hb'
        exact hI.sep j i j' i' o o' g b b' h h' hw hm hb hb'
      · have hi := hN.1 i' hm
        subst hi
        rw [push_new] at hb'
        exact (hf g b' hb' j i b o h (Ob.own_mem hw) hb).elim
    · have hi := hN.1 i (Ob.own_mem hw)
      subst hi
      rw [push_new] at hb
      rcases cases' j' o' ho' with ⟨h', hj'⟩ | ⟨rfl, rfl⟩
      · rw [push_old _ _ _ hj'] at hb'
        exact (hf g b hb j' i' b' o' h' hm hb').elim
      · exact ⟨rfl, (hN.1 i' hm).symm⟩
  · rcases cases' j o ho with ⟨h, hj⟩ | ⟨rfl, rfl⟩
    · rw [push_old _ _ _ hj]; exact hI.bey j o i h hov
    · have : i ≠ 0 := fun e => hN.2 (e ▸ hov)
      simp [push, this]
/-- A new object in new memory. -/
theorem inv_new {β : Bs} {H : List Ob} {w w' : World} {ob : Ob} (hI : Inv β H w) (hb : Below w.heap.size w w') (x : Option (Nat × Nat)) (hx : ∀ g b, x = some (g, b) → w.heap.size ≤ g)
    (hob : ObOk (push β H.length x) w' H.length ob) (hN : (∀ i, ob.mem i → i = 0) ∧ ¬ ob.over 0) : Inv (push β H.length x) (H ++ [ob]) w' ∧ BLe β (push β H.length x) ∧ ∀ n0, Fr n0 β H w (push β H.length x) (H ++ [ob]) w' := by
  have hold : ∀ j i g b o, H[j]? = some o → o.mem i → β j i = some (g, b) → g < w.heap.size := fun j i g b o ho hm hg => (hI.ob j o ho).block hm hg
  refine ⟨inv_push hI x hb.size (fun j i g b o ho hm hg => hb.block g (hold j i g b o ho hm hg)) (fun g b hx' j i b' o ho hm hg => ?_) hob hN, push_le hI x,
    fun n0 => ⟨hb.tape, hb.os, hb.output, hb.size, fun g hg _ => hb.block g hg, fun g hg ho => ?_, fun g hg ho => ?_, fun j i y _ h => push_le hI x j i y h, fun hl => by simp; omega⟩⟩
  · have := hx g b hx'
    have := hold j i g b' o ho hm hg
    omega
  · obtain ⟨j, i, o, b, h1, h2, h3⟩ := ho
    rcases Nat.lt_trichotomy j H.length with h | h | h
    · rw [List.getElem?_append_left h] at h1
      rw [push_old _ _ _ (by omega)] at h3
      exact ⟨j, i, o, b, h1, h2, h3⟩
    · subst h
      simp at h1
      subst h1
      have hi := hN.1 i (Ob.own_mem h2)
      subst hi
      rw [push_new] at h3
      have := hx g b h3
      omega
    · rw [List.getElem?_eq_none (by simp; omega)] at h1; cases h1
  · obtain ⟨j, i, o, b, h1, h2, h3⟩ := ho
    rcases Nat.lt_trichotomy j H.length with h | h | h
    · rw [List.getElem?_append_left h] at h1
      rw [push_old _ _ _ (by omega)] at h3
      exact ⟨j, i, o, b, h1, h2, h3⟩
    · subst h
      simp at h1
      subst h1
      have hi := hN.1 i h2
      subst hi
      rw [push_new] at h3
      have := hx g b h3
      omega
    · rw [List.getElem?_eq_none (by simp; omega)] at h1; cases h1
/-- An object of which no more is said. -/
def deadOb : Ob := ⟨0, true, .dead⟩
theorem inv_kill {β : Bs} {H : List Ob} {w : World} (hI : Inv β H w) (j0 : Nat) : Inv β (H.set j0 deadOb) w ∧ ∀ n0, Fr n0 β H w β (H.set j0 deadOb) w := by
  have key : ∀ j o, (H.set j0 deadOb)[j]? = some o → o = deadOb ∨ (j ≠ j0 ∧ H[j]? = some o) := fun j o h => by
    by_cases e : j = j0
    · subst e
      rw [List.getElem?_set_self'] at h
      cases hj : H[j]? with
      | none => rw [hj] at h; cases h
      | some q => rw [hj] at h; simp at h; exact .inl h.symm
    · rw [List.getElem?_set_ne (Ne.symm e)] at h
      exact .inr ⟨e, h⟩
  refine ⟨⟨fun j o ho => ?_, fun j i hj => hI.out j i (by simpa using hj), fun j i j' i' o o' g b b' ho ho' hw hm hb hb' => ?_, fun j o i ho hov => ?_⟩, fun n0 => ⟨rfl, rfl, rfl, Nat.le_refl _, fun _ _ _ => rfl, fun g _ ho => ?_, fun g _ ho => ?_, fun _ _ _ _ h => h, fun hl => by simpa using hl⟩⟩
  · rcases key j o ho with rfl | ⟨_, h⟩
    · trivial
    · exact hI.ob j o h
  · rcases key j o ho with rfl | ⟨_, h⟩
    · exact hw.elim
    · rcases key j' o' ho' with rfl | ⟨_, h'⟩
      · exact hm.elim
      · exact hI.sep j i j' i' o o' g b b' h h' hw hm hb hb'
  · rcases key j o ho with rfl | ⟨_, h⟩
    · exact hov.elim
    · exact hI.bey j o i h hov
  · obtain ⟨j, i, o, b, h1, h2, h3⟩ := ho
    rcases key j o h1 with rfl | ⟨_, h⟩
    · exact h2.elim
    · exact ⟨j, i, o, b, h, h2, h3⟩
  · obtain ⟨j, i, o, b, h1, h2, h3⟩ := ho
    rcases key j o h1 with rfl | ⟨_, h⟩
    · exact h2.elim
    · exact ⟨j, i, o, b, h, h2, h3⟩
/-- A member is written. -/
theorem inv_set {β : Bs} {H : List Ob} {w w' : World} {o ob' : Ob} {j i g b : Nat} (hI : Inv β H w) (hj : H[j]? = some o) (hw : o.own i) (hb : β j i = some (g, b))
    (ht : w'.tape = w.tape) (hos : w'.os = w.os) (hout : w'.output = w.output) (hsz : w'.heap.size = w.heap.size) (hh : ∀ k, k ≠ g → w'.heap[k]? = w.heap[k]?)
    (hob : ObOk β w' j ob') (hown : ∀ i, ob'.own i → o.own i) (hmem : ∀ i, ob'.mem i → o.mem i) (hov : ∀ i, ob'.over i → o.over i) : Inv β (H.set j ob') w' ∧ ∀ n0, Fr n0 β H w β (H.set j ob') w' := by
  have hlt : j < H.length := (List.getElem?_eq_some_iff.1 hj).1
  have key : ∀ j1 o1, (H.set j ob')[j1]? = some o1 → (j1 = j ∧ o1 = ob') ∨ (j1 ≠ j ∧ H[j1]? = some o1) := fun j1 o1 h => by
    by_cases e : j1 = j
    · subst e
      rw [List.getElem?_set_self hlt] at h
      exact .inl ⟨rfl, (Option.some.inj h).symm⟩
    · rw [List.getElem?_set_ne (Ne.symm e)] at h
      exact .inr ⟨e, h⟩
  refine ⟨⟨fun j1 o1 ho => ?_, fun j i hj => hI.out j i (by simpa using hj), fun j1 i1 j2 i2 o1 o2 g1 b1 b2 ho ho' hw' hm hb1 hb2 => ?_, fun j1 o1 i1 ho hv => ?_⟩, fun n0 => ⟨ht, hos, hout, by omega, fun k hk hn => ?_, fun k _ ho => ?_, fun k _ ho => ?_, fun _ _ _ _ h => h, fun hl => by simpa using hl⟩⟩
  · rcases key j1 o1 ho with ⟨rfl, rfl⟩ | ⟨hne, h⟩
    · exact hob
    · refine (hI.ob j1 o1 h).same (BLe.refl β) (fun _ h => h) (by omega) fun i1 g1 b1 hm hg1 => ?_
      by_cases e : g1 = g
      · subst e
        have := (hI.sep j i j1 i1 o o1 g1 b b1 hj h hw hm hb hg1).1
        omega
      · exact hh g1 e
  · rcases key j1 o1 ho with ⟨rfl, rfl⟩ | ⟨hne, h⟩ <;> rcases key j2 o2 ho' with ⟨e2, e3⟩ | ⟨hne', h'⟩
    · subst e2 e3; exact hI.sep _ i1 _ i2 o o g1 b1 b2 hj hj (hown _ hw') (hmem _ hm) hb1 hb2
    · exact hI.sep _ i1 j2 i2 o o2 g1 b1 b2 hj h' (hown _ hw') hm hb1 hb2
    · subst e2 e3; exact hI.sep j1 i1 _ i2 o1 o g1 b1 b2 h hj hw' (hmem _ hm) hb1 hb2
    · exact hI.sep j1 i1 j2 i2 o1 o2 g1 b1 b2 h h' hw' hm hb1 hb2
  · rcases key j1 o1 ho with ⟨rfl, rfl⟩ | ⟨_, h⟩
    · exact hI.bey _ o i1 hj (hov _ hv)
    · exact hI.bey j1 o1 i1 h hv
  · refine hh k fun e => hn ?_
    subst e
    exact ⟨j, i, o, b, hj, hw, hb⟩
  · obtain ⟨j1, i1, o1, b1, h1, h2, h3⟩ := ho
    rcases key j1 o1 h1 with ⟨rfl, rfl⟩ | ⟨_, h⟩
    · exact ⟨_, i1, o, b1, hj, hown _ h2, h3⟩
    · exact ⟨j1, i1, o1, b1, h, h2, h3⟩
  · obtain ⟨j1, i1, o1, b1, h1, h2, h3⟩ := ho
    rcases key j1 o1 h1 with ⟨rfl, rfl⟩ | ⟨_, h⟩
    · exact ⟨_, i1, o, b1, hj, hmem _ h2, h3⟩
    · exact ⟨j1, i1, o1, b1, h, h2, h3⟩
/-- What an operation that makes or writes memory comes to. -/
def Does (P : Program) (β : Bs) (H : List Ob) (w : World) (K : SV → List Ob → Prop) (s : Sem Value) : Prop :=
  ∃ r z β' H' w', K r H' ∧ s.run P w = .ok z w' ∧ Ok β' r z ∧ Inv β' H' w' ∧ BLe β β' ∧ ∀ n0, Fr n0 β H w β' H' w'
/-- The cells of a value. -/
def svc : SV → List SV
  | .a l => l
  | x => [x]
def one1 : SV → Bool
  | .a _ => false
  | .t _ => false
  | .und => false
  | .junk => false
  | .v (.agg _) => false
  | .v (.tuple _) => false
  | _ => true
def ones : List SV → Bool
  | [] => true
  | x :: l => one1 x && ones l
theorem one1_cells {β : Bs} {x : SV} {u : Value} (h : one1 x = true) (hu : Ok β x u) : u.cells = #[u] ∧ u.oneCell' = true := by
  cases x with
  | v y =>
    have e := ok_v hu
    subst e
    cases u <;> first | (simp [one1] at h; done) | exact ⟨rfl, rfl⟩
  | p j i c => simp only [Ok] at hu; obtain ⟨g, b, _, rfl⟩ := hu; exact ⟨rfl, rfl⟩
  | e j i k c sz => simp only [Ok] at hu; obtain ⟨g, b, _, rfl⟩ := hu; exact ⟨rfl, rfl⟩
  | s j i o len cap sz => simp only [Ok] at hu; obtain ⟨A, rfl, _⟩ := hu; exact ⟨rfl, rfl⟩
  | f fn a b => simp only [Ok] at hu; obtain ⟨xs, ys, rfl, _⟩ := hu; exact ⟨rfl, rfl⟩
  | m j => simp only [Ok] at hu; obtain ⟨g, b, _, rfl⟩ := hu; exact ⟨rfl, rfl⟩
  | a l => simp [one1] at h
  | t l => simp [one1] at h
  | und => simp [one1] at h
  | junk => simp [one1] at h
theorem svc_cells {β : Bs} {x : SV} {u : Value} (h : ones (svc x) = true) (hu : Ok β x u) : OkL β (svc x) u.cells.toList := by
  cases x with
  | a l => simp only [Ok] at hu; obtain ⟨xs, rfl, h2⟩ := hu; exact h2
  | _ =>
    have h1 := one1_cells (by simpa [ones, svc] using h) hu
    rw [h1.1]
    simp only [svc, OkL]
    exact ⟨u, [], rfl, hu, rfl⟩
theorem ones_cells {β : Bs} : ∀ {l : List SV} {us : List Value}, ones l = true → OkL β l us → ∀ u ∈ us, u.oneCell' = true
  | [], us, _, h => by simp only [OkL] at h; subst h; simp
  | x :: l, us, ho, h => by
    simp only [OkL] at h
    obtain ⟨u, us', rfl, h2, h3⟩ := h
    simp only [ones, Bool.and_eq_true] at ho
    intro y hy
    rcases List.mem_cons.1 hy with rfl | hy
    · exact (one1_cells ho.1 h2).2
    · exact ones_cells ho.2 h3 y hy
def newSt (t : TypeId) (cs : List SV) (H : List Ob) (K : SV → List Ob → Prop) : Prop := K (.p H.length 0 0) (H ++ [⟨t, false, .st cs⟩])
theorem newSt_does {P : Program} {β : Bs} {H : List Ob} {w : World} {K : SV → List Ob → Prop} {t : TypeId} {cs : List SV} {us : Array Value} {s : Sem Value} (h : newSt t cs H K) (hI : Inv β H w) (hu : OkL β cs us.toList)
    (hs : s.run P w = .ok (.pointer (some ⟨w.heap.size, 0, none⟩)) (w.alloc (.cells us t))) : Does P β H w K s := by
  have hb : Below w.heap.size w (w.alloc (.cells us t)) := (Below.refl _ _).alloc (Nat.le_refl _) _
  have hob : ObOk (push β H.length (some (w.heap.size, 0))) (w.alloc (.cells us t)) H.length ⟨t, false, .st cs⟩ := ⟨w.heap.size, us, push_new _ _ _, heap_alloc_new w _, OkL.mono (push_le hI _) _ _ hu⟩
  obtain ⟨h1, h2, h3⟩ := inv_new hI hb (some (w.heap.size, 0)) (fun g b e => by simp at e; omega) hob ⟨fun i hi => hi, fun h => Nat.lt_irrefl _ h⟩
  refine ⟨_, _, _, _, _, h, hs, ?_, h1, h2, h3⟩
  simp only [Ok]
  exact ⟨w.heap.size, 0, push_new _ _ _, by simp⟩
def allocK (t : TypeId) (z : Option (List Value)) (H : List Ob) (K : SV → List Ob → Prop) : Prop :=
  match z with
  | some l => newSt t (l.map SV.v) H K
  | none => False
theorem run_newVar' (P : Program) (w : World) (t : TypeId) (v : Value) : (newVar t v).run P w = .ok ⟨w.heap.size, 0, none⟩ (w.alloc (.cells v.cells t)) := by
  rfl
theorem allocK_does {P : Program} {β : Bs} {H : List Ob} {w : World} {K : SV → List Ob → Prop} {t : TypeId} (h : allocK t (tiOf P t).zero H K) (hI : Inv β H w) : Does P β H w K (Instr.alloc t true (.tuple #[])) := by
  unfold allocK at h
  split at h
  · rename_i l hz
    obtain ⟨v, h1, h2⟩ := run_zeroValue_of hz w
    refine newSt_does (us := v.cells) h hI (by rw [h2]; exact okL_vs l) ?_
    unfold Instr.alloc
    simp only [Sem.run_bind, h1, Result.andThen_ok, run_newVar', Sem.run_pure]
  · exact h.elim
def boxK (t : TypeId) (x : SV) (H : List Ob) (K : SV → List Ob → Prop) : Prop := ones (svc x) = true ∧ newSt t (svc x) H K
theorem boxK_does {P : Program} {β : Bs} {H : List Ob} {w : World} {K : SV → List Ob → Prop} {t : TypeId} {x : SV} {u : Value} (h : boxK t x H K) (hI : Inv β H w) (hu : Ok β x u) : Does P β H w K (Instr.box t u) := by
  refine newSt_does (us := u.cells) h.2 hI (svc_cells h.1 hu) ?_
  unfold Instr.box
  simp only [Sem.run_bind, Result.andThen_ok, run_newVar', Sem.run_pure]
/- ===== literals ===== -/
def spliceO : List SV → Nat → List SV → Option (List SV)
  | l, 0, [] => some l
  | _ :: l, 0, y :: c => (spliceO l 0 c).map (y :: ·)
  | x :: l, n + 1, c => (spliceO l n c).map (x :: ·)
  | _, _, _ => none
theorem spliceO_len : ∀ {l : List SV} {n : Nat} {c l' : List SV}, spliceO l n c = some l' → l'.length = l.length ∧ n + c.length ≤ l.length
  | l, 0, [], l', h => by
    have : l = l' := by cases l <;> simpa [spliceO] using h
    subst this
    simp
  | x :: l, 0, y :: c, l', h => by
    simp only [spliceO, Option.map_eq_some_iff] at h
    obtain ⟨l1, h1, rfl⟩ := h
    have := spliceO_len h1
    simp at this ⊢
    omega
  | x :: l, n + 1, c, l', h => by
    simp only [spliceO, Option.map_eq_some_iff] at h
    obtain ⟨l1, h1, rfl⟩ := h
    have := spliceO_len h1
    simp at this ⊢
    omega
  | [], 0, y :: c, l', h => by simp [spliceO] at h
  | [], n + 1, c, l', h => by simp [spliceO] at h
theorem spliceO_get : ∀ {l : List SV} {n : Nat} {c l' : List SV}, spliceO l n c = some l' → ∀ i, l'[i]? = if n ≤ i ∧ i < n + c.length then c[i - n]? else l[i]?
  | l, 0, [], l', h, i => by
    have : l = l' := by cases l <;> simpa [spliceO] using h
    subst this
    simp
  | x :: l, 0, y :: c, l', h, i => by
    simp only [spliceO, Option.map_eq_some_iff] at h
    obtain ⟨l1, h1, rfl⟩ := h
    cases i with
    | zero => simp
    | succ i =>
      have := spliceO_get h1 i
      simp at this ⊢
      exact this
  | x :: l, n + 1, c, l', h, i => by
    simp only [spliceO, Option.map_eq_some_iff] at h
    obtain ⟨l1, h1, rfl⟩ := h
    cases i with
    | zero => simp
    | succ i =>
      have := spliceO_get h1 i
      simp only [List.getElem?_cons_succ, this]
      by_cases hc : n ≤ i ∧ i < n + c.length
      · rw [if_pos hc, if_pos (by omega), show i + 1 - (n + 1) = i - n by omega]
      · rw [if_neg hc, if_neg (by omega)]
  | [], 0, y :: c, l', h, i => by simp [spliceO] at h
  | [], n + 1, c, l', h, i => by simp [spliceO] at h
/-- Cells that are replaced, in the model's way. -/
theorem fold_get (vs : List Value) (off : Nat) : ∀ (k : Nat) (cs : Array Value) (i : Nat), off + k + vs.length ≤ cs.size →
    ((vs.zipIdx k).foldl (fun cs (c, j) => cs.setIfInBounds (off + j) c) cs)[i]? = if off + k ≤ i ∧ i < off + k + vs.length then vs[i - (off + k)]? else cs[i]? := by
  induction vs with
  | nil => intro k cs i _; simp; omega
  | cons v vs ih =>
    intro k cs i hl
    simp only [List.zipIdx_cons, List.foldl_cons]
    simp only [List.length_cons] at hl ⊢
    rw [ih (k + 1) _ i (by simp; omega)]
    by_cases h1 : off + (k + 1) ≤ i ∧ i < off + (k + 1) + vs.length
    · rw [if_pos h1, if_pos (by omega), show i - (off + k) = (i - (off + (k + 1))) + 1 by omega, List.getElem?_cons_succ]
    · rw [if_neg h1]
      by_cases h2 : i = off + k
      · subst h2
        rw [if_pos (by omega), Nat.sub_self]
        simp [Array.getElem?_setIfInBounds]
        omega
      · rw [if_neg (by omega), Array.getElem?_setIfInBounds, if_neg (by omega)]
theorem fold_size (vs : List Value) (off : Nat) : ∀ (k : Nat) (cs : Array Value), ((vs.zipIdx k).foldl (fun cs (c, j) => cs.setIfInBounds (off + j) c) cs).size = cs.size := by
  induction vs with
  | nil => intro k cs; simp
  | cons v vs ih => intro k cs; simp only [List.zipIdx_cons, List.foldl_cons]; rw [ih]; simp
theorem splice_ok {β : Bs} {l c l' : List SV} {cs : Array Value} {vs : List Value} {off : Nat} (h : spliceO l off c = some l') (hl : OkL β l cs.toList) (hc : OkL β c vs) :
    OkL β l' ((vs.zipIdx).foldl (fun cs (c, j) => cs.setIfInBounds (off + j) c) cs).toList := by
  have hlen := spliceO_len h
  have hcl := okL_length hc
  have hll := okL_length hl
  have hll' : cs.size = l.length := by simpa using hll
  refine okL_of (by simp only [Array.length_toList]; rw [fold_size]; omega) fun i x hx => ?_
  rw [spliceO_get h] at hx
  have := fold_get vs off 0 cs i (by omega)
  rw [Array.getElem?_toList, this]
  by_cases hi : off ≤ i ∧ i < off + c.length
  · rw [if_pos hi] at hx
    rw [if_pos (by omega)]
    exact okL_get hc _ _ hx
  · rw [if_neg hi] at hx
    rw [if_neg (by omega)]
    have := okL_get hl _ _ hx
    simpa using this
def plS (td : TD) (i : Nat) : Option (Nat × Nat) :=
  match td with
  | .struct fs => match nth fs i with
    | some (off, _, sz) => some (off, sz)
    | none => none
  | .array _ _ esz => some (i * esz, esz)
  | _ => none
def plR (esz : Nat) (i : Nat) : Option (Nat × Nat) := some (i * esz, esz)
def fill1 (l cells : List SV) (K : List SV → Prop) (p : Nat × Nat) : Prop := lenIs l p.2 = true ∧ ones l = true ∧ optK (spliceO cells p.1 l) K
def fillK (pl : Nat → Option (Nat × Nat)) (K : List SV → Prop) : List (Nat × SV) → List SV → Prop
  | [], cells => K cells
  | (i, x) :: rest, cells => optK (pl i) (fill1 (svc x) cells (fillK pl K rest))
/-- The operands of a literal. -/
def OkP (β : Bs) : List (Nat × SV) → List (Nat × Value) → Prop
  | [], us => us = []
  | (i, x) :: l, us => ∃ u us', us = (i, u) :: us' ∧ Ok β x u ∧ OkP β l us'
theorem fillK_run {β : Bs} {pl : Nat → Option (Nat × Nat)} {K : List SV → Prop} : ∀ {parts : List (Nat × SV)} {us : List (Nat × Value)} {cells : List SV} {cs : Array Value}, fillK pl K parts cells → OkP β parts us → OkL β cells cs.toList →
    ∃ cells' cs', K cells' ∧ OkL β cells' cs'.toList ∧ Instr.fill pl cs us = some cs'
  | [], us, cells, cs, h, hp, hc => by
    simp only [OkP] at hp
    subst hp
    exact ⟨cells, cs, h, hc, rfl⟩
  | (i, x) :: rest, us, cells, cs, h, hp, hc => by
    simp only [OkP] at hp
    obtain ⟨u, us', rfl, h2, h3⟩ := hp
    simp only [fillK] at h
    obtain ⟨⟨off, sz⟩, hpl, h4, h5, h6⟩ := optK_iff h
    obtain ⟨cells', hsp, h6⟩ := optK_iff h6
    simp only at h4 hsp
    have hu := svc_cells h5 h2
    have hlen := okL_length hu
    have hl4 := lenIs_eq _ _ h4
    have hsl := spliceO_len hsp
    have hcl := okL_length hc
    have e1 : u.cells.size = sz := by simpa [hl4] using hlen
    have e2 : cs.size = cells.length := by simpa using hcl
    obtain ⟨c1, c2, h7, h8, h9⟩ := fillK_run h6 h3 (splice_ok hsp hc hu)
    refine ⟨c1, c2, h7, h8, ?_⟩
    unfold Instr.fill
    simp only [hpl]
    rw [if_neg (by simp [e1]; omega)]
    have : (u.cells.zipIdx.foldl (fun cs (x : Value × Nat) => match x with | (c, j) => cs.setIfInBounds (off + j) c) cs) = (u.cells.toList.zipIdx.foldl (fun cs (c, j) => cs.setIfInBounds (off + j) c) cs) := by
      rw [← Array.foldl_toList]; simp
    rw [this]
    exact h9
/- ===== literals, go on ===== -/
def posAll : List (Nat × Nat × Nat) → Bool
  | [] => true
  | (_, _, sz) :: l => (match sz with | 0 => false | _ + 1 => true) && posAll l
def TD.posOk (td : TD) : Bool :=
  match td with
  | .struct fs => posAll fs
  | .array _ _ (_ + 1) => true
  | _ => false
def aK (K : SV → Prop) (l : List SV) : Prop := K (.a l)
def buildK (ti : TI) (parts : List (Nat × SV)) (K : SV → Prop) : Prop :=
  match ti.zero with
  | some z => ti.td.posOk = true ∧ fillK (plS ti.td) (aK K) parts (z.map SV.v)
  | none => False
theorem places_of (P : Program) : ∀ (fs : List Field), posAll (fs.map fun f => (f.offset, f.type, P.cellsOf f.type)) = true →
    fs.mapM (fun f => (P.info? f.type).map fun i => (f.offset, i.size)) = some (fs.map fun f => (f.offset, P.cellsOf f.type))
  | [], _ => rfl
  | f :: fs, h => by
    simp only [List.map_cons, posAll, Bool.and_eq_true] at h
    have ih := places_of P fs h.2
    rw [List.mapM_cons, ih]
    cases hi : P.info? f.type with
    | none =>
      have : P.cellsOf f.type = 0 := by unfold Program.cellsOf; rw [hi]; rfl
      rw [this] at h
      simp at h
    | some i =>
      have : P.cellsOf f.type = i.size := by unfold Program.cellsOf; rw [hi]; rfl
      simp [this]
theorem plS_struct (P : Program) (fs : List Field) (i : Nat) : plS (.struct (fs.map fun f => (f.offset, f.type, P.cellsOf f.type))) i = (fs.map fun f => (f.offset, P.cellsOf f.type)).toArray[i]? := by
  simp only [plS, nth_eq, List.getElem?_map, List.getElem?_toArray]
  cases fs[i]? <;> rfl
theorem okP_of {β : Bs} {σ : Sl} {a : Act} (h : SlotsOk β σ a) : ∀ (l : List (Nat × Operand)), OkP β (l.map fun (i, x) => (i, ev σ x)) (l.map fun (i, x) => (i, a.eval x))
  | [] => by simp [OkP]
  | (i, x) :: l => by
    simp only [List.map_cons, OkP]
    exact ⟨a.eval x, _, rfl, ev_ok h x, okP_of h l⟩
theorem buildK_gives {P : Program} {β : Bs} {C : World → Prop} {K : SV → Prop} {t : TypeId} {parts : List (Nat × SV)} {us : Array (Nat × Value)} (h : buildK (tiOf P t) parts K) (hp : OkP β parts us.toList) : Gives P β C K (Instr.build t us) := by
  unfold buildK at h
  split at h
  · rename_i z hz
    obtain ⟨hpos, h⟩ := h
    simp only [tiOf] at hz
    cases hi : P.info? t with
    | none => rw [hi] at hz; cases hz
    | some it =>
      rw [hi] at hz
      simp only [Option.bind_some] at hz
      cases hzz : it.zero with
      | none => rw [hzz] at hz; cases hz
      | some zv =>
        rw [hzz] at hz
        have hzc : zv.cells.toList = z := by simpa using hz
        obtain ⟨cells', cs', h1, h2, h3⟩ := fillK_run (β := β) (cs := zv.cells) h hp (by rw [hzc]; exact okL_vs z)
        refine ⟨_, .agg cs', h1, by simp only [Ok]; exact ⟨_, rfl, h2⟩, fun w _ => run_build w t us cs' ?_⟩
        unfold Program.built
        simp only [tiOf] at hpos h3
        unfold TD.posOk at hpos
        split at hpos
        · rename_i fs htd
          obtain ⟨fds, h4, h5⟩ := td_struct htd
          rw [h5] at hpos
          have hm := places_of P _ hpos
          simp only [hi, h4, hzz, hm]
          rw [htd, h5] at h3
          have : (fun x => ((fds.toList.map fun f => (f.offset, P.cellsOf f.type)).toArray)[x]?) = plS (.struct (fds.toList.map fun f => (f.offset, f.type, P.cellsOf f.type))) := funext fun i => (plS_struct P _ i).symm
          rw [this]
          exact h3
        · rename_i n e esz htd
          obtain ⟨h4, h5⟩ := td_array htd
          obtain ⟨ie, h6, h7⟩ := info_of_size h5.symm
          simp only [hi, h4, hzz, h6]
          rw [htd] at h3
          have : (fun i => some (i * ie.size, ie.size)) = plS (.array n e (esz + 1)) := funext fun i => by simp [plS, h7]
          rw [this]
          exact h3
        · cases hpos
  · exact h.elim
/-- A new row. -/
def newRow1 (t : TypeId) (sz n : Nat) (cap : Nat) (f : Nat → List SV) (H : List Ob) (K : SV → List Ob → Prop) : Prop :=
  K (.s H.length 0 0 n cap sz) (H ++ [⟨t, false, .row sz 1 (fun _ => n) (fun _ => cap) (fun _ => f)⟩])
theorem newRow1_does {P : Program} {β : Bs} {H : List Ob} {w w' : World} {K : SV → List Ob → Prop} {t : TypeId} {sz n cap g : Nat} {f : Nat → List SV} {cur : Array Value} {s : Sem Value} (h : newRow1 t sz n cap f H K) (hI : Inv β H w)
    (hs : s.run P w = .ok (.slice (some ⟨g, 0, none⟩) n cap) w') (hb : Below w.heap.size w w') (hg : w.heap.size ≤ g) (hc : w'.heap[g]? = some (.cells cur t (0, 0))) (hsz : cur.size = cap * sz) (hnc : n ≤ cap) (hcm : cap ≤ 9223372036854775807)
    (hu : ∀ k, k < n → (f k).length = sz ∧ ∀ c x, (f k)[c]? = some x → ∃ u, cur[k * sz + c]? = some u ∧ Ok β x u) : Does P β H w K s := by
  have hob : ObOk (push β H.length (some (g, 0))) w' H.length ⟨t, false, .row sz 1 (fun _ => n) (fun _ => cap) (fun _ => f)⟩ := by
    intro i hi
    have : i = 0 := by omega
    subst this
    refine .inr ⟨g, cur, push_new _ _ _, hc, hsz, hnc, hcm, fun k hk => ⟨(hu k hk).1, fun c x hx => ?_⟩⟩
    obtain ⟨u, h1, h2⟩ := (hu k hk).2 c x hx
    exact ⟨u, h1, Ok.mono (push_le hI _) _ _ h2⟩
  obtain ⟨h1, h2, h3⟩ := inv_new hI hb (some (g, 0)) (fun g' b e => by simp at e; omega) hob ⟨fun i hi => Nat.lt_one_iff.1 hi.1, fun h => Nat.not_succ_le_zero _ h⟩
  refine ⟨_, _, _, _, _, h, hs, ?_, h1, h2, h3⟩
  simp only [Ok]
  exact ⟨_, rfl, hnc, fun _ => ⟨g, 0, push_new _ _ _, by simp⟩⟩
def repC (z : List Value) : Nat → List SV
  | 0 => []
  | n + 1 => z.map SV.v ++ repC z n
def rowF (l : List SV) (sz k : Nat) : List SV := sub l (k * sz) sz
def bsK2 (e esz len : Nat) (H : List Ob) (K : SV → List Ob → Prop) (l : List SV) : Prop := newRow1 e esz len len (rowF l esz) H K
def bsK1 (e esz len : Nat) (parts : List (Nat × SV)) (H : List Ob) (K : SV → List Ob → Prop) (z : List Value) : Prop := lenIs (z.map SV.v) (esz + 1) = true ∧ len * (esz + 1) ≤ 16777216 ∧ fillK (plR (esz + 1)) (bsK2 e (esz + 1) len H K) parts (repC z len)
def buildSliceK (P : Program) (td : TD) (len : Nat) (parts : List (Nat × SV)) (H : List Ob) (K : SV → List Ob → Prop) : Prop :=
  match td with
  | .slice e (esz + 1) => optK (tiOf P e).zero (bsK1 e esz len parts H K)
  | _ => False
theorem made_get (zs : Array Value) (n c : Nat) (h : c < n) (h0 : 0 < zs.size) : (madeCells zs n)[c]? = some (zs[c % zs.size]'(Nat.mod_lt _ h0)) := by
  have hm := Nat.mod_lt c h0
  unfold madeCells
  rw [Array.getElem?_map, Array.getElem?_range, if_pos h]
  simp only [Option.map_some]
  rw [getElem!_pos zs _ hm]
theorem repC_ok (β : Bs) (z : List Value) (zs : Array Value) (h : zs.toList = z) (h0 : 0 < z.length) : ∀ n, OkL β (repC z n) (madeCells zs (n * z.length)).toList := by
  intro n
  have hz : zs.size = z.length := by rw [← h]; simp
  have key : ∀ n, (repC z n).length = n * z.length := by
    intro n
    induction n with
    | zero => simp [repC]
    | succ n ih => simp [repC, ih, Nat.succ_mul, Nat.add_comm]
  have get : ∀ n (i : Nat), i < n * z.length → (repC z n)[i]? = (z[i % z.length]?).map SV.v := by
    intro n
    induction n with
    | zero => intro i hi; simp at hi
    | succ n ih =>
      intro i hi
      simp only [repC]
      by_cases hlt : i < z.length
      · rw [List.getElem?_append_left (by simpa using hlt), List.getElem?_map, Nat.mod_eq_of_lt hlt]
      · rw [List.getElem?_append_right (by simpa using hlt), List.length_map, ih (i - z.length) (by rw [Nat.add_mul, Nat.one_mul] at hi; omega)]
        rw [← Nat.mod_eq_sub_mod (show i ≥ z.length by omega)]
  refine okL_of (by simp [size_madeCells, key]) fun c x hx => ?_
  have hc : c < n * z.length := by rw [← key n]; exact (List.getElem?_eq_some_iff.1 hx).1
  rw [get n c hc] at hx
  have hm := Nat.mod_lt c h0
  rw [List.getElem?_eq_getElem hm] at hx
  simp at hx
  subst hx
  refine ⟨z[c % z.length], ?_, by simp only [Ok]⟩
  subst h
  rw [Array.getElem?_toList, made_get _ _ _ hc (by omega)]
  simp
theorem run_buildSlice {P : Program} (w : World) {t e esz : Nat} {ie : TypeInfo} {zv : Value} (ht : P.underlying t = some (.slice e)) (hi : P.info? e = some ie) (hs : ie.size = esz) (hz : ie.zero = some zv) (len : Nat) (us : Array (Nat × Value)) (cs : Array Value)
    (hc : Instr.fill (fun i => some (i * esz, esz)) (madeCells zv.cells (len * esz)) us.toList = some cs) (hlim : len * esz ≤ 16777216) : (Instr.buildSlice t len us).run P w = .ok (.slice (some ⟨w.heap.size, 0, none⟩) len len) (w.alloc (.cells cs e)) := by
  subst hs
  have hlim' : ¬ (16777216 < len * ie.size) := by omega
  unfold madeCells at hc
  by_cases h0 : len * ie.size = 0
  · have hc' : Instr.fill (fun i => some (i * ie.size, ie.size)) #[] us.toList = some cs := by rw [h0] at hc; simpa [Array.range_zero'] using hc
    simp [Instr.buildSlice, run_underlying ht, sizeOf, typeInfo, hi, h0, newRow, Array.range_zero', hc']
  · simp [Instr.buildSlice, run_underlying ht, sizeOf, typeInfo, zeroValue, hz, hi, hlim', h0, newRow, hc]
theorem zero_of {P : Program} {e : TypeId} {z : List Value} (hz : (tiOf P e).zero = some z) : ∃ ie zv, P.info? e = some ie ∧ ie.zero = some zv ∧ zv.cells.toList = z ∧ ie.size = P.cellsOf e ∧ ie.bytes = P.bytesOf e := by
  simp only [tiOf] at hz
  cases hi : P.info? e with
  | none => rw [hi] at hz; cases hz
  | some it =>
    rw [hi] at hz
    simp only [Option.bind_some] at hz
    cases hzz : it.zero with
    | none => rw [hzz] at hz; cases hz
    | some zv =>
      rw [hzz] at hz
      exact ⟨it, zv, rfl, hzz, by simpa using hz, by unfold Program.cellsOf; rw [hi]; rfl, by unfold Program.bytesOf; rw [hi]; rfl⟩
theorem buildSliceK_does {P : Program} {β : Bs} {H : List Ob} {w : World} {K : SV → List Ob → Prop} {t : TypeId} {len : Nat} {parts : List (Nat × SV)} {us : Array (Nat × Value)} (h : buildSliceK P (tdOf P t) len parts H K) (hI : Inv β H w) (hp : OkP β parts us.toList) :
    Does P β H w K (Instr.buildSlice t len us) := by
  unfold buildSliceK at h
  split at h
  · rename_i e esz htd
    obtain ⟨ht, hsz⟩ := td_slice htd
    obtain ⟨z, hz, hl, hlim, h⟩ := optK_iff h
    · skip
      obtain ⟨ie, zv, hi, hzz, hzc, his, _⟩ := zero_of hz
      have hlz : z.length = esz + 1 := by have := lenIs_eq _ _ hl; simpa using this
      have hrep := repC_ok β z zv.cells hzc (by omega) len
      rw [hlz] at hrep
      obtain ⟨l, cs, h1, h2, h3⟩ := fillK_run (β := β) h hp hrep
      have hrun := run_buildSlice w ht hi (his.trans hsz.symm) hzz len us cs h3 hlim
      have hcs : cs.size = len * (esz + 1) := by
        have hlen : l.length = len * (esz + 1) := by
          have key : ∀ (parts : List (Nat × Value)) (pl : Nat → Option (Nat × Nat)) (a b : Array Value), Instr.fill pl a parts = some b → b.size = a.size := by
            intro parts
            induction parts with
            | nil => intro pl a b h; simp [Instr.fill] at h; rw [h]
            | cons q r ih =>
              intro pl a b h
              obtain ⟨i, v⟩ := q
              unfold Instr.fill at h
              split at h
              · cases h
              · split at h
                · cases h
                · have := ih _ _ _ h
                  rw [this]
                  rw [← Array.foldl_toList]
                  rw [show (v.cells.zipIdx).toList = v.cells.toList.zipIdx by simp]
                  exact fold_size _ _ _ _
          have := key _ _ _ _ h3
          rw [size_madeCells] at this
          have h4 := okL_length h2
          simp at h4
          omega
        have h4 := okL_length h2
        simp at h4
        omega
      refine newRow1_does h1 hI hrun ((Below.refl _ _).alloc (Nat.le_refl _) _) (Nat.le_refl _) (heap_alloc_new w _) hcs (Nat.le_refl _) ?_ fun k hk => ⟨?_, fun c x hx => ?_⟩
      · have : len ≤ len * (esz + 1) := Nat.le_mul_of_pos_right _ (by omega)
        omega
      · have h4 := okL_length h2
        simp at h4
        have : (k + 1) * (esz + 1) ≤ len * (esz + 1) := Nat.mul_le_mul_right _ (by omega)
        rw [Nat.succ_mul] at this
        simp [rowF, sub]
        omega
      · unfold rowF sub at hx
        rw [List.getElem?_take] at hx
        split at hx
        · rw [List.getElem?_drop] at hx
          have := okL_get h2 _ _ hx
          simpa using this
        · cases hx
  · exact h.elim
def msK1 (e esz by_ : Nat) (n m : Int) (H : List Ob) (K : SV → List Ob → Prop) (z : List Value) : Prop := lenIs (z.map SV.v) (esz + 1) = true ∧ 0 ≤ n ∧ n ≤ m ∧ (by_ : Int) * m ≤ 281474976710656 ∧ m ≤ 9223372036854775807 ∧ newRow1 e (esz + 1) n.toNat m.toNat (fun _ => z.map SV.v) H K
def makeSliceK (P : Program) (td : TD) (l c : SV) (H : List Ob) (K : SV → List Ob → Prop) : Prop :=
  match td, l, c with
  | .slice e (esz + 1), .v (.int _ n), .v (.int _ m) => optK (tiOf P e).zero (msK1 e esz (tiOf P e).bytes n m H K)
  | _, _, _ => False
theorem makeSliceK_does {P : Program} {β : Bs} {H : List Ob} {w : World} {K : SV → List Ob → Prop} {t : TypeId} {l c : SV} {u v : Value} (h : makeSliceK P (tdOf P t) l c H K) (hI : Inv β H w) (hu : Ok β l u) (hv : Ok β c v) : Does P β H w K (Instr.makeSlice t u v) := by
  unfold makeSliceK at h
  split at h
  · rename_i e esz k1 n k2 m htd
    obtain ⟨ht, hsz⟩ := td_slice htd
    obtain ⟨z, hz, hl, h0, hnm, hby, hm, h⟩ := optK_iff h
    · skip
      obtain ⟨ie, zv, hi, hzz, hzc, his, hib⟩ := zero_of hz
      have e1 := ok_v hu
      have e2 := ok_v hv
      subst e1 e2
      have hlz : z.length = esz + 1 := by have := lenIs_eq _ _ hl; simpa using this
      have hrun := run_make (P := P) w t e ie zv ht hi hzz k1 k2 n m h0 hnm (by rw [hib]; exact hby) hm
      have hs1 : ie.size = esz + 1 := his.trans hsz.symm
      rw [hs1] at hrun
      refine newRow1_does h hI hrun ((Below.refl _ _).alloc (Nat.le_refl _) _) (Nat.le_refl _) (heap_alloc_new w _) (size_madeCells _ _) (by omega) (by omega) fun k hk => ⟨by simpa using hlz, fun c x hx => ?_⟩
      have hrep := repC_ok β z zv.cells hzc (by omega) m.toNat
      have hc : c < esz + 1 := by have := (List.getElem?_eq_some_iff.1 hx).1; simpa [hlz] using this
      have hlt : k * (esz + 1) + c < m.toNat * (esz + 1) := by
        have : (k + 1) * (esz + 1) ≤ m.toNat * (esz + 1) := Nat.mul_le_mul_right _ (by omega)
        rw [Nat.succ_mul] at this
        omega
      subst hzc
      have hzs : zv.cells.size = esz + 1 := by simpa using hlz
      have hmod : (k * (esz + 1) + c) % (esz + 1) = c := by rw [Nat.add_comm, Nat.add_mul_mod_self_right]; exact Nat.mod_eq_of_lt hc
      simp only [List.getElem?_map] at hx
      have hget : zv.cells.toList[c]? = some (zv.cells.toList[c]'(by simpa [hzs] using hc)) := List.getElem?_eq_getElem _
      rw [hget] at hx
      simp at hx
      subst hx
      refine ⟨zv.cells[c]'(by omega), ?_, by simp only [Ok]⟩
      rw [made_get _ _ _ hlt (by omega)]
      simp only [hzs, hmod]
  · exact h.elim
/- ===== stores ===== -/
def mrg1 (b : Bool) : SV → SV → SV
  | .v (.int k m), .v (.int k' n) => if k = k' then .v (.int k (bif b then m else n)) else (bif b then .v (.int k m) else .v (.int k' n))
  | .v (.bool m), .v (.bool n) => .v (.bool (bif b then m else n))
  | .v (.string m), .v (.string n) => .v (.string (bif b then m else n))
  | x, y => bif b then x else y
theorem mrg1_eq (b : Bool) (x y : SV) : mrg1 b x y = bif b then x else y := by
  unfold mrg1
  split
  · split
    · rename_i h; subst h; cases b <;> rfl
    · rfl
  · cases b <;> rfl
  · cases b <;> rfl
  · rfl
def mrgL (b : Bool) : List SV → List SV → List SV
  | x :: l, y :: l' => mrg1 b x y :: mrgL b l l'
  | l, l' => bif b then l else l'
theorem mrgL_eq (b : Bool) : ∀ (l l' : List SV), l.length = l'.length → mrgL b l l' = bif b then l else l'
  | x :: l, y :: l', h => by
    simp only [mrgL, mrg1_eq, mrgL_eq b l l' (by simpa using h)]
    cases b <;> rfl
  | [], l', _ => by simp [mrgL]
  | x :: l, [], h => by simp at h
def updF (f : Nat → Nat → List SV) (i k : Nat) (l : List SV) (i' k' : Nat) : List SV := mrgL (i' == i && k' == k) l (f i' k')
def lenP : List SV → Nat → Bool
  | _ :: l, n + 1 => lenIs l n
  | _, _ => false
theorem lenP_eq {l : List SV} {n : Nat} (h : lenP l n = true) : l.length = n ∧ l.length ≠ 0 := by
  unfold lenP at h
  split at h
  · have := lenIs_eq _ _ h
    simp [this]
  · cases h
def stSt2 (ty : TypeId) (ro : Bool) (j : Nat) (H : List Ob) (K : SV → List Ob → Prop) (cs : List SV) : Prop := K .und (H.set j ⟨ty, ro, .st cs⟩)
def stRow2 (ty : TypeId) (ro : Bool) (sz N : Nat) (len cap : Nat → Nat) (f : Nat → Nat → List SV) (i k j : Nat) (H : List Ob) (K : SV → List Ob → Prop) (cs : List SV) : Prop := K .und (H.set j ⟨ty, ro, .row sz N len cap (updF f i k cs)⟩)
def stStK (o : Ob) (j i c n : Nat) (l : List SV) (H : List Ob) (K : SV → List Ob → Prop) : Prop :=
  match o.ct with
  | .st cs => o.ro = false ∧ i = 0 ∧ lenP l n = true ∧ ones l = true ∧ optK (spliceO cs c l) (stSt2 o.ty o.ro j H K)
  | _ => False
def stRowK (o : Ob) (j i k c sz n : Nat) (l : List SV) (H : List Ob) (K : SV → List Ob → Prop) : Prop :=
  match o.ct with
  | .row sz' N len cap f => o.ro = false ∧ sz' = sz ∧ i < N ∧ k < len i ∧ lenP l n = true ∧ ones l = true ∧ optK (spliceO (f i k) c l) (stRow2 o.ty o.ro sz N len cap f i k j H K)
  | _ => False
def storeK (ti : TI) (x v : SV) (H : List Ob) (K : SV → List Ob → Prop) : Prop :=
  match x with
  | .p j i c => stStK (obAt H j) j i c ti.size (svc v) H K
  | .e j i k c sz => stRowK (obAt H j) j i k c sz ti.size (svc v) H K
  | _ => False
/-- 'store' hands on nothing. -/
def DoesU (P : Program) (β : Bs) (H : List Ob) (w : World) (K : SV → List Ob → Prop) (s : Sem Unit) : Prop :=
  ∃ β' H' w', K .und H' ∧ s.run P w = .ok () w' ∧ Inv β' H' w' ∧ BLe β β' ∧ ∀ n0, Fr n0 β H w β' H' w'
theorem cellsOf_pos_size {P : Program} {t : TypeId} {n : Nat} (h : P.cellsOf t = n) (hn : n ≠ 0) (w : World) : (sizeOf t).run P w = .ok n w := by
  cases n with
  | zero => exact absurd rfl hn
  | succ n => exact run_sizeOf_of h w
/-- Cells of a block that are written. -/
theorem store_run {P : Program} {w : World} {t : TypeId} {u : Value} {g off : Nat} {cur : Array Value} {T : TypeId} (hg : w.heap[g]? = some (.cells cur T (0, 0))) (hs : u.cells.size = P.cellsOf t) (h0 : u.cells.size ≠ 0) (h1 : ∀ v ∈ u.cells.toList, v.oneCell' = true) (hl : off + u.cells.size ≤ cur.size) :
    (Instr.storeAt t (.pointer (some ⟨g, off, none⟩)) u).run P w = .ok () (w.setRow g (cur.toList.take off ++ u.cells.toList ++ cur.toList.drop (off + u.cells.size)).toArray) := by
  have hr := run_storeCells_at P g off T u.cells.toList 0 cur w hg (by simpa using hl) h1
  simp only [Nat.add_zero, Array.length_toList] at hr
  have hz := cellsOf_pos_size hs.symm h0 w
  simp only [Instr.storeAt, Instr.sureAddr, storeVar, Sem.run_bind, Sem.run_pure, Result.andThen_ok, hz, hr, ne_eq, not_true_eq_false, if_false]
theorem put_get (cur : Array Value) (vs : List Value) (off i : Nat) (hl : off + vs.length ≤ cur.size) : ((cur.toList.take off ++ vs ++ cur.toList.drop (off + vs.length)).toArray)[i]? = if off ≤ i ∧ i < off + vs.length then vs[i - off]? else cur[i]? := by
  have hc : cur.toList.length = cur.size := Array.length_toList
  have ht : (cur.toList.take off).length = off := by rw [List.length_take]; omega
  simp only [List.getElem?_toArray]
  by_cases h : off ≤ i ∧ i < off + vs.length
  · rw [if_pos h, List.append_assoc, List.getElem?_append_right (by omega), List.getElem?_append_left (by omega), ht]
  · rw [if_neg h]
    by_cases h1 : i < off
    · rw [List.append_assoc, List.getElem?_append_left (by omega), List.getElem?_take_of_lt h1]
      simp
    · rw [List.getElem?_append_right (by simp; omega), List.length_append, ht, List.getElem?_drop, show off + vs.length + (i - (off + vs.length)) = i by omega]
      simp
theorem setRow_rest (w : World) (g : Nat) (cs : Array Value) : (w.setRow g cs).tape = w.tape ∧ (w.setRow g cs).os = w.os ∧ (w.setRow g cs).output = w.output ∧ (w.setRow g cs).heap.size = w.heap.size := ⟨rfl, rfl, rfl, by simp [World.setRow]⟩
theorem storeK_does {P : Program} {β : Bs} {H : List Ob} {w : World} {K : SV → List Ob → Prop} {t : TypeId} {x v : SV} {u z : Value} (h : storeK (tiOf P t) x v H K) (hI : Inv β H w) (hu : Ok β x u) (hv : Ok β v z) : DoesU P β H w K (Instr.storeAt t u z) := by
  unfold storeK at h
  split at h
  · rename_i j i c
    unfold stStK at h
    split at h
    · rename_i cs hct
      obtain ⟨hro, rfl, hlen, hone, h⟩ := h
      obtain ⟨cs', hsp, h⟩ := optK_iff h
      · have hg := obAt_get (H := H) (j := j) (by rw [hct]; intro e; cases e)
        have ho := hI.ob j _ hg
        unfold ObOk at ho
        rw [hct] at ho
        obtain ⟨g, cur, h1, h2, h3⟩ := ho
        simp only [Ok] at hu
        obtain ⟨g', b, h4, rfl⟩ := hu
        rw [h1] at h4
        obtain ⟨rfl, rfl⟩ : g = g' ∧ 0 = b := by simpa using h4
        have hvc := svc_cells hone hv
        have hlp := lenP_eq hlen
        have e3 : (svc v).length = z.cells.size := by have := okL_length hvc; simp at this; omega
        have e1 : z.cells.size = P.cellsOf t := by rw [← e3]; exact hlp.1
        have e2 : cur.size = cs.length := by have := okL_length h3; simpa using this
        have hsl := spliceO_len hsp
        have h0 : z.cells.size ≠ 0 := by omega
        have hrun := store_run (P := P) (off := 0 + c) h2 e1 h0 (ones_cells hone hvc) (by omega)
        have hr := setRow_rest w g (cur.toList.take (0 + c) ++ z.cells.toList ++ cur.toList.drop (0 + c + z.cells.size)).toArray
        have hown : (obAt H j).own 0 := by unfold Ob.own; rw [hct]; exact ⟨rfl, hro⟩
        obtain ⟨h5, h6⟩ := inv_set (ob' := ⟨(obAt H j).ty, (obAt H j).ro, .st cs'⟩) hI hg hown h1 hr.1 hr.2.1 hr.2.2.1 hr.2.2.2 (fun k hk => setRow_other w g k _ hk)
          ⟨g, _, h1, setRow_heap w g cur _ _ _ h2, okL_of (by simp; omega) fun i x hx => by
            rw [spliceO_get hsp] at hx
            have := put_get cur z.cells.toList (0 + c) i (by simp; omega)
            simp only [Array.length_toList] at this
            rw [Array.getElem?_toList, this]
            by_cases hi : c ≤ i ∧ i < c + (svc v).length
            · rw [if_pos hi] at hx
              rw [if_pos (by omega)]
              rw [show i - (0 + c) = i - c by omega]
              exact okL_get hvc _ _ hx
            · rw [if_neg hi] at hx
              rw [if_neg (by omega)]
              have := okL_get h3 _ _ hx
              simpa using this⟩ (fun i hi => by unfold Ob.own at hi ⊢; rw [hct]; exact hi) (fun i hi => by unfold Ob.mem at hi ⊢; rw [hct]; exact hi) (fun i hi => by unfold Ob.over at hi ⊢; rw [hct]; exact hi)
        exact ⟨β, _, _, h, hrun, h5, BLe.refl β, h6⟩
    · exact h.elim
  · rename_i j i k c sz
    unfold stRowK at h
    split at h
    · rename_i sz' N len cap f hct
      obtain ⟨hro, rfl, hi, hk, hlen, hone, h⟩ := h
      obtain ⟨cs', hsp, h⟩ := optK_iff h
      · have hg := obAt_get (H := H) (j := j) (by rw [hct]; intro e; cases e)
        have ho := hI.ob j _ hg
        unfold ObOk at ho
        rw [hct] at ho
        simp only [hro, Bool.false_eq_true, if_false] at ho
        simp only [Ok] at hu
        obtain ⟨g', b, h4, rfl⟩ := hu
        rcases ho i hi with ⟨h1, _⟩ | ⟨g, cur, h1, h2, h3, h5, h6, h7⟩
        · omega
        rw [h1] at h4
        obtain ⟨rfl, rfl⟩ : g = g' ∧ 0 = b := by simpa using h4
        have hvc := svc_cells hone hv
        have hlp := lenP_eq hlen
        have e3 : (svc v).length = z.cells.size := by have := okL_length hvc; simp at this; omega
        have e1 : z.cells.size = P.cellsOf t := by rw [← e3]; exact hlp.1
        have hsl := spliceO_len hsp
        have hfl := (h7 k hk).1
        have h0 : z.cells.size ≠ 0 := by omega
        have hin : (k + 1) * sz' ≤ cap i * sz' := Nat.mul_le_mul_right _ (by omega)
        rw [Nat.succ_mul] at hin
        have hrun := store_run (P := P) (off := 0 + (k * sz' + c)) h2 e1 h0 (ones_cells hone hvc) (by omega)
        have hr := setRow_rest w g (cur.toList.take (0 + (k * sz' + c)) ++ z.cells.toList ++ cur.toList.drop (0 + (k * sz' + c) + z.cells.size)).toArray
        have hown : (obAt H j).own i := by unfold Ob.own; rw [hct]; exact ⟨hi, hro, by omega⟩
        have hpg := put_get cur z.cells.toList (0 + (k * sz' + c))
        simp only [Array.length_toList, Nat.zero_add] at hpg hrun hr
        obtain ⟨h8, h9⟩ := inv_set (ob' := ⟨(obAt H j).ty, (obAt H j).ro, .row sz' N len cap (updF f i k cs')⟩) hI hg hown h1 hr.1 hr.2.1 hr.2.2.1 hr.2.2.2 (fun k hk => setRow_other w g k _ hk)
          (by
            unfold ObOk
            simp only [hro, Bool.false_eq_true, if_false]
            intro i' hi'
            by_cases e : i' = i
            · subst e
              refine .inr ⟨g, _, h1, setRow_heap w g cur _ _ _ h2, ?_, h5, h6, fun k' hk' => ?_⟩
              · simp only [List.size_toArray, List.length_append, List.length_take, List.length_drop, Array.length_toList]; omega
              have hfl' := (h7 k' hk').1
              have hcl : (updF f i' k cs' i' k') = if k' = k then cs' else f i' k' := by
                unfold updF
                rw [mrgL_eq _ _ _ (by omega)]
                by_cases ek : k' = k
                · subst ek; simp
                · have : (k' == k) = false := by simpa using ek
                  rw [this, if_neg ek]; simp
              refine ⟨by rw [hcl]; split <;> omega, fun c' x hx => ?_⟩
              rw [hcl] at hx
              rw [hpg _ (by omega)]
              by_cases ek : k' = k
              · subst ek
                simp only [if_true] at hx
                rw [spliceO_get hsp] at hx
                by_cases hc : c ≤ c' ∧ c' < c + (svc v).length
                · rw [if_pos hc] at hx
                  rw [if_pos (by omega), show k' * sz' + c' - (k' * sz' + c) = c' - c by omega]
                  exact okL_get hvc _ _ hx
                · rw [if_neg hc] at hx
                  rw [if_neg (by omega)]
                  exact (h7 k' hk').2 _ _ hx
              · rw [if_neg ek] at hx
                have hc' : c' < sz' := by have := (List.getElem?_eq_some_iff.1 hx).1; omega
                rw [if_neg ?_]
                · exact (h7 k' hk').2 _ _ hx
                · rcases Nat.lt_or_gt_of_ne ek with hlt | hlt
                  · have : (k' + 1) * sz' ≤ k * sz' := Nat.mul_le_mul_right _ (by omega)
                    rw [Nat.succ_mul] at this
                    omega
                  · have : (k + 1) * sz' ≤ k' * sz' := Nat.mul_le_mul_right _ (by omega)
                    rw [Nat.succ_mul] at this
                    omega
            · rcases ho i' hi' with hn | ⟨g2, cur2, q1, q2, q3, q4, q5, q6⟩
              · exact .inl hn
              · rcases Nat.eq_zero_or_pos (cap i') with hz | hz
                · exact .inl ⟨by omega, hz⟩
                have hne : g2 ≠ g := fun eg => by
                  subst eg
                  have := (hI.sep j i j i' _ _ g2 0 0 hg hg hown (by unfold Ob.mem; rw [hct]; exact ⟨hi', fun hr => (by rw [hro] at hr; cases hr), fun _ => hz⟩) h1 q1).2
                  exact e this.symm
                refine .inr ⟨g2, cur2, q1, (setRow_other w g g2 _ hne).trans q2, q3, q4, q5, fun k' hk' => ?_⟩
                have e6 : updF f i k cs' i' k' = f i' k' := by
                  have : (i' == i) = false := by simpa using e
                  unfold updF
                  rw [this, mrgL_eq _ _ _ (by have := (q6 k' hk').1; omega)]
                  rfl
                rw [e6]
                exact q6 k' hk')
          (fun i hi => by unfold Ob.own at hi ⊢; rw [hct]; exact hi) (fun i hi => by unfold Ob.mem at hi ⊢; rw [hct]; exact hi) (fun i hi => by unfold Ob.over at hi ⊢; rw [hct]; exact hi)
        exact ⟨β, _, _, h, by simpa using hrun, h8, BLe.refl β, h9⟩
    · exact h.elim
  · exact h.elim

end Go.Proofs.Ytdinkpefoljigaa
