/- Regions that draw their order, walked once: operations that are quiet in every world that extends the first one; blocks that are known whole. No program in sight. -/
import Derived.WalkKit
import Derived.StillTail
import Derived.Deep.QuietTactic
import Derived.BigQuiet
import Derived.Lib.Hide
namespace Go.Proofs.Ytjpnijnbfjgnfaa
open Go.RowKit
/- ===== worlds that extend a world ===== -/
/-- The world with blocks added and some draws made. -/
structure Ex where
  bs : Array Obj
  d : Nat
instance : Inhabited Ex := ⟨⟨#[], 0⟩⟩
def pls (w : World) (xx : Ex) : World := { w with heap := w.heap ++ xx.bs, drawn := xx.d }
section
variable {w : World} {xx : Ex}
theorem size_plus : (pls w xx).heap.size = w.heap.size + xx.bs.size := by simp [pls]
theorem heap_plus (k : Nat) (h : k < w.heap.size) : (pls w xx).heap[k]? = w.heap[k]? := by
  simp [pls, Array.getElem?_append_left h]
theorem below_plus : Below w.heap.size w (pls w xx) :=
  ⟨rfl, rfl, rfl, by simp [pls], fun k hk => heap_plus k hk⟩
theorem plus_of_below {w w' : World} (h : Below w.heap.size w w') : ∃ xx : Ex, w' = pls w xx := by
  refine ⟨⟨w'.heap.extract w.heap.size w'.heap.size, w'.drawn⟩, ?_⟩
  have e : w'.heap = w.heap ++ w'.heap.extract w.heap.size w'.heap.size := by
    apply Array.ext_getElem?
    intro i
    by_cases hi : i < w.heap.size
    · rw [h.block i hi, Array.getElem?_append_left hi]
    · rw [Array.getElem?_append_right (by omega), Array.getElem?_extract]
      have := h.size
      by_cases hj : i < w'.heap.size
      · rw [if_pos (by omega)]; congr 1; omega
      · rw [Array.getElem?_eq_none (by omega), if_neg (by omega)]
  cases w' with
  | mk heap tape drawn os output =>
    obtain ⟨h1, h2, h3, _, _⟩ := h
    cases w
    simp only [pls] at *
    subst h1 h2 h3
    congr 1
theorem cell_plus {b o : Nat} {v : Value} (h : w.cell? ⟨b, o, none⟩ = some v) : ∀ xx : Ex, (pls w xx).cell? ⟨b, o, none⟩ = some v := fun _ =>
  (below_plus.cell (p := ⟨b, o, none⟩) (World.block_lt_of_cell? w _ h)).trans h
theorem frozen_plus {b o : Nat} {v : Value} (h : w.cell? ⟨b, o, none⟩ = some v) (hf : w.frozen? ⟨b, o, none⟩ = false) : ∀ xx : Ex, (pls w xx).frozen? ⟨b, o, none⟩ = false := fun _ =>
  (below_plus.frozen (p := ⟨b, o, none⟩) (World.block_lt_of_cell? w _ h)).trans hf
end
/-- The class of the worlds that extend w. -/
def Ext (w : World) (w' : World) : Prop := ∃ xx : Ex, w' = pls w xx
theorem Ext.below {w w' : World} (h : Ext w w') : Below w.heap.size w w' := by obtain ⟨xx, rfl⟩ := h; exact below_plus
theorem ext_of_below {w w' : World} (h : Below w.heap.size w w') : Ext w w' := plus_of_below h
theorem ext_trans {w : World} {xx : Ex} {w' : World} (h : Below (pls w xx).heap.size (pls w xx) w') : Ext w w' :=
  ext_of_below (below_plus.trans (h.mono (by rw [size_plus]; omega)))
/-- A contract with one value and 'Below' is quiet in the class. -/
theorem calm {P : Program} {f : FuncId} {args : Array Value} {w : World} {xx : Ex} {v : Value}
    (h : Calls P f args (pls w xx) fun e w' => e = .returned v ∧ Below (pls w xx).heap.size (pls w xx) w') :
    Calls P f args (pls w xx) fun e w'' => e = .returned v ∧ ∃ x2 : Ex, w'' = pls w x2 :=
  h.mono fun _ _ ⟨he, hb⟩ => ⟨he, ext_trans hb⟩
theorem calm_same {P : Program} {f : FuncId} {args : Array Value} {w : World} {xx : Ex} {v : Value}
    (h : Calls P f args (pls w xx) fun e w' => e = .returned v ∧ pls w xx = w') :
    Calls P f args (pls w xx) fun e w'' => e = .returned v ∧ ∃ x2 : Ex, w'' = pls w x2 :=
  h.mono fun _ _ ⟨he, hb⟩ => ⟨he, xx, hb.symm⟩

section
variable {P : Program} {ops : Array Oper} {md : Region.Mode} {C : World → Prop}

/-- A region all of whose operations are quiet in the worlds that extend w. -/
theorem wp_region_calm {id : Nat} {Q : Exit → Act → World → Prop} {a : Act} {w : World} {l : List Oper} (hm : P.follows .mixedOrders = true) (hB : Region.lexB .any l.toArray = true)
    (h : wpQuiet P l.toArray (fun w' => ∃ xx : Ex, w' = pls w xx) (fun a' => ∀ w', Below w.heap.size w w' → Q .normal a' w') l a) : (Code.region id l.toArray true).wp P Q a w := by
  refine wp_region_quiet (C := fun w' => ∃ xx : Ex, w' = pls w xx) hm hB ⟨⟨#[], w.drawn + 1⟩, by simp [pls]⟩ ?_
  have : ∀ (l' : List Oper) (a' : Act), wpQuiet P l.toArray (fun w' => ∃ xx : Ex, w' = pls w xx) (fun a' => ∀ w', Below w.heap.size w w' → Q .normal a' w') l' a' →
      wpQuiet P l.toArray (fun w' => ∃ xx : Ex, w' = pls w xx) (fun a' => ∀ w', (∃ xx : Ex, w' = pls w xx) → Q .normal a' w') l' a' := by
    intro l'
    induction l' with
    | nil => exact fun a' h' w' hw' => h' w' (by obtain ⟨xx, rfl⟩ := hw'; exact below_plus)
    | cons o r ih =>
      intro a' h'
      simp only [wpQuiet] at h' ⊢
      split
      · rename_i hw; rw [if_pos hw] at h'; exact Oper.quiet_mono ih h'
      · rename_i hw; rw [if_neg hw] at h'; exact ih _ h'
  exact this l a h

/- ===== a quiet head, then a tail in one order (after the library's StillTail) ===== -/
def wpAnyQL (P : Program) (md : Region.Mode) (ops : Array Oper) (C : World → Prop) (n : Nat) (L : Array Bool → Act → Prop) : Nat → Array Bool → Act → Prop
  | 0, listed, a => L listed a
  | f + 1, listed, a =>
    Region.ready md ops listed ≠ [] ∧ ∀ i ∈ Region.ready md ops listed, i < n ∧ qOp P ops C i (wpAnyQL P md ops C n L f (listed.setIfInBounds i true)) a
theorem wpAny_of_headQ {n g : Nat} {L : Array Bool → Act → Prop} {Q' : Exit → Act → World → Prop} (hL : ∀ listed a w, C w → L listed a → wpAny P md ops Q' g listed a w) :
    ∀ (f : Nat) (listed : Array Bool) (a : Act) (w : World), C w → wpAnyQL P md ops C n L f listed a → wpAny P md ops Q' (f + g) listed a w
  | 0, listed, a, w, hw, h => by rw [Nat.zero_add]; exact hL _ _ _ hw h
  | f + 1, listed, a, w, hw, h => by
    rw [show f + 1 + g = (f + g) + 1 by omega]
    exact ⟨fun h0 => absurd h0 h.1, fun i hi => wpOp_of_qOp hw (fun a' w' hw' h' => wpAny_of_headQ hL f _ a' w' hw' h') (h.2 i hi).2⟩
theorem wpAnyQL_first {n i : Nat} {oi : Oper} {v : Value} {L : Array Bool → Act → Prop} (hi : ops[i]? = some oi) (hsel : ∀ (j : Nat) (o : Oper) cs b, ops[j]? = some o → o.op ≠ .select cs b)
    (hs : Region.sinkB md ops n = true) (hc : Region.chainB md ops n = true) (hn : n < ops.size) (hin : i < n)
    (hdone : ∀ listed a, L listed a → ∀ j ∈ Region.ready md ops listed, n ≤ j) :
    ∀ (f : Nat) (listed : Array Bool) (a : Act), HeadInv md ops n listed →
      (∀ j oj, ops[j]? = some oj → j ≠ i → listed.getD j true = false → (∀ e ∈ oj.after, Region.binds md e = true → e.on ≠ i) → oi.apart ops oj = true) →
      i ∈ Region.ready md ops listed → YieldsIn P ops C oi v a →
      wpAnyQL P md ops C n L f (listed.setIfInBounds i true) (a.put oi.dst v) → wpAnyQL P md ops C n L (f + 1) listed a := by
  intro f
  induction f with
  | zero =>
    intro listed a inv _ hr hy H
    have hun := (mem_ready.1 hr).1
    refine ⟨fun h => (by rw [h] at hr; cases hr), fun j hj => ?_⟩
    have hjn : j < n := by
      rcases Nat.lt_or_ge j n with h | h
      · exact h
      · exact absurd hj (tail_waits hs hc hn inv _ i rfl hin hun j h)
    refine ⟨hjn, ?_⟩
    by_cases hji : j = i
    · subst hji; exact hy.qOp hi H
    · have := hdone _ _ H j (ready_mono hj hji)
      omega
  | succ f ih =>
    intro listed a inv hfree hr hy H
    have hun := (mem_ready.1 hr).1
    refine ⟨fun h => (by rw [h] at hr; cases hr), fun j hj => ?_⟩
    have hjn : j < n := by
      rcases Nat.lt_or_ge j n with h | h
      · exact h
      · exact absurd hj (tail_waits hs hc hn inv _ i rfl hin hun j h)
    refine ⟨hjn, ?_⟩
    by_cases hji : j = i
    · subst hji; exact hy.qOp hi H
    · have h1 := (H.2 j (ready_mono hj hji)).2
      obtain ⟨hjun, oj, hoj, hall⟩ := mem_ready.1 hj
      have hnot : ∀ e ∈ oj.after, Region.binds md e = true → e.on ≠ i := fun e he hb heq => by
        have h1 := hall e he hb
        rw [heq, getD_both hun] at h1
        cases h1
      have h2 := qOp_put hoj (hfree j oj hoj hji hjun hnot) (fun cs b => hsel i oi cs b hi) (fun cs b => hsel j oj cs b hoj) hy h1
      have hfree' : ∀ k ok, ops[k]? = some ok → k ≠ i → (listed.setIfInBounds j true).getD k true = false →
          (∀ e ∈ ok.after, Region.binds md e = true → e.on ≠ i) → oi.apart ops ok = true := fun k ok hk hki hun hno => by
        refine hfree k ok hk hki ?_ hno
        by_cases hjk : j = k
        · subst hjk; exact hjun
        · rw [getD_set_ne true hjk] at hun; exact hun
      refine qOp_mono (fun a' h3 => ih (listed.setIfInBounds j true) a' (inv.set hj hjn) hfree' (ready_mono hr (Ne.symm hji)) h3.1 ?_) h2
      rw [Array.setIfInBounds_comm _ _ hji]
      exact h3.2
theorem wpAnyQL_lex {n g : Nat} {Lq : Act → Prop} (hsel : Region.noSelect ops = true) (hs : Region.sinkB md ops n = true) (hc : Region.chainB md ops n = true) (hn : n < ops.size) :
    ∀ (l : List Oper) (k : Nat) (listed : Array Bool) (a : Act), (∀ j, j < l.length → l[j]? = ops[k + j]?) → k + l.length = n → HeadInv md ops n listed →
    Region.lexHead md ops g l.length k listed = true → wpQuiet P ops C Lq l a →
    wpAnyQL P md ops C n (fun listed' a' => Region.seqB md ops g n listed' = true ∧ Lq a') l.length listed a
  | [], k, listed, a, _, hk, _, hB, h => by
    have : k = n := by simpa using hk
    subst this
    exact ⟨by simpa [Region.lexHead] using hB, h⟩
  | o :: l, k, listed, a, hl, hk, inv, hB, h => by
    have h0 : ops[k]? = some o := by simpa using (hl 0 (by simp)).symm
    simp only [List.length_cons, Region.lexHead, Bool.and_eq_true] at hB
    obtain ⟨⟨hr, hf⟩, hB'⟩ := hB
    have hkn : k < n := by simp only [List.length_cons] at hk; omega
    have hr' : k ∈ Region.ready md ops listed := by simpa using hr
    have hst : qOp P ops C k (wpQuiet P ops C Lq l) a := by unfold qOp; simp only [h0]; exact h
    obtain ⟨v, hy, hK⟩ := yieldsIn_of_qOp h0 hst
    exact wpAnyQL_first h0 (Region.noSelect_spec hsel) hs hc hn hkn (fun listed' a' hL => seqB_ready hL.1) l.length listed a inv (Region.free_spec h0 hf) hr' hy
      (wpAnyQL_lex hsel hs hc hn l (k + 1) _ _ (fun j hj => by have := hl (j + 1) (by simp; omega); simpa [Nat.add_assoc, Nat.add_comm 1 j] using this) (by simp only [List.length_cons] at hk; omega) (inv.set hr' hkn) hB' hK)
/-- A head of n operations that are quiet in the worlds that extend w, then the others in one forced order. -/
theorem wp_region_calm_tail {id : Nat} {Q : Exit → Act → World → Prop} {a : Act} {w : World} {l : List Oper} (n : Nat) (hm : P.follows .mixedOrders = true) (hB : Region.lexTailB .any l.toArray n = true)
    (h : wpQuiet P l.toArray (fun w' => ∃ xx : Ex, w' = pls w xx) (fun a' => ∀ w', Below w.heap.size w w' → wpList P l.toArray Q (l.drop n) a' w') (l.take n) a) : (Code.region id l.toArray true).wp P Q a w := by
  simp only [Region.lexTailB, Bool.and_eq_true, decide_eq_true_eq] at hB
  obtain ⟨⟨⟨⟨hsel, hn⟩, hs⟩, hc⟩, hlex⟩ := hB
  have hn' : n < l.length := by simpa using hn
  have htl : (l.take n).length = n := by simp; omega
  have hdl : (l.drop n).length = l.toArray.size - n := by simp
  have inv0 : HeadInv .any l.toArray n (Array.replicate l.toArray.size false) :=
    ⟨by simp, fun j oj _ hl => (by rw [getD_replicate_false] at hl; cases hl), fun t _ ht => getD_in (by simpa using ht) (getD_replicate_false _ _)⟩
  have H := wpAnyQL_lex (C := fun w' => ∃ xx : Ex, w' = pls w xx) (md := .any) (g := l.toArray.size - n) hsel hs hc hn (l.take n) 0 _ a (fun j hj => by
    have hj' : j < n := by rw [htl] at hj; exact hj
    simp [hj']) (by simpa using htl) inv0 (by rw [htl]; exact hlex) h
  refine wp_region_any hm ?_
  have := wpAny_of_headQ (C := fun w' => ∃ xx : Ex, w' = pls w xx) (Q' := Q) (g := l.toArray.size - n) (fun listed a' w' hw' hL => by
    have := wpAny_of_seq (md := .any) (Q' := Q) (l.drop n) n listed a' w' (fun j => by simp [List.getElem?_drop]) (by rw [hdl]; exact hL.1) (hL.2 w' (by obtain ⟨xx, rfl⟩ := hw'; exact below_plus))
    rwa [hdl] at this) _ _ _ _ (⟨⟨#[], w.drawn + 1⟩, by simp [pls]⟩ : ∃ xx : Ex, { w with drawn := w.drawn + 1 } = pls w xx) H
  rw [htl, show n + (l.toArray.size - n) = l.toArray.size by omega] at this
  exact this
end
/- ===== a block that is known whole (after the library's page of words) ===== -/
def Blk (w : World) (g : Nat) (t : TypeId) (cs : Array Value) : Prop := w.heap[g]? = some (.cells cs t (0, 0))
section
variable {w w' : World} {g : Nat} {t : TypeId} {cs : Array Value}
theorem Blk.lt (h : Blk w g t cs) : g < w.heap.size := by
  rcases Nat.lt_or_ge g w.heap.size with hlt | hge
  · exact hlt
  · unfold Blk at h; rw [Array.getElem?_eq_none hge] at h; cases h
theorem Blk.cell (h : Blk w g t cs) (i : Nat) : w.cell? ⟨g, i, none⟩ = cs[i]? := cell_of_row w g i cs t (0, 0) h
theorem Blk.frozen (h : Blk w g t cs) (i : Nat) : w.frozen? ⟨g, i, none⟩ = false := by
  unfold Blk at h
  simp [World.frozen?, h]
theorem Blk.new (w : World) (t : TypeId) (cs : Array Value) : Blk (w.alloc (.cells cs t)) w.heap.size t cs := heap_alloc_new w _
theorem Blk.drew (h : Blk w g t cs) : Blk w.drew g t cs := h
theorem Blk.alloc (h : Blk w g t cs) (o : Obj) : Blk (w.alloc o) g t cs := (Below.heap_alloc w o g h.lt).trans h
theorem Blk.set_ (h : Blk w g t cs) (i : Nat) (u : Value) : Blk (w.setCell ⟨g, i, none⟩ u) g t (cs.setIfInBounds i u) := by
  unfold Blk at h ⊢
  simp [World.setCell, Array.getElem?_modify, h]
theorem Blk.far (h : Blk w g t cs) {p : Addr} (hp : g ≠ p.block) (u : Value) : Blk (w.setCell p u) g t cs := (Below.heap_setCell w p u g hp).trans h
theorem Blk.below {B : Nat} (h : Blk w g t cs) (hb : Below B w w') (hg : g < B) : Blk w' g t cs := (hb.block g hg).trans h
theorem Blk.grown {row : Option Nat} (h : Blk w g t cs) (hb : w.grownBy w' row) (hg : some g ≠ row) : Blk w' g t cs := (hb.block g h.lt hg).trans h
theorem Blk.ext (h : Blk w g t cs) (hb : Below w.heap.size w w') : Blk w' g t cs := h.below hb h.lt
theorem Blk.plus (h : Blk w g t cs) (xx : Ex) : Blk (pls w xx) g t cs := h.ext below_plus
/-- For the walk: the cells in all later worlds. -/
theorem Blk.cells (h : Blk w g t cs) : (∀ i, w.cell? ⟨g, i, none⟩ = cs[i]?) ∧ (∀ i, w.frozen? ⟨g, i, none⟩ = false) := ⟨h.cell, h.frozen⟩
theorem Blk.cellsP (h : Blk w g t cs) : ∀ (xx : Ex) (i : Nat), (pls w xx).cell? ⟨g, i, none⟩ = cs[i]? := fun xx i => (h.plus xx).cell i
end
theorem blk_new {w : World} {t : TypeId} {cs : Array Value} {g : Nat} (h : w.heap[g]? = some (.cells cs t (0, 0))) : Blk w g t cs := h
/-- One new block under one name of the world. -/
theorem one_new (w : World) (t1 : TypeId) (c1 : Array Value) : ∃ W, w.alloc (.cells c1 t1) = W ∧ Blk W w.heap.size t1 c1 ∧ Below w.heap.size w W ∧ w.heap.size < W.heap.size :=
  ⟨_, rfl, Blk.new w t1 c1, (Below.refl _ _).alloc (Nat.le_refl _) _, by simp⟩
/-- Two new blocks under one name of the world. -/
theorem two_new (w : World) (t1 t2 : TypeId) (c1 c2 : Array Value) : ∃ W, (w.alloc (.cells c1 t1)).alloc (.cells c2 t2) = W ∧ Blk W w.heap.size t1 c1 ∧ Blk W (w.heap.size + 1) t2 c2 ∧ Below w.heap.size w W ∧ w.heap.size + 1 < W.heap.size :=
  ⟨_, rfl, (Blk.new w t1 c1).alloc _, by have := Blk.new (w.alloc (.cells c1 t1)) t2 c2; rwa [World.size_alloc] at this, ((Below.refl _ _).alloc (Nat.le_refl _) _).alloc (by simp) _, by simp⟩
theorem three_new (w : World) (t1 t2 t3 : TypeId) (c1 c2 c3 : Array Value) : ∃ W, ((w.alloc (.cells c1 t1)).alloc (.cells c2 t2)).alloc (.cells c3 t3) = W ∧ Blk W w.heap.size t1 c1 ∧ Blk W (w.heap.size + 1) t2 c2 ∧ Blk W (w.heap.size + 1 + 1) t3 c3 ∧ Below w.heap.size w W ∧ w.heap.size + 1 + 1 < W.heap.size :=
  ⟨_, rfl, ((Blk.new w t1 c1).alloc _).alloc _, by have := (Blk.new (w.alloc (.cells c1 t1)) t2 c2).alloc (.cells c3 t3); rwa [World.size_alloc] at this,
    by have := Blk.new ((w.alloc (.cells c1 t1)).alloc (.cells c2 t2)) t3 c3; rwa [World.size_alloc, World.size_alloc] at this, (((Below.refl _ _).alloc (Nat.le_refl _) _).alloc (by simp) _).alloc (by simp; omega) _, by simp⟩
theorem size_set (w : World) (a : Addr) (v : Value) : (w.setCell a v).heap.size = w.heap.size := by simp [World.setCell]
/-- Only block g has turned. -/
structure Turned (g : Nat) (w w' : World) : Prop where
  os : w'.os = w.os
  tape : w'.tape = w.tape
  output : w'.output = w.output
  size : w'.heap.size = w.heap.size
  block : ∀ k, k ≠ g → w'.heap[k]? = w.heap[k]?
theorem Turned.refl (g : Nat) (w : World) : Turned g w w := ⟨rfl, rfl, rfl, rfl, fun _ _ => rfl⟩
theorem Turned.trans {g : Nat} {a b c : World} (h : Turned g a b) (k : Turned g b c) : Turned g a c :=
  ⟨k.os.trans h.os, k.tape.trans h.tape, k.output.trans h.output, k.size.trans h.size, fun i hi => (k.block i hi).trans (h.block i hi)⟩
theorem turned_set (w : World) (g i : Nat) (v : Value) : Turned g w (w.setCell ⟨g, i, none⟩ v) :=
  ⟨rfl, rfl, rfl, size_set _ _ _, fun k hk => Below.heap_setCell w _ v k hk⟩
theorem Turned.below {g B : Nat} {a b c : World} (h : Below B a b) (k : Turned g b c) (hg : B ≤ g) : Below B a c :=
  ⟨k.os.trans h.os, k.tape.trans h.tape, k.output.trans h.output, by rw [k.size]; exact h.size, fun i hi => (k.block i (by omega)).trans (h.block i hi)⟩
theorem Blk.turned {w w' : World} {g g' : Nat} {t : TypeId} {cs : Array Value} (h : Blk w g t cs) (k : Turned g' w w') (hne : g ≠ g') : Blk w' g t cs := (k.block g hne).trans h
/-- A row of three cells stored whole. -/
theorem set_row3 {w : World} {g : Nat} {t : TypeId} {a b c : Value} (h : Blk w g t #[a, b, c]) (x y z : Value) :
    ∃ W, ((w.setCell ⟨g, 0, none⟩ x).setCell ⟨g, 1, none⟩ y).setCell ⟨g, 2, none⟩ z = W ∧ Blk W g t #[x, y, z] ∧ Turned g w W :=
  ⟨_, rfl, by simpa using ((h.set_ 0 x).set_ 1 y).set_ 2 z, ((turned_set w g 0 x).trans (turned_set _ g 1 y)).trans (turned_set _ g 2 z)⟩
theorem set_row2 {w : World} {g : Nat} {t : TypeId} {a b : Value} (h : Blk w g t #[a, b]) (x y : Value) :
    ∃ W, (w.setCell ⟨g, 0, none⟩ x).setCell ⟨g, 1, none⟩ y = W ∧ Blk W g t #[x, y] ∧ Turned g w W :=
  ⟨_, rfl, by simpa using (h.set_ 0 x).set_ 1 y, (turned_set w g 0 x).trans (turned_set _ g 1 y)⟩
theorem set_row1 {w : World} {g : Nat} {t : TypeId} {cs : Array Value} (h : Blk w g t cs) (i : Nat) (x : Value) :
    ∃ W, w.setCell ⟨g, i, none⟩ x = W ∧ Blk W g t (cs.setIfInBounds i x) ∧ Turned g w W := ⟨_, rfl, h.set_ i x, turned_set w g i x⟩
theorem set_row9 {w : World} {g : Nat} {t : TypeId} {a b c d e f i j k : Value} (h : Blk w g t #[a, b, c, d, e, f, i, j, k]) (x0 x1 x2 x3 x4 x5 x6 x7 x8 : Value) :
    ∃ W, ((((((((w.setCell ⟨g, 0, none⟩ x0).setCell ⟨g, 1, none⟩ x1).setCell ⟨g, 2, none⟩ x2).setCell ⟨g, 3, none⟩ x3).setCell ⟨g, 4, none⟩ x4).setCell ⟨g, 5, none⟩ x5).setCell ⟨g, 6, none⟩ x6).setCell ⟨g, 7, none⟩ x7).setCell ⟨g, 8, none⟩ x8 = W ∧
      Blk W g t #[x0, x1, x2, x3, x4, x5, x6, x7, x8] ∧ Turned g w W :=
  ⟨_, rfl, by simpa using ((((((((h.set_ 0 x0).set_ 1 x1).set_ 2 x2).set_ 3 x3).set_ 4 x4).set_ 5 x5).set_ 6 x6).set_ 7 x7).set_ 8 x8,
    ((((((((turned_set w g 0 x0).trans (turned_set _ g 1 x1)).trans (turned_set _ g 2 x2)).trans (turned_set _ g 3 x3)).trans (turned_set _ g 4 x4)).trans (turned_set _ g 5 x5)).trans (turned_set _ g 6 x6)).trans (turned_set _ g 7 x7)).trans (turned_set _ g 8 x8)⟩
theorem Blk.bothP {w : World} {g : Nat} {t : TypeId} {cs : Array Value} (h : Blk w g t cs) : (∀ (xx : Ex) (i : Nat), (pls w xx).cell? ⟨g, i, none⟩ = cs[i]?) ∧ (∀ (xx : Ex) (i : Nat), (pls w xx).frozen? ⟨g, i, none⟩ = false) :=
  ⟨fun xx i => (h.plus xx).cell i, fun xx i => (h.plus xx).frozen i⟩
theorem only_of_below {a w : World} (h : Below a.heap.size a w) (row : Option Nat) : a.grownBy w row := ⟨h.os, h.tape, h.output, h.size, fun i hi _ => h.block i hi⟩
theorem own_ext {w w' : World} {base : Nat} {e : TypeId} {size : Nat} {v : Value} {n : Nat} {xs : List Value} (h : w.ownsRow base e size v n xs) (hb : Below w.heap.size w w') : w'.ownsRow base e size v n xs :=
  h.kept (only_of_below hb none) (by cases v.ownBlock <;> simp)
theorem below_grown {B : Nat} {a w w' : World} {base : Nat} {e : TypeId} {size : Nat} {v : Value} {n : Nat} {xs : List Value} (h : Below B a w) (hown : w.ownsRow base e size v n xs) (hg : w.grownBy w' v.ownBlock) (hB : B ≤ w.heap.size) (hbase : B ≤ base) : Below B a w' :=
  h.grown hg hB (fun k hk => Nat.le_trans hbase (hown.lt k hk).1)
theorem four_new (w : World) (t1 t2 t3 t4 : TypeId) (c1 c2 c3 c4 : Array Value) : ∃ W, (((w.alloc (.cells c1 t1)).alloc (.cells c2 t2)).alloc (.cells c3 t3)).alloc (.cells c4 t4) = W ∧ Blk W w.heap.size t1 c1 ∧ Blk W (w.heap.size + 1) t2 c2 ∧ Blk W (w.heap.size + 1 + 1) t3 c3 ∧ Blk W (w.heap.size + 1 + 1 + 1) t4 c4 ∧
    Below w.heap.size w W ∧ w.heap.size + 1 + 1 + 1 < W.heap.size := by
  obtain ⟨W, e, b1, b2, b3, hS, hlt⟩ := three_new w t1 t2 t3 c1 c2 c3
  rw [e]
  have hn := Blk.new W t4 c4
  have hs : W.heap.size = w.heap.size + 1 + 1 + 1 := by rw [← e]; simp
  rw [hs] at hn
  exact ⟨_, rfl, b1.alloc _, b2.alloc _, b3.alloc _, hn, hS.alloc hS.size _, by simp [hs]⟩
theorem set_row6 {w : World} {g : Nat} {t : TypeId} {a b c d e f : Value} (h : Blk w g t #[a, b, c, d, e, f]) (x0 x1 x2 x3 x4 x5 : Value) :
    ∃ W, (((((w.setCell ⟨g, 0, none⟩ x0).setCell ⟨g, 1, none⟩ x1).setCell ⟨g, 2, none⟩ x2).setCell ⟨g, 3, none⟩ x3).setCell ⟨g, 4, none⟩ x4).setCell ⟨g, 5, none⟩ x5 = W ∧ Blk W g t #[x0, x1, x2, x3, x4, x5] ∧ Turned g w W :=
  ⟨_, rfl, by simpa using (((((h.set_ 0 x0).set_ 1 x1).set_ 2 x2).set_ 3 x3).set_ 4 x4).set_ 5 x5,
    (((((turned_set w g 0 x0).trans (turned_set _ g 1 x1)).trans (turned_set _ g 2 x2)).trans (turned_set _ g 3 x3)).trans (turned_set _ g 4 x4)).trans (turned_set _ g 5 x5)⟩

end Go.Proofs.Ytjpnijnbfjgnfaa
