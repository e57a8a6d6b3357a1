/- A symbolic executor for Go code, second part: append, regions, code, contracts, loops. No program in sight. -/
import Derived.Test.YtolioflblegneaaGreatSxA
import Derived.Deep.AppendLies
import Derived.StillTail
import Derived.Deep.QuietTactic
import Derived.BigQuiet
import Derived.RangeFuncIn
import Derived.RangeFuncRecord
import Derived.RangeFuncLeaves
import Derived.RangeFuncCalls
import Derived.OrdersIn
import Derived.OrdersHeld
import Derived.Laws.Strings
import Derived.Laws.BytesArg
import Derived.Lib.AppendZeros
set_option maxRecDepth 100000
set_option linter.unusedSimpArgs false
set_option linter.unusedVariables false
namespace Go.Proofs.YtolioflblegneaaGreat
open Go.RowKit
/- ===== worlds that extend a world ===== -/
/-- The world with blocks added and some draws made. -/
structure Ex where
  bs : Array Obj
  d : Nat
instance : Inhabited Ex := ⟨⟨#[], 0⟩⟩
def pls (w : World) (xx : Ex) : World := { w with heap := w.heap ++ xx.bs, drawn := xx.d }
section
variable {w : World} {xx : Ex}
theorem size_plus : (pls w xx).heap.size = w.heap.size + xx.bs.size := by simp [pls]
theorem heap_plus (k : Nat) (h : k < w.heap.size) : (pls w xx).heap[k]? = w.heap[k]? := by
  simp [pls, Array.getElem?_append_left h]
theorem below_plus : Below w.heap.size w (pls w xx) :=
  ⟨rfl, rfl, rfl, by simp [pls], fun k hk => heap_plus k hk⟩
theorem plus_of_below {w w' : World} (h : Below w.heap.size w w') : ∃ xx : Ex, w' = pls w xx := by
  refine ⟨⟨w'.heap.extract w.heap.size w'.heap.size, w'.drawn⟩, ?_⟩
  have e : w'.heap = w.heap ++ w'.heap.extract w.heap.size w'.heap.size := by
    apply Array.ext_getElem?
    intro i
    by_cases hi : i < w.heap.size
    · rw [h.block i hi, Array.getElem?_append_left hi]
    · rw [Array.getElem?_append_right (by omega), Array.getElem?_extract]
      have := h.size
      by_cases hj : i < w'.heap.size
      · rw [if_pos (by omega)]; congr 1; omega
      · rw [Array.getElem?_eq_none (by omega), if_neg (by omega)]
  cases w' with
  | mk heap tape drawn os output =>
    obtain ⟨h1, h2, h3, _, _⟩ := h
    cases w
    simp only [pls] at *
    subst h1 h2 h3
    congr 1
end
/-- The class of the worlds that extend w. -/
def Ext (w : World) (w' : World) : Prop := ∃ xx : Ex, w' = pls w xx
theorem Ext.below {w w' : World} (h : Ext w w') : Below w.heap.size w w' := by obtain ⟨xx, rfl⟩ := h; exact below_plus
theorem ext_of_below {w w' : World} (h : Below w.heap.size w w') : Ext w w' := plus_of_below h
theorem ext_trans {w : World} {xx : Ex} {w' : World} (h : Below (pls w xx).heap.size (pls w xx) w') : Ext w w' :=
  ext_of_below (below_plus.trans (h.mono (by rw [size_plus]; omega)))
section
variable {P : Program} {ops : Array Oper} {md : Region.Mode} {C : World → Prop}

theorem any_quiet {Q : Exit → Act → World → Prop} {a : Act} {w : World} (hB : Region.lexB .any ops = true) (hC : C { w with drawn := w.drawn + 1 })
    (h : wpQuiet P ops C (fun a' => ∀ w', C w' → Q .normal a' w') ops.toList a) : wpAny P .any ops Q ops.size (Array.replicate ops.size false) a { w with drawn := w.drawn + 1 } := by
  simp only [Region.lexB, Bool.and_eq_true] at hB
  have := wpAnyQ_lex (C := C) (md := .any) hB.1 ops.toList 0 (Array.replicate ops.size false) a (by simp) (by simpa using hB.2) h
  have h2 := wpAny_of_quiet (Q := fun a' => ∀ w', C w' → Q .normal a' w') (Q' := Q) (fun _ w' hw' h => h w' hw') _ _ _ _ hC this
  simpa using h2
/-- A region all of whose operations are quiet in the worlds that extend w. -/
theorem any_calm {Q : Exit → Act → World → Prop} {a : Act} {w : World} {l : List Oper} (hB : Region.lexB .any l.toArray = true)
    (h : wpQuiet P l.toArray (fun w' => ∃ xx : Ex, w' = pls w xx) (fun a' => ∀ w', Below w.heap.size w w' → Q .normal a' w') l a) : wpAny P .any l.toArray Q l.toArray.size (Array.replicate l.toArray.size false) a { w with drawn := w.drawn + 1 } := by
  refine any_quiet (C := fun w' => ∃ xx : Ex, w' = pls w xx) hB ⟨⟨#[], w.drawn + 1⟩, by simp [pls]⟩ ?_
  have : ∀ (l' : List Oper) (a' : Act), wpQuiet P l.toArray (fun w' => ∃ xx : Ex, w' = pls w xx) (fun a' => ∀ w', Below w.heap.size w w' → Q .normal a' w') l' a' →
      wpQuiet P l.toArray (fun w' => ∃ xx : Ex, w' = pls w xx) (fun a' => ∀ w', (∃ xx : Ex, w' = pls w xx) → Q .normal a' w') l' a' := by
    intro l'
    induction l' with
    | nil => exact fun a' h' w' hw' => h' w' (by obtain ⟨xx, rfl⟩ := hw'; exact below_plus)
    | cons o r ih =>
      intro a' h'
      simp only [wpQuiet] at h' ⊢
      split
      · rename_i hw; rw [if_pos hw] at h'; exact Oper.quiet_mono ih h'
      · rename_i hw; rw [if_neg hw] at h'; exact ih _ h'
  exact this l a h

theorem wp_region_calm {id : Nat} {Q : Exit → Act → World → Prop} {a : Act} {w : World} {l : List Oper} (hm : P.follows .mixedOrders = true) (hB : Region.lexB .any l.toArray = true)
    (h : wpQuiet P l.toArray (fun w' => ∃ xx : Ex, w' = pls w xx) (fun a' => ∀ w', Below w.heap.size w w' → Q .normal a' w') l a) : (Code.region id l.toArray true).wp P Q a w := wp_region_any hm (any_calm hB h)
/- ===== a quiet head, then a tail in one order (after the library's StillTail) ===== -/
def wpAnyQL (P : Program) (md : Region.Mode) (ops : Array Oper) (C : World → Prop) (n : Nat) (L : Array Bool → Act → Prop) : Nat → Array Bool → Act → Prop
  | 0, listed, a => L listed a
  | f + 1, listed, a =>
    Region.ready md ops listed ≠ [] ∧ ∀ i ∈ Region.ready md ops listed, i < n ∧ qOp P ops C i (wpAnyQL P md ops C n L f (listed.setIfInBounds i true)) a
theorem wpAny_of_headQ {n g : Nat} {L : Array Bool → Act → Prop} {Q' : Exit → Act → World → Prop} (hL : ∀ listed a w, C w → L listed a → wpAny P md ops Q' g listed a w) :
    ∀ (f : Nat) (listed : Array Bool) (a : Act) (w : World), C w → wpAnyQL P md ops C n L f listed a → wpAny P md ops Q' (f + g) listed a w
  | 0, listed, a, w, hw, h => by rw [Nat.zero_add]; exact hL _ _ _ hw h
  | f + 1, listed, a, w, hw, h => by
    rw [show f + 1 + g = (f + g) + 1 by omega]
    exact ⟨fun h0 => absurd h0 h.1, fun i hi => wpOp_of_qOp hw (fun a' w' hw' h' => wpAny_of_headQ hL f _ a' w' hw' h') (h.2 i hi).2⟩
theorem wpAnyQL_first {n i : Nat} {oi : Oper} {v : Value} {L : Array Bool → Act → Prop} (hi : ops[i]? = some oi) (hsel : ∀ (j : Nat) (o : Oper) cs b, ops[j]? = some o → o.op ≠ .select cs b)
    (hs : Region.sinkB md ops n = true) (hc : Region.chainB md ops n = true) (hn : n < ops.size) (hin : i < n)
    (hdone : ∀ listed a, L listed a → ∀ j ∈ Region.ready md ops listed, n ≤ j) :
    ∀ (f : Nat) (listed : Array Bool) (a : Act), HeadInv md ops n listed →
      (∀ j oj, ops[j]? = some oj → j ≠ i → listed.getD j true = false → (∀ e ∈ oj.after, Region.binds md e = true → e.on ≠ i) → oi.apart ops oj = true) →
      i ∈ Region.ready md ops listed → YieldsIn P ops C oi v a →
      wpAnyQL P md ops C n L f (listed.setIfInBounds i true) (a.put oi.dst v) → wpAnyQL P md ops C n L (f + 1) listed a := by
  intro f
  induction f with
  | zero =>
    intro listed a inv _ hr hy H
    have hun := (mem_ready.1 hr).1
    refine ⟨fun h => (by rw [h] at hr; cases hr), fun j hj => ?_⟩
    have hjn : j < n := by
      rcases Nat.lt_or_ge j n with h | h
      · exact h
      · exact absurd hj (tail_waits hs hc hn inv _ i rfl hin hun j h)
    refine ⟨hjn, ?_⟩
    by_cases hji : j = i
    · subst hji; exact hy.qOp hi H
    · have := hdone _ _ H j (ready_mono hj hji)
      omega
  | succ f ih =>
    intro listed a inv hfree hr hy H
    have hun := (mem_ready.1 hr).1
    refine ⟨fun h => (by rw [h] at hr; cases hr), fun j hj => ?_⟩
    have hjn : j < n := by
      rcases Nat.lt_or_ge j n with h | h
      · exact h
      · exact absurd hj (tail_waits hs hc hn inv _ i rfl hin hun j h)
    refine ⟨hjn, ?_⟩
    by_cases hji : j = i
    · subst hji; exact hy.qOp hi H
    · have h1 := (H.2 j (ready_mono hj hji)).2
      obtain ⟨hjun, oj, hoj, hall⟩ := mem_ready.1 hj
      have hnot : ∀ e ∈ oj.after, Region.binds md e = true → e.on ≠ i := fun e he hb heq => by
        have h1 := hall e he hb
        rw [heq, getD_both hun] at h1
        cases h1
      have h2 := qOp_put hoj (hfree j oj hoj hji hjun hnot) (fun cs b => hsel i oi cs b hi) (fun cs b => hsel j oj cs b hoj) hy h1
      have hfree' : ∀ k ok, ops[k]? = some ok → k ≠ i → (listed.setIfInBounds j true).getD k true = false →
          (∀ e ∈ ok.after, Region.binds md e = true → e.on ≠ i) → oi.apart ops ok = true := fun k ok hk hki hun hno => by
        refine hfree k ok hk hki ?_ hno
        by_cases hjk : j = k
        · subst hjk; exact hjun
        · rw [getD_set_ne true hjk] at hun; exact hun
      refine qOp_mono (fun a' h3 => ih (listed.setIfInBounds j true) a' (inv.set hj hjn) hfree' (ready_mono hr (Ne.symm hji)) h3.1 ?_) h2
      rw [Array.setIfInBounds_comm _ _ hji]
      exact h3.2
theorem wpAnyQL_lex {n g : Nat} {Lq : Act → Prop} (hsel : Region.noSelect ops = true) (hs : Region.sinkB md ops n = true) (hc : Region.chainB md ops n = true) (hn : n < ops.size) :
    ∀ (l : List Oper) (k : Nat) (listed : Array Bool) (a : Act), (∀ j, j < l.length → l[j]? = ops[k + j]?) → k + l.length = n → HeadInv md ops n listed →
    Region.lexHead md ops g l.length k listed = true → wpQuiet P ops C Lq l a →
    wpAnyQL P md ops C n (fun listed' a' => Region.seqB md ops g n listed' = true ∧ Lq a') l.length listed a
  | [], k, listed, a, _, hk, _, hB, h => by
    have : k = n := by simpa using hk
    subst this
    exact ⟨by simpa [Region.lexHead] using hB, h⟩
  | o :: l, k, listed, a, hl, hk, inv, hB, h => by
    have h0 : ops[k]? = some o := by simpa using (hl 0 (by simp)).symm
    simp only [List.length_cons, Region.lexHead, Bool.and_eq_true] at hB
    obtain ⟨⟨hr, hf⟩, hB'⟩ := hB
    have hkn : k < n := by simp only [List.length_cons] at hk; omega
    have hr' : k ∈ Region.ready md ops listed := by simpa using hr
    have hst : qOp P ops C k (wpQuiet P ops C Lq l) a := by unfold qOp; simp only [h0]; exact h
    obtain ⟨v, hy, hK⟩ := yieldsIn_of_qOp h0 hst
    exact wpAnyQL_first h0 (Region.noSelect_spec hsel) hs hc hn hkn (fun listed' a' hL => seqB_ready hL.1) l.length listed a inv (Region.free_spec h0 hf) hr' hy
      (wpAnyQL_lex hsel hs hc hn l (k + 1) _ _ (fun j hj => by have := hl (j + 1) (by simp; omega); simpa [Nat.add_assoc, Nat.add_comm 1 j] using this) (by simp only [List.length_cons] at hk; omega) (inv.set hr' hkn) hB' hK)
/-- A head of n operations that are quiet in the worlds that extend w, then the others in one forced order. -/
theorem any_calm_tail {Q : Exit → Act → World → Prop} {a : Act} {w : World} {l : List Oper} (n : Nat) (hB : Region.lexTailB .any l.toArray n = true)
    (h : wpQuiet P l.toArray (fun w' => ∃ xx : Ex, w' = pls w xx) (fun a' => ∀ w', Below w.heap.size w w' → wpList P l.toArray Q (l.drop n) a' w') (l.take n) a) : wpAny P .any l.toArray Q l.toArray.size (Array.replicate l.toArray.size false) a { w with drawn := w.drawn + 1 } := by
  simp only [Region.lexTailB, Bool.and_eq_true, decide_eq_true_eq] at hB
  obtain ⟨⟨⟨⟨hsel, hn⟩, hs⟩, hc⟩, hlex⟩ := hB
  have hn' : n < l.length := by simpa using hn
  have htl : (l.take n).length = n := by simp; omega
  have hdl : (l.drop n).length = l.toArray.size - n := by simp
  have inv0 : HeadInv .any l.toArray n (Array.replicate l.toArray.size false) :=
    ⟨by simp, fun j oj _ hl => (by rw [getD_replicate_false] at hl; cases hl), fun t _ ht => getD_in (by simpa using ht) (getD_replicate_false _ _)⟩
  have H := wpAnyQL_lex (C := fun w' => ∃ xx : Ex, w' = pls w xx) (md := .any) (g := l.toArray.size - n) hsel hs hc hn (l.take n) 0 _ a (fun j hj => by
    have hj' : j < n := by rw [htl] at hj; exact hj
    simp [hj']) (by simpa using htl) inv0 (by rw [htl]; exact hlex) h
  have := wpAny_of_headQ (C := fun w' => ∃ xx : Ex, w' = pls w xx) (Q' := Q) (g := l.toArray.size - n) (fun listed a' w' hw' hL => by
    have := wpAny_of_seq (md := .any) (Q' := Q) (l.drop n) n listed a' w' (fun j => by simp [List.getElem?_drop]) (by rw [hdl]; exact hL.1) (hL.2 w' (by obtain ⟨xx, rfl⟩ := hw'; exact below_plus))
    rwa [hdl] at this) _ _ _ _ (⟨⟨#[], w.drawn + 1⟩, by simp [pls]⟩ : ∃ xx : Ex, { w with drawn := w.drawn + 1 } = pls w xx) H
  rw [htl, show n + (l.toArray.size - n) = l.toArray.size by omega] at this
  exact this
theorem wp_region_calm_tail {id : Nat} {Q : Exit → Act → World → Prop} {a : Act} {w : World} {l : List Oper} (n : Nat) (hm : P.follows .mixedOrders = true) (hB : Region.lexTailB .any l.toArray n = true)
    (h : wpQuiet P l.toArray (fun w' => ∃ xx : Ex, w' = pls w xx) (fun a' => ∀ w', Below w.heap.size w w' → wpList P l.toArray Q (l.drop n) a' w') (l.take n) a) : (Code.region id l.toArray true).wp P Q a w := wp_region_any hm (any_calm_tail n hB h)
end
/- ===== contracts ===== -/
/-- What a call comes to. -/
def Sp (P : Program) (f : FuncId) (args : List SV) (H : List Ob) (K : SV → List Ob → Prop) : Prop :=
  (∀ vs w, (callFunc f vs).run P w = .ok (.enter f vs) w) ∧
  ∀ β w vals, Inv β H w → OkL β args vals → Calls P f vals.toArray w fun e w' => ∃ r v β' H', e = .returned v ∧ K r H' ∧ Ok β' r v ∧ Inv β' H' w' ∧ Fr H.length β H w β' H' w'
theorem Sp.mono {P : Program} {f : FuncId} {args : List SV} {H : List Ob} {K K' : SV → List Ob → Prop} (h : Sp P f args H K) (hk : ∀ r H', K r H' → K' r H') : Sp P f args H K' :=
  ⟨h.1, fun β w vals hI ha => (h.2 β w vals hI ha).mono fun _ _ ⟨r, v, β', H', h1, h2, h3⟩ => ⟨r, v, β', H', h1, hk _ _ h2, h3⟩⟩
mutual
def gnd : SV → Option Value
  | .v x => some x
  | .a l => (gndL l).map fun vs => .agg vs.toArray
  | .t l => (gndL l).map fun vs => .tuple vs.toArray
  | _ => none
def gndL : List SV → Option (List Value)
  | [] => some []
  | x :: l => match gnd x, gndL l with
    | some v, some vs => some (v :: vs)
    | _, _ => none
end
mutual
theorem gnd_ok {β : Bs} : ∀ {x : SV} {v u : Value}, gnd x = some v → Ok β x u → u = v
  | .v y, v, u, h, ho => by
    have := ok_v ho
    simp only [gnd, Option.some.injEq] at h
    rw [this, h]
  | .a l, v, u, h, ho => by
    simp only [gnd, Option.map_eq_some_iff] at h
    obtain ⟨vs, h1, rfl⟩ := h
    simp only [Ok] at ho
    obtain ⟨xs, rfl, h2⟩ := ho
    rw [← gndL_ok h1 h2]
  | .t l, v, u, h, ho => by
    simp only [gnd, Option.map_eq_some_iff] at h
    obtain ⟨vs, h1, rfl⟩ := h
    simp only [Ok] at ho
    obtain ⟨xs, rfl, h2⟩ := ho
    rw [← gndL_ok h1 h2]
  | .p _ _ _, _, _, h, _ => by simp [gnd] at h
  | .e _ _ _ _ _, _, _, h, _ => by simp [gnd] at h
  | .s _ _ _ _ _ _, _, _, h, _ => by simp [gnd] at h
  | .f _ _ _, _, _, h, _ => by simp [gnd] at h
  | .und, _, _, h, _ => by simp [gnd] at h
  | .junk, _, _, h, _ => by simp [gnd] at h
theorem gndL_ok {β : Bs} : ∀ {l : List SV} {vs us : List Value}, gndL l = some vs → OkL β l us → us = vs
  | [], vs, us, h, ho => by simp only [gndL, Option.some.injEq] at h; simp only [OkL] at ho; rw [ho, h]
  | x :: l, vs, us, h, ho => by
    simp only [gndL] at h
    simp only [OkL] at ho
    obtain ⟨u, us', rfl, h2, h3⟩ := ho
    split at h
    · rename_i v vs' hv hvs
      simp only [Option.some.injEq] at h
      rw [← h, gnd_ok hv h2, gndL_ok hvs h3]
    · cases h
end
mutual
theorem gnd_fit (β : Bs) : ∀ {x : SV} {v : Value}, gnd x = some v → Ok β x v
  | .v y, v, h => by
    simp only [gnd, Option.some.injEq] at h
    simp only [Ok, h]
  | .a l, v, h => by
    simp only [gnd, Option.map_eq_some_iff] at h
    obtain ⟨vs, h1, rfl⟩ := h
    simp only [Ok]
    exact ⟨_, rfl, by simpa using gndL_fit β h1⟩
  | .t l, v, h => by
    simp only [gnd, Option.map_eq_some_iff] at h
    obtain ⟨vs, h1, rfl⟩ := h
    simp only [Ok]
    exact ⟨_, rfl, by simpa using gndL_fit β h1⟩
  | .p _ _ _, _, h => by simp [gnd] at h
  | .e _ _ _ _ _, _, h => by simp [gnd] at h
  | .s _ _ _ _ _ _, _, h => by simp [gnd] at h
  | .f _ _ _, _, h => by simp [gnd] at h
  | .und, _, h => by simp [gnd] at h
  | .junk, _, h => by simp [gnd] at h
theorem gndL_fit (β : Bs) : ∀ {l : List SV} {vs : List Value}, gndL l = some vs → OkL β l vs
  | [], vs, h => by simp only [gndL, Option.some.injEq] at h; subst h; simp only [OkL]
  | x :: l, vs, h => by
    simp only [gndL] at h
    split at h
    · rename_i v vs' hv hvs
      simp only [Option.some.injEq] at h
      subst h
      simp only [OkL]
      exact ⟨v, vs', rfl, gnd_fit β hv, gndL_fit β hvs⟩
    · cases h
end
/- ===== the executor ===== -/
/-- The orders in which a region's operations may come up: one that may be taken first, or comes up alone; or several. -/
inductive Plan where
  | fin
  | one (i : Nat) (p : Plan)
  | alt (l : List (Nat × Plan))
  | jn (p : Plan)
  | jx (p : Plan)
  | pre (J l : List Nat) (p : Plan)
  | hd (j n : Nat) (F l : List Nat) (p : Plan)
/- ===== a literal that becomes a member of a family ===== -/
def rowJ (F : Nat) (ty : TypeId) (ro : Bool) (e sz n cap : Nat) (f : Nat → List SV) (H : List Ob) (K : SV → List Ob → Prop) : Ct → Prop
  | .row sz' N ln cp g => ro = false ∧ ty = e ∧ sz' = sz ∧ K (.s F N 0 n cap sz) (H.set F ⟨ty, ro, .row sz (N + 1) (fun k => bif k == N then n else ln k) (fun k => bif k == N then cap else cp k) (fun k q => bif k == N then f q else g k q)⟩)
  | _ => False
def bsJ2 (e esz len : Nat) (H : List Ob) (K : SV → List Ob → Prop) (l : List SV) : Prop := ∃ F, rowJ F (obAt H F).ty (obAt H F).ro e esz len len (rowF l esz) H K (obAt H F).ct
def bsJ1 (e esz len : Nat) (parts : List (Nat × SV)) (H : List Ob) (K : SV → List Ob → Prop) (z : List Value) : Prop := lenIs (z.map SV.v) (esz + 1) = true ∧ len * (esz + 1) ≤ 16777216 ∧ fillK (plR (esz + 1)) (bsJ2 e (esz + 1) len H K) parts (repC z len)
def buildSliceJ (P : Program) (td : TD) (len : Nat) (parts : List (Nat × SV)) (H : List Ob) (K : SV → List Ob → Prop) (_ : Unit) : Prop :=
  match td with
  | .slice e (esz + 1) => optK (tiOf P e).zero (bsJ1 e esz len parts H K)
  | _ => False
theorem rowJ_does {P : Program} {β : Bs} {H : List Ob} {w w' : World} {K : SV → List Ob → Prop} {t : TypeId} {sz n cap g F : Nat} {f : Nat → List SV} {cur : Array Value} {s : Sem Value} (h : rowJ F (obAt H F).ty (obAt H F).ro t sz n cap f H K (obAt H F).ct) (hI : Inv β H w)
    (hs : s.run P w = .ok (.slice (some ⟨g, 0, none⟩) n cap) w') (hb : Below w.heap.size w w') (hg : w.heap.size ≤ g) (hc : w'.heap[g]? = some (.cells cur t (0, 0))) (hsz : cur.size = cap * sz) (hnc : n ≤ cap) (hcm : cap ≤ 9223372036854775807)
    (hu : ∀ k, k < n → (f k).length = sz ∧ ∀ c x, (f k)[c]? = some x → ∃ u, cur[k * sz + c]? = some u ∧ Ok β x u) : Does P β H w K s := by
  unfold rowJ at h
  split at h
  case h_2 => exact h.elim
  rename_i sz' N ln cp g' hct
  obtain ⟨hro, hty, rfl, h⟩ := h
  obtain ⟨β', h1, h2, h3, h4⟩ := inv_grow hI hb hct hro hg (by rw [hty]; exact hc) hsz hnc hcm hu
  refine ⟨_, _, _, _, _, h, hs, ?_, h2, h3, h4⟩
  simp only [Ok]
  exact ⟨_, rfl, hnc, fun _ => ⟨g, 0, h1, by simp⟩⟩
theorem buildSliceJ_does {P : Program} {β : Bs} {H : List Ob} {w : World} {K : SV → List Ob → Prop} {t : TypeId} {len : Nat} {parts : List (Nat × SV)} {us : Array (Nat × Value)} (h : buildSliceJ P (tdOf P t) len parts H K ()) (hI : Inv β H w) (hp : OkP β parts us.toList) :
    Does P β H w K (Instr.buildSlice t len us) := by
  unfold buildSliceJ at h
  split at h
  · rename_i e esz htd
    obtain ⟨ht, hsz⟩ := td_slice htd
    obtain ⟨z, hz, hl, hlim, h⟩ := optK_iff h
    · skip
      obtain ⟨ie, zv, hi, hzz, hzc, his, _⟩ := zero_of hz
      have hlz : z.length = esz + 1 := by have := lenIs_eq _ _ hl; simpa using this
      have hrep := repC_ok β z zv.cells hzc (by omega) len
      rw [hlz] at hrep
      obtain ⟨l, cs, h1, h2, h3⟩ := fillK_run (β := β) h hp hrep
      have hrun := run_buildSlice w ht hi (his.trans hsz.symm) hzz len us cs h3 hlim
      have hcs : cs.size = len * (esz + 1) := by
        have hlen : l.length = len * (esz + 1) := by
          have key : ∀ (parts : List (Nat × Value)) (pl : Nat → Option (Nat × Nat)) (a b : Array Value), Instr.fill pl a parts = some b → b.size = a.size := by
            intro parts
            induction parts with
            | nil => intro pl a b h; simp [Instr.fill] at h; rw [h]
            | cons q r ih =>
              intro pl a b h
              obtain ⟨i, v⟩ := q
              unfold Instr.fill at h
              split at h
              · cases h
              · split at h
                · cases h
                · have := ih _ _ _ h
                  rw [this]
                  rw [← Array.foldl_toList]
                  rw [show (v.cells.zipIdx).toList = v.cells.toList.zipIdx by simp]
                  exact fold_size _ _ _ _
          have := key _ _ _ _ h3
          rw [size_madeCells] at this
          have h4 := okL_length h2
          simp at h4
          omega
        have h4 := okL_length h2
        simp at h4
        omega
      obtain ⟨F, h1⟩ := h1
      refine rowJ_does h1 hI hrun ((Below.refl _ _).alloc (Nat.le_refl _) _) (Nat.le_refl _) (heap_alloc_new w _) hcs (Nat.le_refl _) ?_ fun k hk => ⟨?_, fun c x hx => ?_⟩
      · have : len ≤ len * (esz + 1) := Nat.le_mul_of_pos_right _ (by omega)
        omega
      · have h4 := okL_length h2
        simp at h4
        have : (k + 1) * (esz + 1) ≤ len * (esz + 1) := Nat.mul_le_mul_right _ (by omega)
        rw [Nat.succ_mul] at this
        simp [rowF, sub]
        omega
      · unfold rowF sub at hx
        rw [List.getElem?_take] at hx
        split at hx
        · rw [List.getElem?_drop] at hx
          have := okL_get h2 _ _ hx
          simpa using this
        · cases hx
  · exact h.elim
def msJ1 (e esz by_ : Nat) (n m : Int) (H : List Ob) (K : SV → List Ob → Prop) (z : List Value) : Prop := lenIs (z.map SV.v) (esz + 1) = true ∧ 0 ≤ n ∧ n ≤ m ∧ (by_ : Int) * m ≤ 281474976710656 ∧ m ≤ 9223372036854775807 ∧ ∃ F, rowJ F (obAt H F).ty (obAt H F).ro e (esz + 1) n.toNat m.toNat (fun _ => z.map SV.v) H K (obAt H F).ct
def makeSliceJ (P : Program) (td : TD) (l c : SV) (H : List Ob) (K : SV → List Ob → Prop) (_ : Unit) : Prop :=
  match td, l, c with
  | .slice e (esz + 1), .v (.int _ n), .v (.int _ m) => optK (tiOf P e).zero (msJ1 e esz (tiOf P e).bytes n m H K)
  | _, _, _ => False
theorem makeSliceJ_does {P : Program} {β : Bs} {H : List Ob} {w : World} {K : SV → List Ob → Prop} {t : TypeId} {l c : SV} {u v : Value} (h : makeSliceJ P (tdOf P t) l c H K ()) (hI : Inv β H w) (hu : Ok β l u) (hv : Ok β c v) : Does P β H w K (Instr.makeSlice t u v) := by
  unfold makeSliceJ at h
  split at h
  · rename_i e esz k1 n k2 m htd
    obtain ⟨ht, hsz⟩ := td_slice htd
    obtain ⟨z, hz, hl, h0, hnm, hby, hm, F, h⟩ := optK_iff h
    · skip
      obtain ⟨ie, zv, hi, hzz, hzc, his, hib⟩ := zero_of hz
      have e1 := ok_v hu
      have e2 := ok_v hv
      subst e1 e2
      have hlz : z.length = esz + 1 := by have := lenIs_eq _ _ hl; simpa using this
      have hrun := run_make (P := P) w t e ie zv ht hi hzz k1 k2 n m h0 hnm (by rw [hib]; exact hby) hm
      have hs1 : ie.size = esz + 1 := his.trans hsz.symm
      rw [hs1] at hrun
      refine rowJ_does h hI hrun ((Below.refl _ _).alloc (Nat.le_refl _) _) (Nat.le_refl _) (heap_alloc_new w _) (size_madeCells _ _) (by omega) (by omega) fun k hk => ⟨by simpa using hlz, fun c x hx => ?_⟩
      have hrep := repC_ok β z zv.cells hzc (by omega) m.toNat
      have hc : c < esz + 1 := by have := (List.getElem?_eq_some_iff.1 hx).1; simpa [hlz] using this
      have hlt : k * (esz + 1) + c < m.toNat * (esz + 1) := by
        have : (k + 1) * (esz + 1) ≤ m.toNat * (esz + 1) := Nat.mul_le_mul_right _ (by omega)
        rw [Nat.succ_mul] at this
        omega
      subst hzc
      have hzs : zv.cells.size = esz + 1 := by simpa using hlz
      have hmod : (k * (esz + 1) + c) % (esz + 1) = c := by rw [Nat.add_comm, Nat.add_mul_mod_self_right]; exact Nat.mod_eq_of_lt hc
      simp only [List.getElem?_map] at hx
      have hget : zv.cells.toList[c]? = some (zv.cells.toList[c]'(by simpa [hzs] using hc)) := List.getElem?_eq_getElem _
      rw [hget] at hx
      simp at hx
      subst hx
      refine ⟨zv.cells[c]'(by omega), ?_, by simp only [Ok]⟩
      rw [made_get _ _ _ hlt (by omega)]
      simp only [hzs, hmod]
  · exact h.elim
/- ===== copy ===== -/
theorem mrgL_no : ∀ (l l' : List SV), mrgL false l l' = l'
  | [], l' => by simp [mrgL]
  | x :: l, [] => by simp [mrgL]
  | x :: l, y :: l' => by simp [mrgL, mrg1_eq, mrgL_no l l']
theorem mrgL_yes : ∀ (l l' : List SV), mrgL true l l' = l
  | [], l' => by simp [mrgL]
  | x :: l, [] => by simp [mrgL]
  | x :: l, y :: l' => by simp [mrgL, mrg1_eq, mrgL_yes l l']
def cpF (f g : Nat → Nat → List SV) (i o i2 o2 n : Nat) (i' k : Nat) : List SV := mrgL (i' == i && (decide (o ≤ k) && decide (k < o + n))) (g i2 (o2 + (k - o))) (f i' k)
def copyR (o1 o2 : Ob) (j i off i2 off2 sz n : Nat) (H : List Ob) (K : SV → List Ob → Prop) : Prop :=
  match o1.ct, o2.ct with
  | .row sz1 N ln cp f, .row sz2 N2 ln2 _ g => o1.ro = false ∧ sz1 = sz ∧ sz2 = sz ∧ i < N ∧ off + n ≤ ln i ∧ i2 < N2 ∧ off2 + n ≤ ln2 i2 ∧ 0 < n ∧ srcOk (fun k => g i2 (off2 + k)) sz n ∧ K (.v (.int .i64 (n : Nat))) (H.set j ⟨o1.ty, o1.ro, .row sz N ln cp (cpF f g i off i2 off2 n)⟩)
  | _, _ => False
def copyK (td : TD) (x y : SV) (H : List Ob) (K : SV → List Ob → Prop) : Prop :=
  match td, x, y with
  | .slice _ (sz + 1), .s j i off len _ s1, .s j2 i2 off2 len2 _ s2 => s1 = sz + 1 ∧ s2 = sz + 1 ∧ copyR (obAt H j) (obAt H j2) j i off i2 off2 (sz + 1) (min len2 len) H K
  | _, _, _ => False
theorem run_copy {P : Program} (w : World) (dT sT ty elem : TypeId) (ie : TypeInfo) (g o dLen dCap : Nat) (a : Addr) (sLen sCap : Nat) (cur : Array Value) (t : TypeId) (cs : List Value)
    (hu : P.underlying dT = some (.slice elem)) (hi : P.info? elem = some ie) (hg : w.heap[g]? = some (.cells cur t (0, 0))) (hn : cs.length = Nat.min sLen dLen * ie.size)
    (hsrc : ∀ j v, cs[j]? = some v → w.cell? (a.add j) = some v) (hfit : o + cs.length ≤ cur.size) (h1 : ∀ v ∈ cs, v.oneCell' = true) :
    (Builtin.copy_ #[dT, sT] ty #[.slice (some ⟨g, o, none⟩) dLen dCap, .slice (some a) sLen sCap]).run P w =
      .ok (goInt (Nat.min sLen dLen : Nat)) (w.setRow g (cur.toList.take o ++ cs ++ cur.toList.drop (o + cs.length)).toArray) := by
  have hl := run_loadCells_list (P := P) w a cs hsrc
  have hst := run_storeCells_at P g o t cs 0 cur w hg (by simpa using hfit) h1
  simp [Builtin.copy_, run_underlying hu, Builtin.lenOf, Builtin.firstCells, sizeOf, typeInfo, hi, ← hn, hl, hst]
/-- .. and behind the known part, into a slice's room. -/
def lnX (ln : Nat → Nat) (i m i' : Nat) : Nat := bif i' == i then max (ln i) m else ln i'
def copyX (o1 o2 : Ob) (j i off i2 off2 sz n : Nat) (H : List Ob) (K : SV → List Ob → Prop) (_ : Unit) : Prop :=
  match o1.ct, o2.ct with
  | .row sz1 N ln cp f, .row sz2 N2 ln2 _ g => o1.ro = false ∧ sz1 = sz ∧ sz2 = sz ∧ i < N ∧ off ≤ ln i ∧ off + n ≤ cp i ∧ i2 < N2 ∧ off2 + n ≤ ln2 i2 ∧ 0 < n ∧ srcOk (fun k => g i2 (off2 + k)) sz n ∧ K (.v (.int .i64 (n : Nat))) (H.set j ⟨o1.ty, o1.ro, .row sz N (lnX ln i (off + n)) cp (cpF f g i off i2 off2 n)⟩)
  | _, _ => False
def copyE (ax : Bool) (td : TD) (x y : SV) (H : List Ob) (K : SV → List Ob → Prop) : Prop :=
  match td, x, y with
  | .slice _ (sz + 1), .s j i off len _ s1, .s j2 i2 off2 len2 _ s2 => s1 = sz + 1 ∧ s2 = sz + 1 ∧ appE ax (copyR (obAt H j) (obAt H j2) j i off i2 off2 (sz + 1) (min len2 len) H K) (copyX (obAt H j) (obAt H j2) j i off i2 off2 (sz + 1) (min len2 len) H K)
  | _, _, _ => False
theorem copyK_does {P : Program} {β : Bs} {H : List Ob} {w : World} {K : SV → List Ob → Prop} {t t' ty : TypeId} {x y : SV} {u v : Value} (h : copyK (tdOf P t) x y H K) (hI : Inv β H w) (hu : Ok β x u) (hv : Ok β y v) : Does P β H w K (Builtin.copy_ #[t, t'] ty #[u, v]) := by
  unfold copyK at h
  split at h
  case h_2 => exact h.elim
  rename_i e sz j i off len cap s1 j2 i2 off2 len2 cap2 s2 htd
  obtain ⟨rfl, rfl, h⟩ := h
  obtain ⟨ht, hsz⟩ := td_slice htd
  unfold copyR at h
  split at h
  case h_2 => exact h.elim
  rename_i sz1 N ln cp f sz2 N2 ln2 cp2 gf hct hct2
  obtain ⟨hro, rfl, rfl, hiN, hfit, hi2, hfit2, hn, hsrc, h⟩ := h
  have hsrc := srcOk_all hsrc
  generalize hnn : min len2 len = n at *
  have hg := obAt_get (H := H) (j := j) (by rw [hct]; intro e; cases e)
  have ho := hI.ob j _ hg
  unfold ObOk at ho
  rw [hct] at ho
  simp only [hro, Bool.false_eq_true, if_false] at ho
  simp only [Ok] at hu hv
  obtain ⟨A, rfl, hlc, hA⟩ := hu
  obtain ⟨B, rfl, hlc2, hB⟩ := hv
  rcases ho i hiN with ⟨h0, _⟩ | ⟨g, cur, q1, q2, q3, q4, q5, q6⟩
  · omega
  obtain ⟨g', b, hb, rfl⟩ := hA (by omega)
  rw [q1] at hb
  obtain ⟨rfl, rfl⟩ : g = g' ∧ 0 = b := by simpa using hb
  obtain ⟨g2, b2, hb2, rfl⟩ := hB (by omega)
  obtain ⟨news, r1, r2, r3, r4⟩ := row_news hI hct2 hi2 hfit2 hb2 hsrc
  obtain ⟨ie, hi, hisz⟩ : ∃ ie, P.info? e = some ie ∧ ie.size = sz + 1 := by
    unfold Program.cellsOf at hsz
    cases hq : P.info? e with
    | none => rw [hq] at hsz; simp at hsz
    | some ie => rw [hq] at hsz; exact ⟨ie, rfl, hsz.symm⟩
  have hmin : Nat.min len2 len = n := hnn
  have hf1 : (off + n) * (sz + 1) ≤ cp i * (sz + 1) := Nat.mul_le_mul_right _ (by omega)
  rw [Nat.add_mul] at hf1
  have hrun := run_copy (P := P) w t t' ty e ie g (0 + off * (sz + 1)) len cap ⟨g2, b2 + off2 * (sz + 1), none⟩ len2 cap2 cur _ news ht hi q2 (by rw [hmin, hisz, r1]) r2 (by omega) r3
  rw [hmin] at hrun
  have hr := setRow_rest w g (cur.toList.take (0 + off * (sz + 1)) ++ news ++ cur.toList.drop (0 + off * (sz + 1) + news.length)).toArray
  have hpg := put_get cur news (0 + off * (sz + 1))
  have hown : (obAt H j).own i := by unfold Ob.own; rw [hct]; exact ⟨hiN, hro, by omega⟩
  have hobk : ObOk β (w.setRow g (cur.toList.take (0 + off * (sz + 1)) ++ news ++ cur.toList.drop (0 + off * (sz + 1) + news.length)).toArray) j ⟨(obAt H j).ty, (obAt H j).ro, .row (sz + 1) N ln cp (cpF f gf i off i2 off2 n)⟩ := by
    unfold ObOk
    simp only [hro, Bool.false_eq_true, if_false]
    intro i' hi'
    by_cases e1 : i' = i
    · subst e1
      refine .inr ⟨g, _, q1, setRow_heap w g cur _ _ _ q2, ?_, q4, q5, fun k hk => ?_⟩
      · simp only [List.size_toArray, List.length_append, List.length_take, List.length_drop, Array.length_toList]; omega
      · simp only [cpF, beq_self_eq_true, Bool.true_and]
        by_cases hin : off ≤ k ∧ k < off + n
        · rw [show (decide (off ≤ k) && decide (k < off + n)) = true by simp; omega, mrgL_yes]
          obtain ⟨l1, l2⟩ := hsrc (k - off) (by omega)
          refine ⟨(lenP_eq l1).1, fun c' x hx => ?_⟩
          have hc : c' < sz + 1 := by have := (List.getElem?_eq_some_iff.1 hx).1; have := (lenP_eq l1).1; omega
          obtain ⟨u, u1, u2⟩ := r4 (k - off) (by omega) c' x hx
          have t1 : off * (sz + 1) ≤ k * (sz + 1) := Nat.mul_le_mul_right _ (by omega)
          have t2 : (k + 1) * (sz + 1) ≤ (off + n) * (sz + 1) := Nat.mul_le_mul_right _ (by omega)
          rw [Nat.succ_mul, Nat.add_mul] at t2
          refine ⟨u, ?_, u2⟩
          rw [hpg _ (by omega), if_pos (by omega), ← u1]
          congr 1
          rw [Nat.sub_mul]
          omega
        · rw [show (decide (off ≤ k) && decide (k < off + n)) = false by simp; omega, mrgL_no]
          obtain ⟨s1, s2⟩ := q6 k hk
          refine ⟨s1, fun c' x hx => ?_⟩
          have hc : c' < sz + 1 := by have := (List.getElem?_eq_some_iff.1 hx).1; omega
          have hout : ¬ (0 + off * (sz + 1) ≤ k * (sz + 1) + c' ∧ k * (sz + 1) + c' < 0 + off * (sz + 1) + news.length) := by
            rintro ⟨z1, z2⟩
            rcases Nat.lt_or_ge k off with h3 | h3
            · have : (k + 1) * (sz + 1) ≤ off * (sz + 1) := Nat.mul_le_mul_right _ (by omega)
              rw [Nat.succ_mul] at this
              omega
            · have : (off + n) * (sz + 1) ≤ k * (sz + 1) := Nat.mul_le_mul_right _ (by omega)
              rw [Nat.add_mul] at this
              omega
          rw [hpg _ (by omega), if_neg hout]
          exact s2 c' x hx
    · have hne : (i' == i) = false := by simpa using e1
      simp only [cpF, hne, Bool.false_and, mrgL_no]
      rcases ho i' hi' with hnn | ⟨g3, cur2, p1, p2, p3, p4, p5, p6⟩
      · exact .inl hnn
      · rcases Nat.eq_zero_or_pos (cp i') with hz | hz
        · exact .inl ⟨by omega, hz⟩
        have hne : g3 ≠ g := fun eg => by
          subst eg
          have := (hI.sep j i j i' _ _ g3 0 0 hg hg hown (by unfold Ob.mem; rw [hct]; exact ⟨hi', fun hr => (by rw [hro] at hr; cases hr), fun _ => hz⟩) q1 p1).2
          exact e1 this.symm
        exact .inr ⟨g3, cur2, p1, (setRow_other w g g3 _ hne).trans p2, p3, p4, p5, p6⟩
  obtain ⟨h8, h9⟩ := inv_set hI hg hown q1 hr.1 hr.2.1 hr.2.2.1 hr.2.2.2 (fun k hk => setRow_other w g k _ hk) hobk
    (fun i hi => by unfold Ob.own at hi ⊢; rw [hct]; exact hi)
    (fun i hi => by unfold Ob.mem at hi ⊢; rw [hct]; exact hi)
    (fun i hi => by unfold Ob.over at hi ⊢; rw [hct]; exact hi)
  refine ⟨_, _, β, _, _, h, hrun, ?_, h8, BLe.refl β, h9⟩
  simp only [Ok, goInt]
theorem copyX_does {P : Program} {β : Bs} {H : List Ob} {w : World} {K : SV → List Ob → Prop} {t t' ty : TypeId} {e sz j i off len cap j2 i2 off2 len2 cap2 : Nat} {u v : Value} (htd : tdOf P t = .slice e (sz + 1)) (h : copyX (obAt H j) (obAt H j2) j i off i2 off2 (sz + 1) (min len2 len) H K ()) (hI : Inv β H w) (hu : Ok β (.s j i off len cap (sz + 1)) u) (hv : Ok β (.s j2 i2 off2 len2 cap2 (sz + 1)) v) : Does P β H w K (Builtin.copy_ #[t, t'] ty #[u, v]) := by
  obtain ⟨ht, hsz⟩ := td_slice htd
  unfold copyX at h
  split at h
  case h_2 => exact h.elim
  rename_i sz1 N ln cp f sz2 N2 ln2 cp2 gf hct hct2
  obtain ⟨hro, rfl, rfl, hiN, hoff, hfit, hi2, hfit2, hn, hsrc, h⟩ := h
  have hsrc := srcOk_all hsrc
  generalize hnn : min len2 len = n at *
  have hg := obAt_get (H := H) (j := j) (by rw [hct]; intro e; cases e)
  have ho := hI.ob j _ hg
  unfold ObOk at ho
  rw [hct] at ho
  simp only [hro, Bool.false_eq_true, if_false] at ho
  simp only [Ok] at hu hv
  obtain ⟨A, rfl, hlc, hA⟩ := hu
  obtain ⟨B, rfl, hlc2, hB⟩ := hv
  rcases ho i hiN with ⟨h0, h00⟩ | ⟨g, cur, q1, q2, q3, q4, q5, q6⟩
  · omega
  obtain ⟨g', b, hb, rfl⟩ := hA (by omega)
  rw [q1] at hb
  obtain ⟨rfl, rfl⟩ : g = g' ∧ 0 = b := by simpa using hb
  obtain ⟨g2, b2, hb2, rfl⟩ := hB (by omega)
  obtain ⟨news, r1, r2, r3, r4⟩ := row_news hI hct2 hi2 hfit2 hb2 hsrc
  obtain ⟨ie, hi, hisz⟩ : ∃ ie, P.info? e = some ie ∧ ie.size = sz + 1 := by
    unfold Program.cellsOf at hsz
    cases hq : P.info? e with
    | none => rw [hq] at hsz; simp at hsz
    | some ie => rw [hq] at hsz; exact ⟨ie, rfl, hsz.symm⟩
  have hmin : Nat.min len2 len = n := hnn
  have hf1 : (off + n) * (sz + 1) ≤ cp i * (sz + 1) := Nat.mul_le_mul_right _ (by omega)
  rw [Nat.add_mul] at hf1
  have hrun := run_copy (P := P) w t t' ty e ie g (0 + off * (sz + 1)) len cap ⟨g2, b2 + off2 * (sz + 1), none⟩ len2 cap2 cur _ news ht hi q2 (by rw [hmin, hisz, r1]) r2 (by omega) r3
  rw [hmin] at hrun
  have hr := setRow_rest w g (cur.toList.take (0 + off * (sz + 1)) ++ news ++ cur.toList.drop (0 + off * (sz + 1) + news.length)).toArray
  have hpg := put_get cur news (0 + off * (sz + 1))
  have hown : (obAt H j).own i := by unfold Ob.own; rw [hct]; exact ⟨hiN, hro, by omega⟩
  have hobk : ObOk β (w.setRow g (cur.toList.take (0 + off * (sz + 1)) ++ news ++ cur.toList.drop (0 + off * (sz + 1) + news.length)).toArray) j ⟨(obAt H j).ty, (obAt H j).ro, .row (sz + 1) N (lnX ln i (off + n)) cp (cpF f gf i off i2 off2 n)⟩ := by
    unfold ObOk
    simp only [hro, Bool.false_eq_true, if_false]
    intro i' hi'
    by_cases e1 : i' = i
    · subst e1
      have hmx : lnX ln i' (off + n) i' = max (ln i') (off + n) := by simp [lnX]
      rw [hmx]
      refine .inr ⟨g, _, q1, setRow_heap w g cur _ _ _ q2, ?_, by omega, q5, fun k hk => ?_⟩
      · simp only [List.size_toArray, List.length_append, List.length_take, List.length_drop, Array.length_toList]; omega
      · simp only [cpF, beq_self_eq_true, Bool.true_and]
        by_cases hin : off ≤ k ∧ k < off + n
        · rw [show (decide (off ≤ k) && decide (k < off + n)) = true by simp; omega, mrgL_yes]
          obtain ⟨l1, l2⟩ := hsrc (k - off) (by omega)
          refine ⟨(lenP_eq l1).1, fun c' x hx => ?_⟩
          have hc : c' < sz + 1 := by have := (List.getElem?_eq_some_iff.1 hx).1; have := (lenP_eq l1).1; omega
          obtain ⟨u, u1, u2⟩ := r4 (k - off) (by omega) c' x hx
          have t1 : off * (sz + 1) ≤ k * (sz + 1) := Nat.mul_le_mul_right _ (by omega)
          have t2 : (k + 1) * (sz + 1) ≤ (off + n) * (sz + 1) := Nat.mul_le_mul_right _ (by omega)
          rw [Nat.succ_mul, Nat.add_mul] at t2
          refine ⟨u, ?_, u2⟩
          rw [hpg _ (by omega), if_pos (by omega), ← u1]
          congr 1
          rw [Nat.sub_mul]
          omega
        · rw [show (decide (off ≤ k) && decide (k < off + n)) = false by simp; omega, mrgL_no]
          obtain ⟨s1, s2⟩ := q6 k (by omega)
          refine ⟨s1, fun c' x hx => ?_⟩
          have hc : c' < sz + 1 := by have := (List.getElem?_eq_some_iff.1 hx).1; omega
          have hout : ¬ (0 + off * (sz + 1) ≤ k * (sz + 1) + c' ∧ k * (sz + 1) + c' < 0 + off * (sz + 1) + news.length) := by
            rintro ⟨z1, z2⟩
            rcases Nat.lt_or_ge k off with h3 | h3
            · have : (k + 1) * (sz + 1) ≤ off * (sz + 1) := Nat.mul_le_mul_right _ (by omega)
              rw [Nat.succ_mul] at this
              omega
            · have : (off + n) * (sz + 1) ≤ k * (sz + 1) := Nat.mul_le_mul_right _ (by omega)
              rw [Nat.add_mul] at this
              omega
          rw [hpg _ (by omega), if_neg hout]
          exact s2 c' x hx
    · have hne : (i' == i) = false := by simpa using e1
      have hmx : lnX ln i (off + n) i' = ln i' := by simp [lnX, hne]
      rw [hmx]
      simp only [cpF, hne, Bool.false_and, mrgL_no]
      rcases ho i' hi' with hnn | ⟨g3, cur2, p1, p2, p3, p4, p5, p6⟩
      · exact .inl hnn
      · rcases Nat.eq_zero_or_pos (cp i') with hz | hz
        · exact .inl ⟨by omega, hz⟩
        have hne : g3 ≠ g := fun eg => by
          subst eg
          have := (hI.sep j i j i' _ _ g3 0 0 hg hg hown (by unfold Ob.mem; rw [hct]; exact ⟨hi', fun hr => (by rw [hro] at hr; cases hr), fun _ => hz⟩) q1 p1).2
          exact e1 this.symm
        exact .inr ⟨g3, cur2, p1, (setRow_other w g g3 _ hne).trans p2, p3, p4, p5, p6⟩
  obtain ⟨h8, h9⟩ := inv_set hI hg hown q1 hr.1 hr.2.1 hr.2.2.1 hr.2.2.2 (fun k hk => setRow_other w g k _ hk) hobk
    (fun i hi => by unfold Ob.own at hi ⊢; rw [hct]; exact hi)
    (fun i hi => by unfold Ob.mem at hi ⊢; rw [hct]; exact ⟨hi.1, fun hr => (by rw [hro] at hr; cases hr), hi.2.2⟩)
    (fun i hi => by unfold Ob.over at hi ⊢; rw [hct]; exact hi)
  refine ⟨_, _, β, _, _, h, hrun, ?_, h8, BLe.refl β, h9⟩
  simp only [Ok, goInt]
theorem copyE_does {P : Program} {ax : Bool} {β : Bs} {H : List Ob} {w : World} {K : SV → List Ob → Prop} {t t' ty : TypeId} {x y : SV} {u v : Value} (h : copyE ax (tdOf P t) x y H K) (hI : Inv β H w) (hu : Ok β x u) (hv : Ok β y v) : Does P β H w K (Builtin.copy_ #[t, t'] ty #[u, v]) := by
  unfold copyE at h
  split at h
  case h_2 => exact h.elim
  rename_i e sz j i off len cap s1 j2 i2 off2 len2 cap2 s2 htd
  obtain ⟨rfl, rfl, h⟩ := h
  rcases appE_or h with h | h
  · exact copyK_does (by unfold copyK; rw [htd]; exact ⟨rfl, rfl, h⟩) hI hu hv
  · exact copyX_does htd h hI hu hv
/-- A part of a member is set to the element's zero. -/
def clrR (o : Ob) (j i off sz n : Nat) (H : List Ob) (K : SV → List Ob → Prop) (z : List Value) : Prop :=
  match o.ct with
  | .row sz1 N ln cp f => lenIs (z.map SV.v) sz = true ∧ ones (z.map SV.v) = true ∧ o.ro = false ∧ sz1 = sz ∧ i < N ∧ off + n ≤ cp i ∧ 0 < n ∧ K (.t []) (H.set j ⟨o.ty, o.ro, .row sz N ln cp (cpF f (fun _ _ => z.map SV.v) i off 0 0 n)⟩)
  | _ => False
def clrK (P : Program) (td : TD) (x : SV) (H : List Ob) (K : SV → List Ob → Prop) : Prop :=
  match td, x with
  | .slice e (sz + 1), .s j i off len _ s1 => s1 = sz + 1 ∧ optK (tiOf P e).zero (clrR (obAt H j) j i off (sz + 1) len H K)
  | _, _ => False
theorem run_clear {P : Program} (w : World) (dT ty elem : TypeId) (ie : TypeInfo) (z : Value) (g o n cap : Nat) (cur : Array Value) (t : TypeId)
    (hu : P.underlying dT = some (.slice elem)) (hi : P.info? elem = some ie) (hz : ie.zero = some z) (hg : w.heap[g]? = some (.cells cur t (0, 0))) (hn : 0 < n)
    (hfit : o + (Builtin.zeroCells z.cells n).toList.length ≤ cur.size) (h1 : ∀ v ∈ (Builtin.zeroCells z.cells n).toList, v.oneCell' = true) :
    (Builtin.clear_ #[dT] ty #[.slice (some ⟨g, o, none⟩) n cap]).run P w =
      .ok (.tuple #[]) (w.setRow g (cur.toList.take o ++ (Builtin.zeroCells z.cells n).toList ++ cur.toList.drop (o + (Builtin.zeroCells z.cells n).toList.length)).toArray) := by
  have hst := run_storeCells_at P g o t (Builtin.zeroCells z.cells n).toList 0 cur w hg (by simpa using hfit) h1
  rw [Nat.add_zero] at hst
  obtain ⟨m, rfl⟩ : ∃ m, n = m + 1 := ⟨n - 1, by omega⟩
  have hzv : (zeroValue elem).run P w = .ok z w := by
    unfold zeroValue typeInfo
    simp [hi, hz]
  simp only [Builtin.clear_, Sem.run_bind, Sem.run_pure, Result.andThen_ok, run_underlying hu, hzv, hst, List.getElem?_toArray, List.getElem?_cons_zero]
theorem clr_ones : ∀ (z : List Value), ones (z.map SV.v) = true → ∀ v ∈ z, one1 (.v v) = true
  | [], _, v, h => by cases h
  | y :: z, h, v, hv => by
    simp only [List.map_cons, ones, Bool.and_eq_true] at h
    rcases List.mem_cons.1 hv with rfl | hv
    · exact h.1
    · exact clr_ones z h.2 v hv
theorem clrK_does {P : Program} {β : Bs} {H : List Ob} {w : World} {K : SV → List Ob → Prop} {t ty : TypeId} {x : SV} {u : Value} (h : clrK P (tdOf P t) x H K) (hI : Inv β H w) (hu : Ok β x u) : Does P β H w K (Builtin.clear_ #[t] ty #[u]) := by
  unfold clrK at h
  split at h
  case h_2 => exact h.elim
  rename_i e sz j i off len cap s1 htd
  obtain ⟨rfl, h⟩ := h
  obtain ⟨ht, hsz⟩ := td_slice htd
  obtain ⟨z, hz, h⟩ := optK_iff h
  obtain ⟨ie, zv, hi, hzz, hzc, his, hib⟩ := zero_of hz
  unfold clrR at h
  split at h
  case h_2 => exact h.elim
  rename_i sz1 N ln cp f hct
  obtain ⟨hl, hon, hro, rfl, hiN, hfit, hn, h⟩ := h
  have hlz : z.length = sz + 1 := by have := lenIs_eq _ _ hl; simpa using this
  have hzs : zv.cells.size = sz + 1 := by rw [← hzc] at hlz; simpa using hlz
  have hg := obAt_get (H := H) (j := j) (by rw [hct]; intro e; cases e)
  have ho := hI.ob j _ hg
  unfold ObOk at ho
  rw [hct] at ho
  simp only [hro, Bool.false_eq_true, if_false] at ho
  simp only [Ok] at hu
  obtain ⟨A, rfl, hlc, hA⟩ := hu
  rcases ho i hiN with ⟨h0, hc0⟩ | ⟨g, cur, q1, q2, q3, q4, q5, q6⟩
  · omega
  obtain ⟨g', b, hb, rfl⟩ := hA (by omega)
  rw [q1] at hb
  obtain ⟨rfl, rfl⟩ : g = g' ∧ 0 = b := by simpa using hb
  have hnl : (Builtin.zeroCells zv.cells len).toList.length = len * (sz + 1) := by rw [Array.length_toList, zeroCells_size, hzs]
  have hone : ∀ v ∈ (Builtin.zeroCells zv.cells len).toList, v.oneCell' = true := by
    intro v hv
    obtain ⟨q, hq, rfl⟩ := List.mem_iff_getElem.1 hv
    rw [hnl] at hq
    have hm : q % zv.cells.size < zv.cells.size := Nat.mod_lt _ (by omega)
    have hgt := zeroCells_get zv.cells len q (by rw [hzs]; exact hq) (by omega)
    have e1 : (Builtin.zeroCells zv.cells len).toList[q]'(by rw [hnl]; exact hq) = zv.cells[q % zv.cells.size]'hm := by
      rw [← Array.getElem?_toList, List.getElem?_eq_getElem (by rw [hnl]; exact hq)] at hgt
      exact Option.some.inj hgt
    rw [e1]
    have hmem : zv.cells[q % zv.cells.size]'hm ∈ z := by rw [← hzc]; exact Array.mem_toList_iff.2 (Array.getElem_mem _)
    exact (one1_cells (β := β) (x := .v _) (clr_ones _ hon _ hmem) (by simp only [Ok])).2
  have hf1 : (off + len) * (sz + 1) ≤ cp i * (sz + 1) := Nat.mul_le_mul_right _ (by omega)
  rw [Nat.add_mul] at hf1
  have hrun := run_clear (P := P) w t ty e ie zv g (0 + off * (sz + 1)) len cap cur _ ht hi hzz q2 hn (by rw [hnl]; omega) hone
  have r4 : ∀ k, k < len → ∀ c x, (z.map SV.v)[c]? = some x → ∃ u, (Builtin.zeroCells zv.cells len).toList[k * (sz + 1) + c]? = some u ∧ Ok β x u := by
    intro k hk c x hx
    have hc : c < sz + 1 := by have := (List.getElem?_eq_some_iff.1 hx).1; simpa [hlz] using this
    have hlt : k * (sz + 1) + c < len * (sz + 1) := by
      have : (k + 1) * (sz + 1) ≤ len * (sz + 1) := Nat.mul_le_mul_right _ (by omega)
      rw [Nat.succ_mul] at this
      omega
    have hgt := zeroCells_get zv.cells len (k * (sz + 1) + c) (by rw [hzs]; exact hlt) (by omega)
    have hmod : (k * (sz + 1) + c) % (sz + 1) = c := by rw [Nat.add_comm, Nat.add_mul_mod_self_right]; exact Nat.mod_eq_of_lt hc
    refine ⟨zv.cells[c]'(by omega), ?_, ?_⟩
    · rw [Array.getElem?_toList, hgt]
      congr 1
      simp only [hzs, hmod]
    · subst hzc
      simp only [List.getElem?_map, Array.getElem?_toList, Array.getElem?_eq_getElem (show c < zv.cells.size by omega), Option.map_some, Option.some.injEq] at hx
      subst hx
      simp only [Ok]
  generalize (Builtin.zeroCells zv.cells len).toList = news at *
  have hr := setRow_rest w g (cur.toList.take (0 + off * (sz + 1)) ++ news ++ cur.toList.drop (0 + off * (sz + 1) + news.length)).toArray
  have hpg := put_get cur news (0 + off * (sz + 1))
  have hown : (obAt H j).own i := by unfold Ob.own; rw [hct]; exact ⟨hiN, hro, by omega⟩
  have hobk : ObOk β (w.setRow g (cur.toList.take (0 + off * (sz + 1)) ++ news ++ cur.toList.drop (0 + off * (sz + 1) + news.length)).toArray) j ⟨(obAt H j).ty, (obAt H j).ro, .row (sz + 1) N ln cp (cpF f (fun _ _ => z.map SV.v) i off 0 0 len)⟩ := by
    unfold ObOk
    simp only [hro, Bool.false_eq_true, if_false]
    intro i' hi'
    by_cases e1 : i' = i
    · subst e1
      refine .inr ⟨g, _, q1, setRow_heap w g cur _ _ _ q2, ?_, q4, q5, fun k hk => ?_⟩
      · simp only [List.size_toArray, List.length_append, List.length_take, List.length_drop, Array.length_toList]; omega
      · simp only [cpF, beq_self_eq_true, Bool.true_and]
        by_cases hin : off ≤ k ∧ k < off + len
        · rw [show (decide (off ≤ k) && decide (k < off + len)) = true by simp; omega, mrgL_yes]
          refine ⟨by simpa using hlz, fun c' x hx => ?_⟩
          have hc : c' < sz + 1 := by have := (List.getElem?_eq_some_iff.1 hx).1; simpa [hlz] using this
          obtain ⟨u, u1, u2⟩ := r4 (k - off) (by omega) c' x hx
          have t1 : off * (sz + 1) ≤ k * (sz + 1) := Nat.mul_le_mul_right _ (by omega)
          have t2 : (k + 1) * (sz + 1) ≤ (off + len) * (sz + 1) := Nat.mul_le_mul_right _ (by omega)
          rw [Nat.succ_mul, Nat.add_mul] at t2
          refine ⟨u, ?_, u2⟩
          rw [hpg _ (by omega), if_pos (by omega), ← u1]
          congr 1
          rw [Nat.sub_mul]
          omega
        · rw [show (decide (off ≤ k) && decide (k < off + len)) = false by simp; omega, mrgL_no]
          obtain ⟨s1, s2⟩ := q6 k hk
          refine ⟨s1, fun c' x hx => ?_⟩
          have hc : c' < sz + 1 := by have := (List.getElem?_eq_some_iff.1 hx).1; omega
          have hkc : (k + 1) * (sz + 1) ≤ cp i' * (sz + 1) := Nat.mul_le_mul_right _ (by omega)
          rw [Nat.succ_mul] at hkc
          have hout : ¬ (0 + off * (sz + 1) ≤ k * (sz + 1) + c' ∧ k * (sz + 1) + c' < 0 + off * (sz + 1) + news.length) := by
            rintro ⟨z1, z2⟩
            rcases Nat.lt_or_ge k off with h3 | h3
            · have : (k + 1) * (sz + 1) ≤ off * (sz + 1) := Nat.mul_le_mul_right _ (by omega)
              rw [Nat.succ_mul] at this
              omega
            · have : (off + len) * (sz + 1) ≤ k * (sz + 1) := Nat.mul_le_mul_right _ (by omega)
              rw [Nat.add_mul] at this
              omega
          rw [hpg _ (by omega), if_neg hout]
          exact s2 c' x hx
    · have hne : (i' == i) = false := by simpa using e1
      simp only [cpF, hne, Bool.false_and, mrgL_no]
      rcases ho i' hi' with hnn | ⟨g3, cur2, p1, p2, p3, p4, p5, p6⟩
      · exact .inl hnn
      · rcases Nat.eq_zero_or_pos (cp i') with hz | hz
        · exact .inl ⟨by omega, hz⟩
        have hne : g3 ≠ g := fun eg => by
          subst eg
          have := (hI.sep j i j i' _ _ g3 0 0 hg hg hown (by unfold Ob.mem; rw [hct]; exact ⟨hi', fun hr => (by rw [hro] at hr; cases hr), fun _ => hz⟩) q1 p1).2
          exact e1 this.symm
        exact .inr ⟨g3, cur2, p1, (setRow_other w g g3 _ hne).trans p2, p3, p4, p5, p6⟩
  obtain ⟨h8, h9⟩ := inv_set hI hg hown q1 hr.1 hr.2.1 hr.2.2.1 hr.2.2.2 (fun k hk => setRow_other w g k _ hk) hobk
    (fun i hi => by unfold Ob.own at hi ⊢; rw [hct]; exact hi)
    (fun i hi => by unfold Ob.mem at hi ⊢; rw [hct]; exact hi)
    (fun i hi => by unfold Ob.over at hi ⊢; rw [hct]; exact hi)
  refine ⟨_, _, β, _, _, h, hrun, ?_, h8, BLe.refl β, h9⟩
  simp only [Ok]
  exact ⟨#[], rfl, by simp [OkL]⟩
def clear1 (P : Program) (l : List SV) (ts : List TypeId) (H : List Ob) (K : SV → List Ob → Prop) : Prop :=
  match l, ts with
  | [x], [t] => clrK P (tiOf P t).td x H K
  | _, _ => False
def copy1 (ax : Bool) (P : Program) (l : List SV) (ts : List TypeId) (H : List Ob) (K : SV → List Ob → Prop) : Prop :=
  match l, ts with
  | [x, y], [t, _] => copyE ax (tiOf P t).td x y H K
  | _, _ => False
structure Env where
  P : Program
  nw : Bool
  n0 : Nat
  nt : Nat
  pl : List (Nat × Plan)
  it : Bool := false
  ax : Bool := false
def putS (d : Option Nat) (r : SV) (σ : Sl) : Sl :=
  match d with
  | some d => (d, r) :: σ
  | none => σ
def keepK (K : SV → List Ob → Prop) (H : List Ob) (r : SV) : Prop := K r H
/-- A call of a function of the library that has no body: it answers at once. -/
def XtOk (P : Program) (g : FuncId) (args : List SV) (H : List Ob) (v : Value) : Prop := ∀ β w vals, Inv β H w → OkL β args vals → (callFunc g vals.toArray).run P w = .ok (.value v) w
def callT (P : Program) (g : FuncId) (args : List SV) (H : List Ob) (K : SV → List Ob → Prop) (_ : Unit) : Prop := ∃ r v, gnd r = some v ∧ XtOk P g args H v ∧ K r H
def callX (ax : Bool) (P : Program) (fv : SV) (args : List SV) (H : List Ob) (K : SV → List Ob → Prop) : Prop :=
  match fv with
  | .f (.func g) fs cs => appE ax (Sp P g (fs ++ args ++ cs) H K) (callT P g (fs ++ args ++ cs) H K)
  | _ => False
def app2 (ax : Bool) (P : Program) (t t' : TypeId) (x y : SV) (H : List Ob) (K : SV → List Ob → Prop) : Prop :=
  match y with
  | .v (.int _ n) => app3 P (tiOf P t).td (tiOf P t').td x n H K
  | .s j i o len cap sz => t = t' ∧ appK ax P (tiOf P t).td x (.s j i o len cap sz) H K
  | _ => False
def app1 (ax : Bool) (P : Program) (l : List SV) (ts : List TypeId) (H : List Ob) (K : SV → List Ob → Prop) : Prop :=
  match l, ts with
  | [x, y], [t, t'] => app2 ax P t t' x y H K
  | _, _ => False
/-- Any operation. -/
def opN (E : Env) (o : Op) (σ : Sl) (H : List Ob) (K : SV → List Ob → Prop) : Prop :=
  match o with
  | .alloc t => allocK t (tiOf E.P t).zero H K
  | .box t x => boxK t (ev σ x) H K
  | .buildSlice t n parts => appE E.ax (buildSliceK E.P (tiOf E.P t).td n (parts.toList.map fun (i, x) => (i, ev σ x)) H K) (buildSliceJ E.P (tiOf E.P t).td n (parts.toList.map fun (i, x) => (i, ev σ x)) H K)
  | .makeSlice t l c => appE E.ax (makeSliceK E.P (tiOf E.P t).td (ev σ l) (ev σ c) H K) (makeSliceJ E.P (tiOf E.P t).td (ev σ l) (ev σ c) H K)
  | .store t x v => storeK (tiOf E.P t) (ev σ x) (ev σ v) H K
  | .makeMap t r => makeMapK E.P t (tiOf E.P t).td (r.map (ev σ)) H K
  | .mapUpdate t m k v => mupK E.P (tiOf E.P t).td (ev σ m) (ev σ k) (ev σ v) H K
  | .call ⟨.builtin .append, args, ts⟩ => app1 E.ax E.P (args.toList.map (ev σ)) ts.toList H K
  | .call ⟨.builtin .copy, args, ts⟩ => copy1 E.ax E.P (args.toList.map (ev σ)) ts.toList H K
  | .call ⟨.builtin .clear, args, ts⟩ => clear1 E.P (args.toList.map (ev σ)) ts.toList H K
  | .call ⟨.value f, args, _⟩ => callX E.ax E.P (ev σ f) (args.toList.map (ev σ)) H K
  | o => opP E.P E.nw o σ H (keepK K H)
abbrev Go1 := Sl → List Ob → (Sl → List Ob → Prop) → Prop
def nextN (g : Go1) (d : Option Nat) (σ : Sl) (K : Sl → List Ob → Prop) (r : SV) (H : List Ob) : Prop := g (putS d r σ) H K
def gdst (ops : List Oper) (j : Nat) : Option Nat :=
  match nth ops j with
  | some o => o.dst
  | none => none
def gsel (want b : Bool) (R S : Unit → Prop) : Prop :=
  match want with
  | true => branch b (R ()) (S ())
  | false => branch b (S ()) (R ())
def guardK (v : SV) (want : Bool) (R S U : Unit → Prop) : Prop :=
  match v with
  | .v (.bool b) => gsel want b R S
  | .und => U ()
  | _ => False
def runN' (E : Env) (o : Op) (g : Go1) (d : Option Nat) (σ : Sl) (H : List Ob) (K : Sl → List Ob → Prop) (_ : Unit) : Prop := opN E o σ H (nextN g d σ K)
def skipN (g : Go1) (d : Option Nat) (σ : Sl) (H : List Ob) (K : Sl → List Ob → Prop) (_ : Unit) : Prop := g (putS d .und σ) H K
def gdN (E : Env) (o : Op) (g : Go1) (dst : Option Nat) (gd : Option Nat) (want : Bool) (σ : Sl) (H : List Ob) (K : Sl → List Ob → Prop) : Prop :=
  match gd with
  | some d => guardK (look σ d) want (runN' E o g dst ((d, .v (.bool want)) :: σ) H K) (skipN g dst ((d, .v (.bool (!want))) :: σ) H K) (skipN g dst σ H K)
  | none => False
def gdN0 (E : Env) (o : Op) (g : Go1) (dst : Option Nat) (σ : Sl) (H : List Ob) (K : Sl → List Ob → Prop) (ops : List Oper) (gd : Option (Nat × Bool)) : Prop :=
  match gd with
  | none => opN E o σ H (nextN g dst σ K)
  | some (j, want) => gdN E o g dst (gdst ops j) want σ H K
def exN (E : Env) (ops : List Oper) : List Oper → Sl → List Ob → (Sl → List Ob → Prop) → Prop
  | [], σ, H, K => K σ H
  | o :: rest, σ, H, K => gdN0 E o.op (exN E ops rest) o.dst σ H K ops o.guard
theorem guard_none {ops : List Oper} {a : Act} {o : Oper} (h : o.guard = none) : Region.wanted o (yielded ops.toArray a.tmps) = true := by simp [Region.wanted, h]
theorem yielded_eq {ops : List Oper} {a : Act} {j d : Nat} (h : gdst ops j = some d) (hd : d < a.tmps.size) : yielded ops.toArray a.tmps j = match a.tmps.getD d undef with | .bool b => some b | _ => none := by
  unfold gdst at h
  rw [nth_eq] at h
  unfold yielded
  split at h
  · rename_i o ho
    simp only [List.getElem?_toArray, ho, Option.bind_some, h]
    rw [Array.getElem?_eq_getElem hd]
    simp only [Array.getD_eq_getD_getElem?, Array.getElem?_eq_getElem hd, Option.getD_some]
    cases a.tmps[d] <;> rfl
  · cases h
theorem put_size (a : Act) (d : Option Nat) (v : Value) : (a.put d v).tmps.size = a.tmps.size := by cases d <;> simp [Act.put]
theorem put_defers (a : Act) (d : Option Nat) (v : Value) : (a.put d v).defers = a.defers := by cases d <;> rfl
theorem putS_ok {β : Bs} {σ : Sl} {a : Act} (h : SlotsOk β σ a) {d : Option Nat} {x : SV} {u : Value} (hx : Ok β x u) (hd : ∀ k, d = some k → k < a.tmps.size) : SlotsOk β (putS d x σ) (a.put d u) := by
  cases d with
  | none => exact h
  | some d => exact look_put h hx (hd d rfl)
/-- What an operation hands on. -/
theorem opN_wp {E : Env} {o : Oper} {σ : Sl} {H : List Ob} {K : SV → List Ob → Prop} {β : Bs} {w : World} {a : Act} {next : Act → World → Prop} {Q : Exit → Act → World → Prop} (h : opN E o.op σ H K) (hI : Inv β H w) (hs : SlotsOk β σ a) (hn : E.n0 ≤ H.length)
    (hnext : ∀ r v β' H' w', K r H' → Ok β' r v → Inv β' H' w' → SlotsOk β' σ a → Fr E.n0 β H w β' H' w' → next (a.put o.dst v) w') : o.wp E.P a w next Q := by
  have does : ∀ s : Sem Value, Does E.P β H w K s → (∀ w' z, s.run E.P w = .ok z w' → (execOp a.eval o).run E.P w = .ok (.value z) w') → o.wp E.P a w next Q := by
    rintro s ⟨r, z, β', H', w', h1, h2, h3, h4, h5, h6⟩ he
    unfold Oper.wp
    rw [he _ _ h2]
    exact hnext r z β' H' w' h1 h3 h4 (look_mono hs h5) (h6 _)
  unfold opN at h
  split at h
  · rename_i t ho
    exact does _ (allocK_does h hI) fun w' z hr => by simp only [execOp, ho, Sem.run_bind, hr, Result.andThen_ok, Sem.run_pure]
  · rename_i t x ho
    exact does _ (boxK_does h hI (ev_ok hs x)) fun w' z hr => by simp only [execOp, ho, Sem.run_bind, hr, Result.andThen_ok, Sem.run_pure]
  · rename_i t n parts ho
    rcases appE_or h with h | h
    · exact does _ (buildSliceK_does (us := parts.map fun (i, x) => (i, a.eval x)) h hI (by simpa using okP_of hs parts.toList)) fun w' z hr => by simp only [execOp, ho, Sem.run_bind, hr, Result.andThen_ok, Sem.run_pure]
    · exact does _ (buildSliceJ_does (us := parts.map fun (i, x) => (i, a.eval x)) h hI (by simpa using okP_of hs parts.toList)) fun w' z hr => by simp only [execOp, ho, Sem.run_bind, hr, Result.andThen_ok, Sem.run_pure]
  · rename_i t l c ho
    rcases appE_or h with h | h
    · exact does _ (makeSliceK_does h hI (ev_ok hs l) (ev_ok hs c)) fun w' z hr => by simp only [execOp, ho, Sem.run_bind, hr, Result.andThen_ok, Sem.run_pure]
    · exact does _ (makeSliceJ_does h hI (ev_ok hs l) (ev_ok hs c)) fun w' z hr => by simp only [execOp, ho, Sem.run_bind, hr, Result.andThen_ok, Sem.run_pure]
  · rename_i t x v ho
    obtain ⟨β', H', w', h1, h2, h3, h4, h5⟩ := storeK_does h hI (ev_ok hs x) (ev_ok hs v)
    unfold Oper.wp
    simp only [execOp, ho, Sem.run_bind, h2, Result.andThen_ok, Sem.run_pure]
    exact hnext .und undef β' H' w' h1 (by simp only [Ok]) h3 (look_mono hs h4) (h5 _)
  · rename_i t r ho
    cases r with
    | some r =>
      simp only [Option.map_some] at h
      unfold makeMapK at h
      split at h
      · rename_i hr; cases hr
      · exact h.elim
    | none => exact does _ (makeMapK_does h hI) fun w' z hr => by simp only [execOp, ho, Sem.run_bind, hr, Result.andThen_ok, Sem.run_pure, Option.map_none]
  · rename_i t m k v ho
    obtain ⟨β', H', w', h1, h2, h3, h4, h5⟩ := mupK_does h hI (ev_ok hs m) (ev_ok hs k) (ev_ok hs v)
    unfold Oper.wp
    simp only [execOp, ho, Sem.run_bind, h2, Result.andThen_ok, Sem.run_pure]
    exact hnext .und undef β' H' w' h1 (by simp only [Ok]) h3 (look_mono hs h4) (h5 _)
  · rename_i args ts ho
    unfold app1 at h
    split at h
    · rename_i x1 y1 t t' hargs hts
      obtain ⟨x, y, hargs2, rfl, rfl⟩ : ∃ x y, args.toList = [x, y] ∧ ev σ x = x1 ∧ ev σ y = y1 := by
        match hl : args.toList with
        | [] => rw [hl] at hargs; cases hargs
        | [_] => rw [hl] at hargs; cases hargs
        | x :: y :: l => rw [hl] at hargs; simp only [List.map_cons, List.cons.injEq, List.map_eq_nil_iff] at hargs; exact ⟨x, y, by rw [hargs.2.2], hargs.1, hargs.2.1⟩
      have e1 : args = #[x, y] := by rw [← Array.toArray_toList (xs := args), hargs2]
      have e2 : ts = #[t, t'] := by rw [← Array.toArray_toList (xs := ts), hts]
      subst e1 e2
      unfold app2 at h
      have hy := ev_ok hs y
      split at h
      · rename_i k n hyv
        rw [hyv] at hy
        have e3 := ok_v hy
        exact does _ (app3_does (ty := o.type) (k := k) h hI (ev_ok hs x)) fun w' z hr => by simp only [execOp, ho, resolve, invoke, builtin, Sem.run_bind, Sem.run_pure, Result.andThen_ok, List.map_toArray, List.map_cons, List.map_nil, e3, hr]
      · rename_i hyv
        obtain ⟨rfl, h⟩ := h
        rw [← hyv] at h
        exact does _ (appK_does (ty := o.type) h hI (ev_ok hs x) (ev_ok hs y)) fun w' z hr => by simp only [execOp, ho, resolve, invoke, builtin, Sem.run_bind, Sem.run_pure, Result.andThen_ok, List.map_toArray, List.map_cons, List.map_nil, hr]
      · exact h.elim
    · exact h.elim
  · rename_i args ts ho
    unfold copy1 at h
    split at h
    · rename_i x1 y1 t t' hargs hts
      obtain ⟨x, y, hargs2, rfl, rfl⟩ : ∃ x y, args.toList = [x, y] ∧ ev σ x = x1 ∧ ev σ y = y1 := by
        match hl : args.toList with
        | [] => rw [hl] at hargs; cases hargs
        | [_] => rw [hl] at hargs; cases hargs
        | x :: y :: l => rw [hl] at hargs; simp only [List.map_cons, List.cons.injEq, List.map_eq_nil_iff] at hargs; exact ⟨x, y, by rw [hargs.2.2], hargs.1, hargs.2.1⟩
      have e1 : args = #[x, y] := by rw [← Array.toArray_toList (xs := args), hargs2]
      have e2 : ts = #[t, t'] := by rw [← Array.toArray_toList (xs := ts), hts]
      subst e1 e2
      exact does _ (copyE_does (ty := o.type) (t' := t') h hI (ev_ok hs x) (ev_ok hs y)) fun w' z hr => by simp only [execOp, ho, resolve, invoke, builtin, Sem.run_bind, Sem.run_pure, Result.andThen_ok, List.map_toArray, List.map_cons, List.map_nil, hr]
    · exact h.elim
  · rename_i args ts ho
    unfold clear1 at h
    split at h
    · rename_i x1 t hargs hts
      obtain ⟨x, hargs2, rfl⟩ : ∃ x, args.toList = [x] ∧ ev σ x = x1 := by
        match hl : args.toList with
        | [] => rw [hl] at hargs; cases hargs
        | x :: l => rw [hl] at hargs; simp only [List.map_cons, List.cons.injEq, List.map_eq_nil_iff] at hargs; exact ⟨x, by rw [hargs.2], hargs.1⟩
      have e1 : args = #[x] := by rw [← Array.toArray_toList (xs := args), hargs2]
      have e2 : ts = #[t] := by rw [← Array.toArray_toList (xs := ts), hts]
      subst e1 e2
      exact does _ (clrK_does (ty := o.type) h hI (ev_ok hs x)) fun w' z hr => by simp only [execOp, ho, resolve, invoke, builtin, Sem.run_bind, Sem.run_pure, Result.andThen_ok, List.map_toArray, List.map_cons, List.map_nil, hr]
    · exact h.elim
  · rename_i f args ts ho
    unfold callX at h
    split at h
    · rename_i g fs cs hf
      have hfv := ev_ok hs f
      rw [hf] at hfv
      simp only [Ok] at hfv
      obtain ⟨xs, ys, h1, h2, h3⟩ := hfv
      have hargs := okL_append (okL_append h2 (okL_map hs args.toList)) h3
      have e : xs ++ args.map a.eval ++ ys = (xs.toList ++ args.toList.map a.eval ++ ys.toList).toArray := by apply Array.ext'; simp
      rcases appE_or h with h | ⟨r, v, hg, hx, hk⟩
      case inr =>
        have hrun : (execOp a.eval o).run E.P w = .ok (.value v) w := by
          simp only [execOp, ho, resolve, h1, Deferred.ofValue, invoke, Sem.run_bind, Sem.run_pure, Result.andThen_ok, e, hx β w _ hI hargs]
        unfold Oper.wp
        rw [hrun]
        exact hnext r v β H w hk (gnd_fit β hg) hI hs (Fr.refl _ _ _ _)
      obtain ⟨hc, h⟩ := h
      have := h β w _ hI hargs
      have hrun : (execOp a.eval o).run E.P w = .ok (.enter g (xs.toList ++ args.toList.map a.eval ++ ys.toList).toArray) w := by
        simp only [execOp, ho, resolve, h1, Deferred.ofValue, invoke, Sem.run_bind, Sem.run_pure, Result.andThen_ok, e, hc]
      unfold Oper.wp
      rw [hrun, Oper.upon_enter]
      refine this.mono ?_
      rintro e w' ⟨r, v, β', H', rfl, q1, q2, q3, q4⟩
      exact hnext r v β' H' w' q1 q2 q3 (look_mono hs fun j i x hx => q4.le j i x (by
        rcases Nat.lt_or_ge j H.length with h | h
        · exact h
        · rw [hI.out j i h] at hx; cases hx) hx) (q4.mono hn (Nat.le_refl _))
    · exact h.elim
  · obtain ⟨r, z, h1, h2, h3⟩ := opP_yields (o := o) h hI hs
    unfold Oper.wp
    rw [h3 w (Below.refl _ _)]
    exact hnext r z β H w h1 h2 hI hs (Fr.refl _ _ _ _)
theorem guardK_case {β : Bs} {σ : Sl} {a : Act} {d : Nat} {want : Bool} {R S U : Unit → Prop} (h : guardK (look σ d) want R S U) (hs : SlotsOk β σ a) :
    (a.tmps.getD d undef = .bool want ∧ R ()) ∨ ((a.tmps.getD d undef = .bool (!want) ∧ S ())) ∨ (a.tmps.getD d undef = undef ∧ U ()) := by
  unfold guardK at h
  split at h
  · rename_i b hb
    have hv := hs d
    rw [hb] at hv
    have e := ok_v hv
    cases want <;> cases b <;> simp only [gsel, branch_true, branch_false] at h
    · exact .inl ⟨e, h⟩
    · exact .inr (.inl ⟨e, h⟩)
    · exact .inr (.inl ⟨e, h⟩)
    · exact .inl ⟨e, h⟩
  · rename_i hu
    have hv := hs d
    rw [hu] at hv
    exact .inr (.inr ⟨by simpa only [Ok] using hv, h⟩)
  · exact h.elim
/- ===== marks: calls put off by a range over a function (there are none but the loop's own blocks) ===== -/
theorem inv_put {β : Bs} {H : List Ob} {w : World} {D : Nat} {o : Obj} (h : Inv β H w) (hn : ¬ MemB β H D) (hd : ∃ x, w.heap[D]? = some (.deferred x)) : Inv β H (w.putObj D o) := by
  refine ⟨⟨fun j ob ho => (h.ob j ob ho).same (BLe.refl β) (fun _ h => h) (Nat.le_of_eq World.putObj_size.symm) (fun i g b hm hg => World.putObj_heap_other fun e => hn ⟨j, i, ob, b, ho, hm, e ▸ hg⟩), h.out, h.sep, h.bey⟩, fun x hx => ?_⟩
  obtain ⟨h1, h2, h3, h4⟩ := h.gl x hx
  have hne : x.1 ≠ D := fun e => by
    obtain ⟨y, hy⟩ := hd
    have := h3 0 _ (List.getElem?_eq_getElem h2)
    rw [e] at this
    simp [World.cell?, hy] at this
  exact ⟨by rw [World.putObj_size]; exact h1, h2, fun k v hv => (World.cell?_of_block (w := w) (a := ⟨x.1, k, none⟩) (World.putObj_heap_other hne)).trans (h3 k v hv), h4⟩
theorem fr_put {n0 : Nat} {β0 β : Bs} {H0 H : List Ob} {w0 w : World} {D : Nat} {o : Obj} (h : Fr n0 β0 H0 w0 β H w) (hD : w0.heap.size ≤ D) : Fr n0 β0 H0 w0 β H (w.putObj D o) :=
  ⟨h.tape, h.os, h.output, by rw [World.putObj_size]; exact h.size, fun g hg hn => (World.putObj_heap_other (by omega)).trans (h.block g hg hn), h.own, h.mem, h.le, h.len⟩
theorem own_memB {β : Bs} {H : List Ob} {g : Nat} (h : OwnB β H g) : MemB β H g := let ⟨j, i, o, b, h1, h2, h3⟩ := h; ⟨j, i, o, b, h1, Ob.own_mem h2, h3⟩
structure DfOk (it : Bool) (ds : List Deferred) (β : Bs) (H : List Ob) (w0 w : World) : Prop where
  one : ∀ d ∈ ds, ∃ D, d = { target := .collected D, args := #[] } ∧ w0.heap.size ≤ D ∧ w.heap[D]? = some (.deferred (some [])) ∧ ¬ MemB β H D
  nd : ds.Pairwise fun d e => ∀ D, d.target = .collected D → e.target ≠ .collected D
  no : it = true → ds = []
theorem heap_lt {w : World} {D : Nat} {o : Obj} (h : w.heap[D]? = some o) : D < w.heap.size := (Array.getElem?_eq_some_iff.1 h).1
theorem DfOk.fr {it : Bool} {ds : List Deferred} {β β' : Bs} {H H' : List Ob} {w0 w w' : World} {n0 : Nat} (h : DfOk it ds β H w0 w) (f : Fr n0 β H w β' H' w') : DfOk it ds β' H' w0 w' :=
  ⟨fun d hd => let ⟨D, h1, h2, h3, h4⟩ := h.one d hd; ⟨D, h1, h2, (f.block D (heap_lt h3) fun ho => h4 (own_memB ho)).trans h3, fun hm => h4 (f.mem D (heap_lt h3) hm)⟩, h.nd, h.no⟩
theorem DfOk.weak {it : Bool} {ds : List Deferred} {β β' : Bs} {H H' : List Ob} {w0 w : World} (h : DfOk it ds β H w0 w) (f : ∀ g, MemB β' H' g → MemB β H g) : DfOk it ds β' H' w0 w :=
  ⟨fun d hd => let ⟨D, h1, h2, h3, h4⟩ := h.one d hd; ⟨D, h1, h2, h3, fun hm => h4 (f D hm)⟩, h.nd, h.no⟩
theorem DfOk.nil {it : Bool} {β : Bs} {H : List Ob} {w0 w : World} : DfOk it [] β H w0 w := ⟨fun d hd => by simp at hd, .nil, fun _ => rfl⟩
theorem leaves_df {P : Program} {fn : Func} {tmps : Array Value} {R : Ending → World → Prop} {n0 : Nat} {β0 β : Bs} {H0 H : List Ob} {w0 : World} : ∀ (ds : List Deferred) (w : World), DfOk false ds β H w0 w → Inv β H w → Fr n0 β0 H0 w0 β H w →
    (∀ w', Inv β H w' → Fr n0 β0 H0 w0 β H w' → ∃ v, (results fn tmps).run P w' = .ok v w' ∧ R (.returned v) w') → LeavesInM Fence.wide 0 P fn tmps R ds .returning w
  | [], w, _, hI, hf, h => h w hI hf
  | d :: ds, w, hd, hI, hf, h => by
    obtain ⟨D, rfl, h2, h3, h4⟩ := hd.one d (List.mem_cons_self)
    have hnd := List.pairwise_cons.1 hd.nd
    refine ⟨by simp, .inl ⟨D, _, rfl, run_takeDeferred h3, leaves_df ds _ ⟨fun e he => ?_, hnd.2, fun h => by cases h⟩ (inv_put hI h4 ⟨_, h3⟩) (fr_put hf h2) h⟩⟩
    obtain ⟨E, rfl, k2, k3, k4⟩ := hd.one e (List.mem_cons_of_mem _ he)
    exact ⟨E, rfl, k2, (World.putObj_heap_other fun e2 => hnd.1 _ he D rfl (by rw [e2])).trans k3, k4⟩
/- ===== regions ===== -/
/-- Where a piece of code may end. -/
structure St (E : Env) (β0 : Bs) (H0 : List Ob) (w0 : World) (β : Bs) (σ : Sl) (H : List Ob) (a : Act) (w : World) : Prop where
  inv : Inv β H w
  slots : SlotsOk β σ a
  size : a.tmps.size = E.nt
  defers : DfOk E.it a.defers β H w0 w
  fr : Fr E.n0 β0 H0 w0 β H w
  n0 : E.n0 ≤ H.length
def dstOk (nt : Nat) (o : Oper) : Bool :=
  match o.dst with
  | some d => decide (d < nt)
  | none => true
/-- Rules never drop objects. -/
def gdOk (nt : Nat) (ops : List Oper) (o : Oper) : Bool :=
  match o.guard with
  | none => true
  | some (j, _) => match gdst ops j with
    | some d => decide (d < nt)
    | none => false
theorem put_ok {E : Env} {β0 : Bs} {H0 : List Ob} {w0 : World} {β : Bs} {σ : Sl} {H : List Ob} {a : Act} {w : World} (h : St E β0 H0 w0 β σ H a w) {o : Oper} (hd : dstOk E.nt o = true) {x : SV} {u : Value} (hx : Ok β x u) : St E β0 H0 w0 β (putS o.dst x σ) H (a.put o.dst u) w :=
  ⟨h.inv, putS_ok h.slots hx (fun k hk => by unfold dstOk at hd; rw [hk] at hd; rw [h.size]; simpa using hd), (put_size _ _ _).trans h.size, (by rw [put_defers]; exact h.defers), h.fr, h.n0⟩
theorem st_look {E : Env} {β0 : Bs} {H0 : List Ob} {w0 : World} {β : Bs} {σ : Sl} {H : List Ob} {a : Act} {w : World} (h : St E β0 H0 w0 β σ H a w) {d : Nat} {x : SV} (hx : Ok β x (a.tmps.getD d undef)) : St E β0 H0 w0 β ((d, x) :: σ) H a w :=
  ⟨h.inv, look_same h.slots hx, h.size, h.defers, h.fr, h.n0⟩
theorem exN_sound {E : Env} {ops : List Oper} {β0 : Bs} {H0 : List Ob} {w0 : World} {K : Sl → List Ob → Prop} {Q : Exit → Act → World → Prop} (hK : ∀ β σ H a w, St E β0 H0 w0 β σ H a w → K σ H → Q .normal a w) :
    ∀ (rest : List Oper) (β : Bs) (σ : Sl) (H : List Ob) (a : Act) (w : World), (∀ o ∈ rest, dstOk E.nt o = true ∧ gdOk E.nt ops o = true) → St E β0 H0 w0 β σ H a w → exN E ops rest σ H K → wpList E.P ops.toArray Q rest a w
  | [], β, σ, H, a, w, _, hs, h => hK β σ H a w hs (by simpa only [exN] using h)
  | o :: rest, β, σ, H, a, w, hd, hs, h => by
    have hd0 := hd o (List.mem_cons_self)
    have ih := exN_sound (ops := ops) hK rest
    have hdr : ∀ o ∈ rest, dstOk E.nt o = true ∧ gdOk E.nt ops o = true := fun o ho => hd o (List.mem_cons_of_mem _ ho)
    have run : ∀ σ1, St E β0 H0 w0 β σ1 H a w → opN E o.op σ1 H (nextN (exN E ops rest) o.dst σ1 K) → o.wp E.P a w (wpList E.P ops.toArray Q rest) Q := by
      intro σ1 hs1 h1
      refine opN_wp h1 hs1.inv hs1.slots hs1.n0 fun r v β' H' w' q1 q2 q3 q4 q5 => ?_
      simp only [nextN] at q1
      exact ih β' _ H' _ w' hdr (put_ok ⟨q3, q4, hs.size, hs.defers.fr q5, hs.fr.trans q5, q5.len hs.n0⟩ hd0.1 q2) q1
    simp only [exN] at h
    unfold gdN0 at h
    unfold wpList
    split at h
    · rename_i hg
      rw [if_pos (guard_none hg)]
      exact .inl (run σ hs h)
    · rename_i j want hg
      unfold gdN at h
      split at h
      · rename_i d hgd
        have hlt : d < a.tmps.size := by
          have := hd0.2
          unfold gdOk at this
          rw [hg] at this
          simp only [hgd] at this
          rw [hs.size]
          simpa using this
        have hy := yielded_eq hgd hlt
        rcases guardK_case h hs.slots with ⟨e, h⟩ | ⟨e, h⟩ | ⟨e, h⟩
        · have hy2 : yielded ops.toArray a.tmps j = some want := by rw [hy, e]
          have hw : Region.wanted o (yielded ops.toArray a.tmps) = true := by simp [Region.wanted, hg, hy2]
          rw [if_pos hw]
          exact .inl (run _ (st_look hs (by rw [e]; simp only [Ok])) h)
        · have hy2 : yielded ops.toArray a.tmps j = some (!want) := by rw [hy, e]
          have hw : ¬ Region.wanted o (yielded ops.toArray a.tmps) = true := by cases want <;> simp [Region.wanted, hg, hy2]
          rw [if_neg hw]
          exact ih β _ H _ w hdr (put_ok (o := o) (st_look hs (d := d) (x := .v (.bool (!want))) (by rw [e]; simp only [Ok])) hd0.1 (by simp only [Ok])) h
        · have hy2 : yielded ops.toArray a.tmps j = none := by rw [hy, e]; rfl
          have hw : ¬ Region.wanted o (yielded ops.toArray a.tmps) = true := by cases want <;> simp [Region.wanted, hg, hy2]
          rw [if_neg hw]
          exact ih β _ H _ w hdr (put_ok hs hd0.1 (by simp only [Ok])) h
      · exact h.elim
/- ===== pure contracts; regions that draw their order ===== -/
/-- A call that only reads, and its result. -/
def Pu (P : Program) (f : FuncId) (args : List SV) (H : List Ob) (r : SV) : Prop :=
  (∀ vs w, (callFunc f vs).run P w = .ok (.enter f vs) w) ∧
  ∀ β w vals, Inv β H w → OkL β args vals → Calls P f vals.toArray w fun e w' => ∃ v, e = .returned v ∧ Ok β r v ∧ Below w.heap.size w w'
theorem sp_pu {P : Program} {f : FuncId} {args : List SV} {H : List Ob} {r : SV} {K : SV → List Ob → Prop} (h : Pu P f args H r) (hk : K r H) : Sp P f args H K :=
  ⟨h.1, fun β w vals hI ha => (h.2 β w vals hI ha).mono fun _ _ ⟨v, h1, h2, h3⟩ => ⟨r, v, β, H, h1, hk, h2, hI.below h3, Fr.below h3⟩⟩
def QC (P : Program) (f : FuncId) (args : List SV) (H : List Ob) (K : SV → Prop) : Prop := ∃ r v, gnd r = some v ∧ Pu P f args H r ∧ K r
theorem qc_pu {P : Program} {f : FuncId} {args : List SV} {H : List Ob} {r : SV} {v : Value} {K : SV → Prop} (h : Pu P f args H r) (hg : gnd r = some v) (hk : K r) : QC P f args H K := ⟨r, v, hg, h, hk⟩
def callQ (P : Program) (fv : SV) (args : List SV) (H : List Ob) (K : SV → Prop) : Prop :=
  match fv with
  | .f (.func g) fs cs => QC P g (fs ++ args ++ cs) H K
  | _ => False
def opQ (E : Env) (o : Op) (σ : Sl) (H : List Ob) (K : SV → Prop) : Prop :=
  match o with
  | .call ⟨.value f, args, _⟩ => callQ E.P (ev σ f) (args.toList.map (ev σ)) H K
  | o => opP E.P E.nw o σ H K
def isEff : Op → Bool
  | .alloc _ => true
  | .box _ _ => true
  | .buildSlice _ _ _ => true
  | .makeSlice _ _ _ => true
  | .store _ _ _ => true
  | .makeMap _ _ => true
  | .mapUpdate _ _ _ _ => true
  | .call ⟨.builtin .append, _, _⟩ => true
  | .call ⟨.builtin .copy, _, _⟩ => true
  | .call ⟨.builtin .clear, _, _⟩ => true
  | _ => false
def nextQ (g : Sl → List Ob → (Sl → List Ob → Prop) → Prop) (d : Option Nat) (σ : Sl) (H : List Ob) (K : Sl → List Ob → Prop) (r : SV) : Prop := g (putS d r σ) H K
def runQ (E : Env) (o : Op) (g : Go1) (d : Option Nat) (σ : Sl) (H : List Ob) (K : Sl → List Ob → Prop) (_ : Unit) : Prop := opQ E o σ H (nextQ g d σ H K)
def gdQ (E : Env) (o : Op) (g : Go1) (dst : Option Nat) (gd : Option Nat) (want : Bool) (σ : Sl) (H : List Ob) (K : Sl → List Ob → Prop) : Prop :=
  match gd with
  | some d => guardK (look σ d) want (runQ E o g dst ((d, .v (.bool want)) :: σ) H K) (skipN g dst ((d, .v (.bool (!want))) :: σ) H K) (skipN g dst σ H K)
  | none => False
def gdQ0 (E : Env) (o : Op) (g : Go1) (dst : Option Nat) (σ : Sl) (H : List Ob) (K : Sl → List Ob → Prop) (ops : List Oper) (gd : Option (Nat × Bool)) : Prop :=
  match gd with
  | none => opQ E o σ H (nextQ g dst σ H K)
  | some (j, want) => gdQ E o g dst (gdst ops j) want σ H K
def swK (b : Bool) (X Y : Unit → Prop) : Prop :=
  match b with
  | true => X ()
  | false => Y ()
def swN (E : Env) (ops l : List Oper) (σ : Sl) (H : List Ob) (K : Sl → List Ob → Prop) (_ : Unit) : Prop := exN E ops l σ H K
def swQ (E : Env) (o : Oper) (g : Go1) (ops : List Oper) (σ : Sl) (H : List Ob) (K : Sl → List Ob → Prop) (_ : Unit) : Prop := gdQ0 E o.op g o.dst σ H K ops o.guard
def exQ (E : Env) (ops : List Oper) : List Oper → Sl → List Ob → (Sl → List Ob → Prop) → Prop
  | [], σ, H, K => K σ H
  | o :: rest, σ, H, K => swK (isEff o.op) (swN E ops (o :: rest) σ H K) (swQ E o (exQ E ops rest) ops σ H K)
def qn : List Oper → Nat
  | [] => 0
  | o :: l => bif isEff o.op then 0 else qn l + 1
theorem wpQuiet_if {P : Program} {ops : Array Oper} {C : World → Prop} {L : Act → Prop} {o : Oper} {rest : List Oper} {a : Act}
    (h : (Region.wanted o (yielded ops a.tmps) = true ∧ o.quiet P a C (wpQuiet P ops C L rest)) ∨ (Region.wanted o (yielded ops a.tmps) = false ∧ wpQuiet P ops C L rest (a.put o.dst undef))) : wpQuiet P ops C L (o :: rest) a := by
  unfold wpQuiet
  rcases h with ⟨h1, h2⟩ | ⟨h1, h2⟩
  · rw [if_pos h1]; exact h2
  · rw [if_neg (by rw [h1]; simp)]; exact h2
theorem exQ_sound {E : Env} {ops : List Oper} {β0 : Bs} {H0 : List Ob} {w0 w : World} {β : Bs} {H : List Ob} {K : Sl → List Ob → Prop} {Q : Exit → Act → World → Prop} (hK : ∀ β σ H a w, St E β0 H0 w0 β σ H a w → K σ H → Q .normal a w) :
    ∀ (l : List Oper) (σ : Sl) (a : Act), (∀ o ∈ l, dstOk E.nt o = true ∧ gdOk E.nt ops o = true) → St E β0 H0 w0 β σ H a w → exQ E ops l σ H K →
      wpQuiet E.P ops.toArray (fun w' => ∃ xx : Ex, w' = pls w xx) (fun a' => ∀ w', Below w.heap.size w w' → wpList E.P ops.toArray Q (l.drop (qn l)) a' w') (l.take (qn l)) a
  | [], σ, a, _, hs, h => by
    simp only [qn, List.take_zero, List.drop_zero, wpQuiet]
    intro w' hb
    refine hK β σ H a w' ⟨hs.inv.below hb, hs.slots, hs.size, hs.defers.fr (Fr.below (n0 := 0) hb), hs.fr.trans (Fr.below hb), hs.n0⟩ (by simpa only [exQ] using h)
  | o :: rest, σ, a, hd, hs, h => by
    simp only [exQ] at h
    cases he : isEff o.op with
    | true =>
      simp only [he, swK, swN] at h
      simp only [qn, he, cond_true, List.take_zero, List.drop_zero, wpQuiet]
      intro w' hb
      exact exN_sound (ops := ops) hK (o :: rest) β σ H a w' hd ⟨hs.inv.below hb, hs.slots, hs.size, hs.defers.fr (Fr.below (n0 := 0) hb), hs.fr.trans (Fr.below hb), hs.n0⟩ h
    | false =>
      simp only [he, swK, swQ] at h
      simp only [qn, he, cond_false, List.take_succ_cons, List.drop_succ_cons]
      have hd0 := hd o (List.mem_cons_self)
      have hdr : ∀ o ∈ rest, dstOk E.nt o = true ∧ gdOk E.nt ops o = true := fun o ho => hd o (List.mem_cons_of_mem _ ho)
      have ih := exQ_sound (ops := ops) (w := w) (β := β) (H := H) hK rest
      have run : ∀ σ1, St E β0 H0 w0 β σ1 H a w → opQ E o.op σ1 H (nextQ (exQ E ops rest) o.dst σ1 H K) →
          o.quiet E.P a (fun w' => ∃ xx : Ex, w' = pls w xx) (wpQuiet E.P ops.toArray (fun w' => ∃ xx : Ex, w' = pls w xx) (fun a' => ∀ w', Below w.heap.size w w' → wpList E.P ops.toArray Q (rest.drop (qn rest)) a' w') (rest.take (qn rest))) := by
        intro σ1 hs1 h1
        unfold opQ at h1
        split at h1
        · rename_i f args ts ho
          unfold callQ at h1
          split at h1
          · rename_i g fs cs hf
            have hfv := ev_ok hs1.slots f
            rw [hf] at hfv
            simp only [Ok] at hfv
            obtain ⟨xs, ys, e1, e2, e3⟩ := hfv
            obtain ⟨r, v, hg, hpu, hk⟩ := h1
            have hargs := okL_append (okL_append e2 (okL_map hs1.slots args.toList)) e3
            have hrun : ∀ w', (execOp a.eval o).run E.P w' = .ok (.enter g (xs.toList ++ args.toList.map a.eval ++ ys.toList).toArray) w' := by
              intro w'
              have e : xs ++ args.map a.eval ++ ys = (xs.toList ++ args.toList.map a.eval ++ ys.toList).toArray := by apply Array.ext'; simp
              simp only [execOp, ho, resolve, e1, Deferred.ofValue, invoke, Sem.run_bind, Sem.run_pure, Result.andThen_ok, e, hpu.1]
            have hrv : Ok β r v := gnd_fit β hg
            refine ⟨v, fun w' hw' => ?_, ?_⟩
            · unfold Oper.quietAt
              rw [hrun w']
              refine ⟨rfl, ?_⟩
              obtain ⟨xx, rfl⟩ := hw'
              refine (hpu.2 β _ _ (hs1.inv.below below_plus) hargs).mono ?_
              rintro e w'' ⟨v', rfl, q1, q2⟩
              exact ⟨by rw [gnd_ok hg q1], ext_trans q2⟩
            · exact ih _ _ hdr (put_ok hs1 hd0.1 hrv) hk
          · exact h1.elim
        · obtain ⟨r, z, q1, q2, q3⟩ := opP_yields (o := o) h1 hs1.inv hs1.slots
          refine ⟨z, fun w' hw' => ?_, ih _ _ hdr (put_ok hs1 hd0.1 q2) q1⟩
          obtain ⟨xx, rfl⟩ := hw'
          unfold Oper.quietAt
          rw [q3 _ below_plus]
          exact ⟨rfl, rfl⟩
      unfold gdQ0 at h
      split at h
      · rename_i hg
        exact wpQuiet_if (.inl ⟨guard_none hg, run σ hs h⟩)
      · rename_i j want hg
        unfold gdQ at h
        split at h
        · rename_i d hgd
          have hlt : d < a.tmps.size := by
            have := hd0.2
            unfold gdOk at this
            rw [hg] at this
            simp only [hgd] at this
            rw [hs.size]
            simpa using this
          have hy := yielded_eq hgd hlt
          rcases guardK_case h hs.slots with ⟨e, h⟩ | ⟨e, h⟩ | ⟨e, h⟩
          · have hy2 : yielded ops.toArray a.tmps j = some want := by rw [hy, e]
            exact wpQuiet_if (.inl ⟨by simp [Region.wanted, hg, hy2], run _ (st_look hs (by rw [e]; simp only [Ok])) h⟩)
          · have hy2 : yielded ops.toArray a.tmps j = some (!want) := by rw [hy, e]
            exact wpQuiet_if (.inr ⟨by cases want <;> simp [Region.wanted, hg, hy2], ih _ _ hdr (put_ok (o := o) (st_look hs (d := d) (x := .v (.bool (!want))) (by rw [e]; simp only [Ok])) hd0.1 (by simp only [Ok])) h⟩)
          · have hy2 : yielded ops.toArray a.tmps j = none := by rw [hy, e]; rfl
            exact wpQuiet_if (.inr ⟨by cases want <;> simp [Region.wanted, hg, hy2], ih _ _ hdr (put_ok hs hd0.1 (by simp only [Ok])) h⟩)
        · exact h.elim

/- ===== regions whose orders are gone through ===== -/
def plainOp : Op → Bool
  | .move _ => true
  | .assign _ => true
  | .pick _ _ _ => true
  | .nilCheck _ => true
  | .binOp _ _ _ _ _ => true
  | .unOp _ _ _ => true
  | .convert _ _ _ => true
  | .fieldAddr _ _ _ => true
  | .field _ _ _ => true
  | .indexAddr _ _ _ => true
  | .extract _ _ => true
  | .slice _ _ _ _ _ => true
  | .makeFunc _ _ _ => true
  | .build _ _ => true
  | .call ⟨.builtin .len, _, _⟩ => true
  | .call ⟨.builtin .cap, _, _⟩ => true
  | .call ⟨.builtin .min, _, _⟩ => true
  | .call ⟨.builtin .max, _, _⟩ => true
  | _ => false
mutual
def planOk (ops : Array Oper) (listed : Array Bool) : Plan → Bool
  | .fin => (Region.ready .any ops listed).isEmpty
  | .one i p => (((Region.ready .any ops listed) == [i]) || ((match ops[i]? with | some o => plainOp o.op | none => false) && Region.free .any ops listed i && (Region.ready .any ops listed).contains i)) && planOk ops (listed.setIfInBounds i true) p
  | .alt l => ((Region.ready .any ops listed) == l.map Prod.fst) && !l.isEmpty && planOkL ops listed l
  | .jn _ => false
  | .jx _ => false
  | .pre _ _ _ => false
  | .hd _ _ _ _ _ => false
def planOkL (ops : Array Oper) (listed : Array Bool) : List (Nat × Plan) → Bool
  | [] => true
  | (i, p) :: l => planOk ops (listed.setIfInBounds i true) p && planOkL ops listed l
end
def atOp (E : Env) (ops : List Oper) (g : Go1) (σ : Sl) (H : List Ob) (K : Sl → List Ob → Prop) (o : Oper) : Prop := gdN0 E o.op g o.dst σ H K ops o.guard
/-- No map's length: it may be read ahead of its place. -/
def noMap : SV → Prop
  | .m _ => False
  | .v _ => True
  | .p _ _ _ => True
  | .e _ _ _ _ _ => True
  | .s _ _ _ _ _ _ => True
  | .f _ _ _ => True
  | .a _ => True
  | .t _ => True
  | .und => True
  | .junk => True
def noMapL : List SV → Prop
  | [x] => noMap x
  | [] => True
  | _ :: _ :: _ => True
def noSl : SV → Prop
  | .s _ _ _ _ _ _ => False
  | .m _ => True
  | .v _ => True
  | .p _ _ _ => True
  | .e _ _ _ _ _ => True
  | .f _ _ _ => True
  | .a _ => True
  | .t _ => True
  | .und => True
  | .junk => True
def lenV (o : Op) (σ : Sl) : Prop :=
  match o with
  | .convert _ _ x => noSl (ev σ x)
  | .call ⟨.builtin .len, args, _⟩ => noMapL (args.toList.map (ev σ))
  | _ => True
def onAt (E : Env) (ops : List Oper) (g : Go1) (σ : Sl) (H : List Ob) (K : Sl → List Ob → Prop) (o : Oper) : Prop := lenV o.op σ ∧ atOp E ops g σ H K o
theorem lenV_put {o : Op} {σ : Sl} {d : Nat} {b : Value} (h : lenV o σ) : lenV o ((d, .v b) :: σ) := by
  unfold lenV at h ⊢
  split at h
  · rename_i x
    cases x with
    | tmp k =>
      simp only [ev, look] at h ⊢
      cases hq : d == k with
      | true => simp [lk, noSl]
      | false => simpa [lk] using h
    | _ => simpa only [ev] using h
  · rename_i args ts
    match hl : args.toList with
    | [] => simp [noMapL]
    | [x] =>
      rw [hl] at h
      simp only [List.map_cons, List.map_nil, noMapL] at h ⊢
      cases x with
      | tmp k =>
        simp only [ev, look] at h ⊢
        cases hq : d == k with
        | true => simp [lk, noMap]
        | false => simpa [lk] using h
      | _ => simpa only [ev] using h
    | _ :: _ :: _ => simp [noMapL]
  · exact trivial
mutual
def exP (E : Env) (ops : List Oper) : Plan → Sl → List Ob → (Sl → List Ob → Prop) → Prop
  | .fin, σ, H, K => K σ H
  | .one i p, σ, H, K => optK (nth ops i) (onAt E ops (exP E ops p) σ H K)
  | .alt l, σ, H, K => exPL E ops l σ H K
  | .jn _, _, _, _ => False
  | .jx _, _, _, _ => False
  | .pre _ _ _, _, _, _ => False
  | .hd _ _ _ _ _, _, _, _ => False
def exPL (E : Env) (ops : List Oper) : List (Nat × Plan) → Sl → List Ob → (Sl → List Ob → Prop) → Prop
  | [], _, _, _ => True
  | (i, p) :: l, σ, H, K => optK (nth ops i) (atOp E ops (exP E ops p) σ H K) ∧ exPL E ops l σ H K
end
theorem opN_plain {E : Env} {o : Op} {σ : Sl} {H : List Ob} {K : SV → List Ob → Prop} (hp : plainOp o = true) (h : opN E o σ H K) : opP E.P E.nw o σ H (keepK K H) ∧ (isLoad o = false ∨ (∃ args ts, o = .call ⟨.builtin .len, args, ts⟩) ∨ ∃ s d x, o = .convert s d x) := by
  unfold opN at h
  split at h <;> first | (simp [plainOp] at hp; done) | skip
  exact ⟨h, by unfold plainOp at hp; split at hp <;> first | exact .inl rfl | exact .inr (.inl ⟨_, _, rfl⟩) | exact .inr (.inr ⟨_, _, _, rfl⟩) | cases hp⟩
theorem opP_yieldsN {P : Program} {nw : Bool} {β : Bs} {σ : Sl} {H : List Ob} {K : SV → Prop} {o : Oper} {a : Act} {w : World} {C : World → Prop} (hn : isLoad o.op = false ∨ (∃ args ts, o.op = .call ⟨.builtin .len, args, ts⟩) ∨ ∃ s d x, o.op = .convert s d x) (hv : lenV o.op σ) (h : opP P nw o.op σ H K) (hI : Inv β H w) (hs : SlotsOk β σ a) : Yields P β C K o a := by
  rcases hn with hn | ⟨args, ts, ho⟩ | ⟨s, d, x, ho⟩
  · exact opP_yieldsC (by rw [hn]; intro h; cases h) h hI hs
  · rw [ho] at h hv
    simp only [opP] at h
    simp only [lenV] at hv
    unfold len1 at h
    split at h
    · rename_i x1 t r hargs hts
      obtain ⟨x, hargs2, rfl⟩ : ∃ x, args.toList = [x] ∧ ev σ x = x1 := by
        cases hl : args.toList with
        | nil => rw [hl] at hargs; cases hargs
        | cons x l => rw [hl] at hargs; simp only [List.map_cons, List.cons.injEq, List.map_eq_nil_iff] at hargs; exact ⟨x, by rw [hargs.2], hargs.1⟩
      rw [hargs] at hv
      simp only [noMapL] at hv
      have e1 : args = #[x] := by rw [← Array.toArray_toList (xs := args), hargs2]
      subst e1
      have e2 : ts[0]? = some t := by rw [← Array.getElem?_toList, hts]; rfl
      have fin : Gives P β C K (Builtin.len_ ts o.type #[a.eval x]) → Yields P β C K o a := fun hG =>
        yields_of hG fun w z hr => by simp only [execOp, ho, resolve, invoke, builtin, Sem.run_bind, Sem.run_pure, Result.andThen_ok, List.map_toArray, List.map_cons, List.map_nil, hr]
      have hu := ev_ok hs x
      unfold len2 at h
      split at h
      · rename_i j hx; rw [hx] at hv; exact hv.elim
      · rename_i y hx; rw [hx] at hu; exact fin (lenK_gives h hu ts o.type e2)
      · rename_i hx; rw [hx] at hu; exact fin (lenK_gives h hu ts o.type e2)
      · rename_i hx; rw [hx] at hu; exact fin (lenK_gives h hu ts o.type e2)
      · exact h.elim
    · exact h.elim
  · rw [ho] at h hv
    simp only [opP] at h
    simp only [lenV] at hv
    have hu := ev_ok hs x
    unfold cvK at h
    split at h
    · rename_i y hx
      rw [hx] at hu
      exact yields_of (convK_gives h hu) fun w z hr => by simp only [execOp, ho, Sem.run_bind, hr, Result.andThen_ok, Sem.run_pure]
    · rename_i hx
      rw [hx] at hv
      exact hv.elim
    · exact h.elim
/-- An operation of a plan, in its place. -/
theorem atOp_wp {E : Env} {ops : List Oper} {β0 : Bs} {H0 : List Ob} {w0 : World} {K : Sl → List Ob → Prop} {Q : Exit → Act → World → Prop} {g : Go1} {i : Nat} {o : Oper} {β : Bs} {σ : Sl} {H : List Ob} {a : Act} {w : World} {next : Act → World → Prop}
    (hi : ops[i]? = some o) (hd : dstOk E.nt o = true ∧ gdOk E.nt ops o = true) (hs : St E β0 H0 w0 β σ H a w) (h : atOp E ops g σ H K o)
    (hn : ∀ β' σ' H' a' w', St E β0 H0 w0 β' σ' H' a' w' → Fr E.n0 β H w β' H' w' → g σ' H' K → next a' w') : wpOp E.P ops.toArray Q i next a w := by
  have hi' : ops.toArray[i]? = some o := by simpa using hi
  unfold wpOp
  simp only [hi']
  have run : ∀ σ1, St E β0 H0 w0 β σ1 H a w → opN E o.op σ1 H (nextN g o.dst σ1 K) → o.wp E.P a w next Q := by
    intro σ1 hs1 h1
    refine opN_wp h1 hs1.inv hs1.slots hs1.n0 fun r v β' H' w' q1 q2 q3 q4 q5 => ?_
    simp only [nextN] at q1
    exact hn β' _ H' _ w' (put_ok ⟨q3, q4, hs.size, hs.defers.fr q5, hs.fr.trans q5, q5.len hs.n0⟩ hd.1 q2) q5 q1
  unfold atOp gdN0 at h
  split at h
  · rename_i hg
    rw [if_pos (guard_none hg)]
    exact .inl (run σ hs h)
  · rename_i j want hg
    unfold gdN at h
    split at h
    · rename_i d hgd
      have hlt : d < a.tmps.size := by
        have := hd.2
        unfold gdOk at this
        rw [hg] at this
        simp only [hgd] at this
        rw [hs.size]
        simpa using this
      have hy := yielded_eq hgd hlt
      rcases guardK_case h hs.slots with ⟨e, h⟩ | ⟨e, h⟩ | ⟨e, h⟩
      · have hy2 : yielded ops.toArray a.tmps j = some want := by rw [hy, e]
        rw [if_pos (by simp [Region.wanted, hg, hy2])]
        exact .inl (run _ (st_look hs (by rw [e]; simp only [Ok])) h)
      · have hy2 : yielded ops.toArray a.tmps j = some (!want) := by rw [hy, e]
        rw [if_neg (by cases want <;> simp [Region.wanted, hg, hy2])]
        exact hn β _ H _ w (put_ok (o := o) (st_look hs (d := d) (x := .v (.bool (!want))) (by rw [e]; simp only [Ok])) hd.1 (by simp only [Ok])) (Fr.refl _ _ _ _) h
      · have hy2 : yielded ops.toArray a.tmps j = none := by rw [hy, e]; rfl
        rw [if_neg (by cases want <;> simp [Region.wanted, hg, hy2])]
        exact hn β _ H _ w (put_ok hs hd.1 (by simp only [Ok])) (Fr.refl _ _ _ _) h
    · exact h.elim
/-- .. or ahead of it. -/
theorem atOp_yields {E : Env} {ops : List Oper} {β0 : Bs} {H0 : List Ob} {w0 : World} {K : Sl → List Ob → Prop} {g : Go1} {i : Nat} {o : Oper} {β : Bs} {σ : Sl} {H : List Ob} {a : Act} {w : World}
    (hi : ops[i]? = some o) (hp : plainOp o.op = true) (hd : dstOk E.nt o = true ∧ gdOk E.nt ops o = true) (hs : St E β0 H0 w0 β σ H a w) (hlv : lenV o.op σ) (h : atOp E ops g σ H K o) :
    ∃ v σ', Go.Yields E.P ops.toArray o v a ∧ St E β0 H0 w0 β σ' H (a.put o.dst v) w ∧ g σ' H K := by
  have run : ∀ σ1, St E β0 H0 w0 β σ1 H a w → lenV o.op σ1 → opN E o.op σ1 H (nextN g o.dst σ1 K) → ∃ v, (∀ w, (execOp a.eval o).run E.P w = .ok (.value v) w) ∧ ∃ σ', St E β0 H0 w0 β σ' H (a.put o.dst v) w ∧ g σ' H K := by
    intro σ1 hs1 hlv h1
    obtain ⟨h2, h3⟩ := opN_plain hp h1
    obtain ⟨r, z, q1, q2, q3⟩ := opP_yieldsN (C := fun _ => True) h3 hlv h2 hs1.inv hs1.slots
    simp only [keepK, nextN] at q1
    exact ⟨z, fun w => q3 w trivial, _, put_ok hs1 hd.1 q2, q1⟩
  unfold atOp gdN0 at h
  split at h
  · rename_i hg
    obtain ⟨v, h1, σ', h2, h3⟩ := run σ hs hlv h
    exact ⟨v, σ', .inl ⟨guard_none hg, h1⟩, h2, h3⟩
  · rename_i j want hg
    unfold gdN at h
    split at h
    · rename_i d hgd
      have hlt : d < a.tmps.size := by
        have := hd.2
        unfold gdOk at this
        rw [hg] at this
        simp only [hgd] at this
        rw [hs.size]
        simpa using this
      have hy := yielded_eq hgd hlt
      rcases guardK_case h hs.slots with ⟨e, h⟩ | ⟨e, h⟩ | ⟨e, h⟩
      · have hy2 : yielded ops.toArray a.tmps j = some want := by rw [hy, e]
        obtain ⟨v, h1, σ', h2, h3⟩ := run _ (st_look hs (by rw [e]; simp only [Ok])) (lenV_put hlv) h
        exact ⟨v, σ', .inl ⟨by simp [Region.wanted, hg, hy2], h1⟩, h2, h3⟩
      · have hy2 : yielded ops.toArray a.tmps j = some (!want) := by rw [hy, e]
        exact ⟨undef, _, .inr ⟨by cases want <;> simp [Region.wanted, hg, hy2], rfl⟩, put_ok (o := o) (st_look hs (d := d) (x := .v (.bool (!want))) (by rw [e]; simp only [Ok])) hd.1 (by simp only [Ok]), h⟩
      · have hy2 : yielded ops.toArray a.tmps j = none := by rw [hy, e]; rfl
        exact ⟨undef, _, .inr ⟨by cases want <;> simp [Region.wanted, hg, hy2], rfl⟩, put_ok hs hd.1 (by simp only [Ok]), h⟩
    · exact h.elim
/- ===== loads that are taken first ===== -/
/-- The blocks that are not written are as they were. -/
def SS (β : Bs) (H : List Ob) (w w' : World) : Prop := ∀ g, g < w.heap.size → ¬ OwnB β H g → w'.heap[g]? = w.heap[g]?
theorem lies_runC {P : Program} {β : Bs} {w : World} {C : World → Prop} {g b : Nat} {l : List SV} {t : TypeId} {K : SV → Prop} (h : oneL (tdOf P t).agg (P.cellsOf t) K l) (ht : tdOf P t ≠ .other) (hl : Lies β w g b l)
    (later : ∀ w', C w' → ∀ c v, w.cell? ⟨g, b + c, none⟩ = some v → g < w.heap.size → w'.cell? ⟨g, b + c, none⟩ = some v) : Gives P β C K (Instr.loadAt t (.pointer (some ⟨g, b, none⟩))) := by
  have two : (∃ y, (tdOf P t).agg = false ∧ l = [y] ∧ P.cellsOf t = 1 ∧ K y) ∨ ((tdOf P t).agg = true ∧ lenIs l (P.cellsOf t) = true ∧ K (.a l)) := by
    unfold oneL oneK at h
    cases hagg : (tdOf P t).agg with
    | true => rw [hagg] at h; exact .inr ⟨rfl, h⟩
    | false =>
      rw [hagg] at h
      match l, h with
      | [y], h => exact .inl ⟨y, rfl, rfl, h.1, h.2⟩
      | [], h => exact h.elim
      | _ :: _ :: _, h => exact h.elim
  rcases two with ⟨y, hagg, rfl, hc, h⟩ | ⟨hagg, h⟩
  · obtain ⟨v, h1, h2, h3⟩ := hl 0 y rfl
    refine ⟨y, v, h, h2, fun w' hw' => ?_⟩
    have := later w' hw' 0 v h1 h3
    simp only [Instr.loadAt, Instr.sureAddr, loadVar, Sem.run_bind, Sem.run_pure, td_agg ht, hagg, Result.andThen_ok, Bool.false_eq_true, if_false]
    simp only [Nat.add_zero] at this
    simp [load, Sem.run, this]
  · obtain ⟨hlen, hK⟩ := h
    have hlen := lenIs_eq _ _ hlen
    obtain ⟨vs, h1, h2⟩ := gather (Q := fun c v => w.cell? ⟨g, b + c, none⟩ = some v ∧ g < w.heap.size) (β := β) (l := l) fun c y hy => by
      obtain ⟨v, h1, h2, h3⟩ := hl c y hy
      exact ⟨v, ⟨h1, h3⟩, h2⟩
    refine ⟨.a l, .agg vs.toArray, hK, by simp only [Ok]; exact ⟨_, rfl, by simpa using h1⟩, fun w' hw' => ?_⟩
    have hvs : vs.length = P.cellsOf t := (okL_length h1).trans hlen
    have hr := run_loadCells_list (P := P) (w := w') ⟨g, b, none⟩ vs (fun j v hv => by
      obtain ⟨h3, h4⟩ := h2 j v hv
      rw [add_none]
      exact later w' hw' j v h3 h4)
    have hs : (sizeOf t).run P w' = .ok vs.length w' := by
      unfold Program.cellsOf at hvs
      cases hi : P.info? t with
      | none =>
        exfalso
        apply ht
        unfold tdOf Program.underlying
        rw [hi]
      | some i =>
        rw [hi] at hvs
        simp [sizeOf, typeInfo, program, hi, bind, Sem.bind, Sem.run, pure, hvs]
    simp only [Instr.loadAt, Instr.sureAddr, loadVar, Sem.run_bind, Sem.run_pure, td_agg ht, hagg, Result.andThen_ok, if_true, hs, hr]
/-- An address in an object that is only read. -/
def roX (H : List Ob) (x : SV) : Prop :=
  match x with
  | .p j _ _ => (obAt H j).ro = true
  | .e j _ _ _ _ => (obAt H j).ro = true
  | _ => False
theorem own_ro {o : Ob} {i : Nat} (h : o.own i) : o.ro = false := by
  unfold Ob.own at h
  split at h
  · exact h.2
  · exact h.2.1
  · exact h.2
  · exact h.elim
theorem read_notown {H : List Ob} {x : SV} {n : Nat} {K : List SV → Prop} {β : Bs} {w : World} {g b : Nat} (h : readK H x n K) (hx : roX H x) (hI : Inv β H w) (hu : Ok β x (.pointer (some ⟨g, b, none⟩))) : ¬ OwnB β H g := by
  have key : ∀ j i, obAt H j = obAt H j → (obAt H j).ct ≠ .dead → (obAt H j).ro = true → (obAt H j).mem i → (∃ b', β j i = some (g, b')) → ¬ OwnB β H g := by
    rintro j i _ hne hro hm ⟨b', hb⟩ ⟨j2, i2, o2, b2, q1, q2, q3⟩
    have hj := obAt_get (H := H) (j := j) hne
    obtain ⟨rfl, rfl⟩ := hI.sep j2 i2 j i o2 _ g b2 b' q1 hj q2 hm q3 hb
    rw [hj] at q1
    obtain rfl : obAt H j2 = o2 := by simpa using q1
    rw [own_ro q2] at hro
    cases hro
  unfold readK at h
  split at h
  · rename_i j i c
    simp only [roX] at hx
    simp only [Ok] at hu
    obtain ⟨g', b', h4, h5⟩ := hu
    obtain ⟨rfl, -⟩ : g = g' ∧ b = b' + c := by simpa using h5
    unfold rdSt at h
    split at h
    · rename_i cs hct
      obtain ⟨rfl, -⟩ := h
      exact key j 0 rfl (by rw [hct]; intro e; cases e) hx (by unfold Ob.mem; rw [hct]) ⟨_, h4⟩
    · exact h.elim
  · rename_i j i k c sz
    simp only [roX] at hx
    simp only [Ok] at hu
    obtain ⟨g', b', h4, h5⟩ := hu
    obtain ⟨rfl, -⟩ : g = g' ∧ b = b' + (k * sz + c) := by simpa using h5
    unfold rdRow at h
    split at h
    · rename_i sz' N len cap f hct
      obtain ⟨rfl, hi, hk, -⟩ := h
      refine key j i rfl (by rw [hct]; intro e; cases e) hx ?_ ⟨_, h4⟩
      unfold Ob.mem
      rw [hct]
      exact ⟨hi, fun _ => by omega, fun e => by rw [hx] at e; cases e⟩
    · exact h.elim
  · exact hx.elim
  · exact h.elim
theorem ldK_gives {P : Program} {β : Bs} {w : World} {H : List Ob} {t : TypeId} {x : SV} {u : Value} {K : SV → Prop} (h : loadK (tiOf P t) x H K) (hx : roX H x) (hI : Inv β H w) (hu : Ok β x u) : Gives P β (SS β H w) K (Instr.loadAt t u) := by
  unfold loadK at h
  split at h
  · exact h.elim
  · rename_i hne
    obtain ⟨l, g, b, h1, rfl, h2⟩ := read_lies h hI hu
    have hno := read_notown h hx hI hu
    exact lies_runC h1 hne h2 fun w' hw' c v hv hg => (World.cell?_of_block (w := w) (a := ⟨g, b + c, none⟩) (hw' g hg hno)).trans hv
/-- An operation that may be taken first. -/
def preK (E : Env) (ops : List Oper) (g : Go1) (σ : Sl) (H : List Ob) (K : Sl → List Ob → Prop) (o : Oper) : Prop :=
  match o.op with
  | .load t x => roX H (ev σ x) ∧ atOp E ops g σ H K o
  | _ => lenV o.op σ ∧ atOp E ops g σ H K o
def exPre (E : Env) (ops : List Oper) : List Nat → Go1 → Go1
  | [], g, σ, H, K => g σ H K
  | i :: l, g, σ, H, K => optK (nth ops i) (preK E ops (exPre E ops l g) σ H K)
def ldOp : Op → Bool
  | .load _ _ => true
  | _ => false
def preOp (o : Oper) : Bool := plainOp o.op || (ldOp o.op && o.guard.isNone)
theorem preK_yields {E : Env} {ops : List Oper} {β0 : Bs} {H0 : List Ob} {w0 : World} {K : Sl → List Ob → Prop} {g : Go1} {i : Nat} {o : Oper} {β : Bs} {σ : Sl} {H : List Ob} {a : Act} {w : World}
    (hi : ops[i]? = some o) (hp : preOp o = true) (hd : dstOk E.nt o = true ∧ gdOk E.nt ops o = true) (hs : St E β0 H0 w0 β σ H a w) (h : preK E ops g σ H K o) :
    ∃ v σ', YieldsIf E.P ops.toArray (SS β H w) o v a ∧ St E β0 H0 w0 β σ' H (a.put o.dst v) w ∧ g σ' H K := by
  unfold preOp at hp
  simp only [Bool.or_eq_true, Bool.and_eq_true, Option.isNone_iff_eq_none] at hp
  rcases hp with hp | ⟨hp, hg⟩
  · have h2 : lenV o.op σ ∧ atOp E ops g σ H K o := by
      unfold preK at h
      split at h
      · rename_i e; rw [e] at hp; cases hp
      · exact h
    obtain ⟨v, σ', q1, q2, q3⟩ := atOp_yields hi hp hd hs h2.1 h2.2
    exact ⟨v, σ', q1.yieldsIf, q2, q3⟩
  · unfold preK at h
    split at h
    · rename_i t x ho
      obtain ⟨hx, h⟩ := h
      unfold atOp gdN0 at h
      rw [hg] at h
      simp only [ho, opN, opP] at h
      obtain ⟨r, z, q1, q2, q3⟩ := ldK_gives h hx hs.inv (ev_ok hs.slots x)
      simp only [keepK, nextN] at q1
      exact ⟨z, _, .inl ⟨guard_none hg, fun w' hw' => by simp only [execOp, ho, Sem.run_bind, q3 w' hw', Result.andThen_ok, Sem.run_pure]⟩, put_ok hs hd.1 q2, q1⟩
    · rename_i hne
      unfold ldOp at hp
      split at hp
      · rename_i e; exact absurd e (hne _ _)
      · cases hp
theorem fr_ss {n0 : Nat} {β β' : Bs} {H H' : List Ob} {w w' : World} (h : Fr n0 β H w β' H' w') : SS β H w w' := h.block
/-- An object of which no cell is written any more. -/
def dem1 (o : Ob) : Ob :=
  match o.ct with
  | .st cs => ⟨o.ty, true, .st cs⟩
  | .row sz N len cap f => ⟨o.ty, o.ro, .row sz N len cap f⟩
  | .mp d n get => ⟨o.ty, o.ro, .mp d n get⟩
  | .dead => ⟨o.ty, o.ro, .dead⟩
def demO : List Nat → List Ob → List Ob
  | [], H => H
  | j :: J, H => demO J (H.set j (dem1 (obAt H j)))
theorem dem1_facts (o : Ob) : (∀ β w j, ObOk β w j o → ObOk β w j (dem1 o)) ∧ (∀ i, (dem1 o).own i → o.own i) ∧ (∀ i, (dem1 o).mem i ↔ o.mem i) ∧ (∀ i, (dem1 o).over i ↔ o.over i) := by
  obtain ⟨ty, ro, ct⟩ := o
  cases ct with
  | st cs => exact ⟨fun β w j h => h, fun i h => by simp [dem1, Ob.own] at h, fun i => Iff.rfl, fun i => Iff.rfl⟩
  | row sz N len cap f => exact ⟨fun _ _ _ h => h, fun _ h => h, fun _ => Iff.rfl, fun _ => Iff.rfl⟩
  | mp d n get => exact ⟨fun _ _ _ h => h, fun _ h => h, fun _ => Iff.rfl, fun _ => Iff.rfl⟩
  | dead => exact ⟨fun _ _ _ h => h, fun _ h => h, fun _ => Iff.rfl, fun _ => Iff.rfl⟩
theorem dem_get {H : List Ob} {j k : Nat} {o : Ob} (h : (H.set j (dem1 (obAt H j)))[k]? = some o) : ∃ o1, H[k]? = some o1 ∧ (o = o1 ∨ o = dem1 o1) := by
  by_cases e : j = k
  · subst e
    by_cases hl : j < H.length
    · rw [List.getElem?_set_self hl] at h
      refine ⟨H[j], List.getElem?_eq_getElem hl, .inr ?_⟩
      have hoj : ∀ (H : List Ob) (j : Nat) (hl : j < H.length), obAt H j = H[j] := by
        intro H
        induction H with
        | nil => intro j hl; simp at hl
        | cons a l ih =>
          intro j hl
          cases j with
          | zero => rfl
          | succ j => simpa [obAt] using ih j (by simpa using hl)
      rw [hoj H j hl] at h
      simpa using h.symm
    · rw [List.getElem?_eq_none (by simp; omega)] at h
      cases h
  · rw [List.getElem?_set_ne e] at h
    exact ⟨o, h, .inl rfl⟩
theorem st_dem1 {E : Env} {β0 : Bs} {H0 : List Ob} {w0 : World} {β : Bs} {σ : Sl} {H : List Ob} {a : Act} {w : World} (j : Nat) (h : St E β0 H0 w0 β σ H a w) : St E β0 H0 w0 β σ (H.set j (dem1 (obAt H j))) a w := by
  have f1 : ∀ (o1 o : Ob) i, (o = o1 ∨ o = dem1 o1) → o.own i → o1.own i := fun o1 o i e ho => by
    rcases e with rfl | rfl
    · exact ho
    · exact (dem1_facts o1).2.1 i ho
  have f2 : ∀ (o1 o : Ob) i, (o = o1 ∨ o = dem1 o1) → o.mem i → o1.mem i := fun o1 o i e ho => by
    rcases e with rfl | rfl
    · exact ho
    · exact ((dem1_facts o1).2.2.1 i).1 ho
  have hl : (H.set j (dem1 (obAt H j))).length = H.length := List.length_set
  have hI0 : Inv0 β (H.set j (dem1 (obAt H j))) w := by
    refine ⟨fun k o hk => ?_, fun k i hk => h.inv.out k i (by rw [hl] at hk; exact hk), fun j1 i1 j2 i2 o1 o2 g b b' h1 h2 h3 h4 h5 h6 => ?_, fun k o i hk hov => ?_⟩
    · obtain ⟨o1, q1, q2⟩ := dem_get hk
      rcases q2 with rfl | rfl
      · exact h.inv.ob k o q1
      · exact (dem1_facts o1).1 β w k (h.inv.ob k o1 q1)
    · obtain ⟨p1, q1, q2⟩ := dem_get h1
      obtain ⟨p2, r1, r2⟩ := dem_get h2
      exact h.inv.sep j1 i1 j2 i2 p1 p2 g b b' q1 r1 (f1 _ _ _ q2 h3) (f2 _ _ _ r2 h4) h5 h6
    · obtain ⟨o1, q1, q2⟩ := dem_get hk
      rcases q2 with rfl | rfl
      · exact h.inv.bey k o i q1 hov
      · exact h.inv.bey k o1 i q1 (((dem1_facts o1).2.2.2 i).1 hov)
  have hO : ∀ g, OwnB β (H.set j (dem1 (obAt H j))) g → OwnB β H g := fun g ⟨k, i, o, b, q1, q2, q3⟩ => by
    obtain ⟨o1, r1, r2⟩ := dem_get q1
    exact ⟨k, i, o1, b, r1, f1 _ _ _ r2 q2, q3⟩
  have hM : ∀ g, MemB β (H.set j (dem1 (obAt H j))) g → MemB β H g := fun g ⟨k, i, o, b, q1, q2, q3⟩ => by
    obtain ⟨o1, r1, r2⟩ := dem_get q1
    exact ⟨k, i, o1, b, r1, f2 _ _ _ r2 q2, q3⟩
  have hI : Inv β (H.set j (dem1 (obAt H j))) w := ⟨hI0, h.inv.gl.step (Nat.le_refl _) (fun _ _ _ => rfl) fun g _ => hO g⟩
  exact ⟨hI, h.slots, h.size, h.defers.weak hM, ⟨h.fr.tape, h.fr.os, h.fr.output, h.fr.size, h.fr.block, fun g hg ho => h.fr.own g hg (hO g ho), fun g hg ho => h.fr.mem g hg (hM g ho), h.fr.le, fun hn => by rw [hl]; exact h.fr.len hn⟩, by rw [hl]; exact h.n0⟩
theorem st_dem {E : Env} {β0 : Bs} {H0 : List Ob} {w0 : World} {β : Bs} {σ : Sl} {a : Act} {w : World} : ∀ (J : List Nat) (H : List Ob), St E β0 H0 w0 β σ H a w → St E β0 H0 w0 β σ (demO J H) a w
  | [], _, h => h
  | j :: J, _, h => st_dem J _ (st_dem1 j h)
mutual
def plFit : Plan → Nat → Bool
  | .fin, _ => true
  | .one _ p, n + 1 => plFit p n
  | .one _ _, 0 => false
  | .alt l, n + 1 => plFitL l n
  | .alt _, 0 => false
  | .jn _, _ => false
  | .jx _, _ => false
  | .pre _ _ _, _ => false
  | .hd _ _ _ _ _, _ => false
def plFitL : List (Nat × Plan) → Nat → Bool
  | [], _ => true
  | (_, p) :: l, n => plFit p n && plFitL l n
end
section
variable {E : Env} {ops : List Oper} {β0 βs : Bs} {H0 Hs : List Ob} {w0 ws : World} {K : Sl → List Ob → Prop} {Q : Exit → Act → World → Prop}
mutual
theorem exP_sound (hQp : ∀ c a w, ¬ Q (.panic c) a w) (hK : ∀ β σ H a w, St E β0 H0 w0 β σ H a w → K σ H → Q .normal a w) (hsel : Region.noSelect ops.toArray = true) (hd : ∀ o ∈ ops, dstOk E.nt o = true ∧ gdOk E.nt ops o = true) :
    ∀ (p : Plan) (fuel : Nat) (listed : Array Bool) (β : Bs) (σ : Sl) (H : List Ob) (a : Act) (w : World), planOk ops.toArray listed p = true → plFit p fuel = true → St E β0 H0 w0 β σ H a w → Fr E.n0 βs Hs ws β H w → exP E ops p σ H K → wpAnyH E.P .any ops.toArray Q (SS βs Hs ws) fuel listed a w
  | .fin, fuel, listed, β, σ, H, a, w, hp, _, hs, hF, h => by
    simp only [exP] at h
    simp only [planOk, List.isEmpty_iff] at hp
    exact wpAnyH_done hp (hK β σ H a w hs h) fuel
  | .one i p, 0, _, _, _, _, _, _, _, hf, _, _, _ => by simp [plFit] at hf
  | .one i p, fuel + 1, listed, β, σ, H, a, w, hp, hf, hs, hF, h => by
    simp only [exP] at h
    simp only [plFit] at hf
    simp only [planOk, Bool.and_eq_true, Bool.or_eq_true, beq_iff_eq] at hp
    obtain ⟨o, ho, h1⟩ := optK_iff h
    rw [nth_eq] at ho
    have hdo := hd o (List.mem_of_getElem? ho)
    rcases hp.1 with hr | ⟨⟨hpl, hfree⟩, hr⟩
    · refine wpAnyH_all hr (by simp) fun j hj => ?_
      have : j = i := by simpa using hj
      subst this
      exact atOp_wp ho hdo hs h1.2 fun β' σ' H' a' w' hs' hf' h' => ⟨fr_ss (hF.trans hf'), exP_sound hQp hK hsel hd p fuel _ β' σ' H' a' w' hp.2 hf hs' (hF.trans hf') h'⟩
    · have ho' : ops.toArray[i]? = some o := by simpa using ho
      rw [ho'] at hpl
      have hpl : plainOp o.op = true := hpl
      obtain ⟨v, σ', hy, hs', h'⟩ := atOp_yields ho hpl hdo hs h1.1 h1.2
      exact wpAnyH_take ho' hsel hfree hr (fun c a w hq => absurd hq (hQp c _ w)) hy.yieldsIf (fr_ss hF) (exP_sound hQp hK hsel hd p fuel _ β σ' H _ w hp.2 hf hs' hF h')
  | .alt l, 0, _, _, _, _, _, _, _, hf, _, _, _ => by simp [plFit] at hf
  | .alt l, fuel + 1, listed, β, σ, H, a, w, hp, hf, hs, hF, h => by
    simp only [exP] at h
    simp only [plFit] at hf
    simp only [planOk, Bool.and_eq_true, beq_iff_eq, Bool.not_eq_true', List.isEmpty_eq_false_iff] at hp
    have := exPL_sound hQp hK hsel hd l fuel listed β σ H a w hp.2 hf hs hF h
    exact wpAnyH_all hp.1.1 (by simpa using hp.1.2) fun j hj => by
      obtain ⟨q, hq, rfl⟩ := List.mem_map.1 hj
      exact this q hq
  | .jn p, fuel, listed, β, σ, H, a, w, hp, _, _, _, _ => by simp [planOk] at hp
  | .jx p, fuel, listed, β, σ, H, a, w, hp, _, _, _, _ => by simp [planOk] at hp
  | .pre _ _ p, fuel, listed, β, σ, H, a, w, hp, _, _, _, _ => by simp [planOk] at hp
  | .hd _ _ _ _ p, fuel, listed, β, σ, H, a, w, hp, _, _, _, _ => by simp [planOk] at hp
theorem exPL_sound (hQp : ∀ c a w, ¬ Q (.panic c) a w) (hK : ∀ β σ H a w, St E β0 H0 w0 β σ H a w → K σ H → Q .normal a w) (hsel : Region.noSelect ops.toArray = true) (hd : ∀ o ∈ ops, dstOk E.nt o = true ∧ gdOk E.nt ops o = true) :
    ∀ (l : List (Nat × Plan)) (fuel : Nat) (listed : Array Bool) (β : Bs) (σ : Sl) (H : List Ob) (a : Act) (w : World), planOkL ops.toArray listed l = true → plFitL l fuel = true → St E β0 H0 w0 β σ H a w → Fr E.n0 βs Hs ws β H w → exPL E ops l σ H K →
      ∀ q ∈ l, wpOp E.P ops.toArray Q q.1 (fun a' w' => SS βs Hs ws w' ∧ wpAnyH E.P .any ops.toArray Q (SS βs Hs ws) fuel (listed.setIfInBounds q.1 true) a' w') a w
  | [], _, _, _, _, _, _, _, _, _, _, _, _, q, hq => by cases hq
  | (i, p) :: l, fuel, listed, β, σ, H, a, w, hp, hf, hs, hF, h, q, hq => by
    simp only [exPL] at h
    simp only [plFitL, Bool.and_eq_true] at hf
    simp only [planOkL, Bool.and_eq_true] at hp
    rcases List.mem_cons.1 hq with rfl | hq
    · obtain ⟨o, ho, h0⟩ := optK_iff h.1
      rw [nth_eq] at ho
      have hdo := hd o (List.mem_of_getElem? ho)
      exact atOp_wp ho hdo hs h0 fun β' σ' H' a' w' hs' hf' h' => ⟨fr_ss (hF.trans hf'), exP_sound hQp hK hsel hd p fuel _ β' σ' H' a' w' hp.1 hf.1 hs' (hF.trans hf') h'⟩
    · exact exPL_sound hQp hK hsel hd l fuel listed β σ H a w hp.2 hf.2 hs hF h.2 q hq
end
end
def preOk (ops : Array Oper) : List Nat → Nat → Array Bool → Plan → Bool
  | [], n, listed, q => plFit q n && planOk ops listed q
  | i :: l, n + 1, listed, q => (match ops[i]? with | some o => preOp o | none => false) && (Region.free .any ops listed i && ((Region.ready .any ops listed).contains i && preOk ops l n (listed.setIfInBounds i true) q))
  | _ :: _, 0, _, _ => false
theorem exPre_sound {E : Env} {ops : List Oper} {β0 : Bs} {H0 : List Ob} {w0 : World} {K : Sl → List Ob → Prop} {Q : Exit → Act → World → Prop} (hQp : ∀ c a w, ¬ Q (.panic c) a w) (hK : ∀ β σ H a w, St E β0 H0 w0 β σ H a w → K σ H → Q .normal a w) (hsel : Region.noSelect ops.toArray = true) (hd : ∀ o ∈ ops, dstOk E.nt o = true ∧ gdOk E.nt ops o = true) (q : Plan) (β : Bs) (H : List Ob) (w : World) :
    ∀ (l : List Nat) (fuel : Nat) (listed : Array Bool) (σ : Sl) (a : Act), preOk ops.toArray l fuel listed q = true → St E β0 H0 w0 β σ H a w → exPre E ops l (exP E ops q) σ H K → wpAnyH E.P .any ops.toArray Q (SS β H w) fuel listed a w
  | [], fuel, listed, σ, a, hp, hs, h => by
    simp only [preOk, Bool.and_eq_true] at hp
    exact exP_sound hQp hK hsel hd q fuel listed β σ H a w hp.2 hp.1 hs (Fr.refl _ _ _ _) h
  | i :: l, 0, listed, σ, a, hp, hs, h => by simp [preOk] at hp
  | i :: l, fuel + 1, listed, σ, a, hp, hs, h => by
    simp only [exPre] at h
    simp only [preOk, Bool.and_eq_true] at hp
    obtain ⟨h1, h2, h3, h4⟩ := hp
    obtain ⟨o, ho, h⟩ := optK_iff h
    rw [nth_eq] at ho
    have hdo := hd o (List.mem_of_getElem? ho)
    have ho' : ops.toArray[i]? = some o := by simpa using ho
    rw [ho'] at h1
    obtain ⟨v, σ', hy, hs', h'⟩ := preK_yields ho h1 hdo hs h
    exact wpAnyH_take ho' hsel h2 h3 (fun c a w hq => absurd hq (hQp c _ w)) hy (fun _ _ _ => rfl) (exPre_sound hQp hK hsel hd q β H w l fuel _ σ' _ h4 hs' h')
/- ===== other words for one state ===== -/
/-- Other words for one memory, and for what is held of it. -/
def Wk {α : Type} (n0 : Nat) (A A' : Bs → α → Prop) (H H' : List Ob) : Prop :=
  ∀ β w, Inv β H w → n0 ≤ H.length → ∃ β', Inv β' H' w ∧ (∀ u, A β u → A' β' u) ∧ (∀ j i x, j < n0 → β j i = some x → β' j i = some x) ∧ (∀ g, OwnB β' H' g → OwnB β H g) ∧ (∀ g, MemB β' H' g → MemB β H g) ∧ n0 ≤ H'.length
def Wk0 {α : Type} (n0 : Nat) (A A' : Bs → α → Prop) (H H' : List Ob) : Prop :=
  ∀ β w, Inv β H w → n0 ≤ H.length → ∃ β', Inv0 β' H' w ∧ (∀ u, A β u → A' β' u) ∧ (∀ j i x, j < n0 → β j i = some x → β' j i = some x) ∧ (∀ g, OwnB β' H' g → OwnB β H g) ∧ (∀ g, MemB β' H' g → MemB β H g) ∧ n0 ≤ H'.length
theorem wk_of0 {α : Type} {n0 : Nat} {A A' : Bs → α → Prop} {H H' : List Ob} (h : Wk0 n0 A A' H H') : Wk n0 A A' H H' := fun β w hI hn => by
  obtain ⟨β', h1, h2, h3, h4, h5, h6⟩ := h β w hI hn
  exact ⟨β', ⟨h1, hI.gl.step (Nat.le_refl _) (fun _ _ _ => rfl) fun g _ => h4 g⟩, h2, h3, h4, h5, h6⟩
theorem Wk.trans {α : Type} {n0 : Nat} {A B C : Bs → α → Prop} {H H1 H2 : List Ob} (h : Wk n0 A B H H1) (h' : Wk n0 B C H1 H2) : Wk n0 A C H H2 := fun β w hI hn => by
  obtain ⟨β1, a1, a2, a3, a4, a5, a6⟩ := h β w hI hn
  obtain ⟨β2, b1, b2, b3, b4, b5, b6⟩ := h' β1 w a1 a6
  exact ⟨β2, b1, fun u hu => b2 u (a2 u hu), fun j i x hj hx => b3 j i x hj (a3 j i x hj hx), fun g hg => a4 g (b4 g hg), fun g hg => a5 g (b5 g hg), b6⟩
/-- .. for slots .. -/
abbrev SWk (n0 : Nat) (σ : Sl) (H : List Ob) (σ' : Sl) (H' : List Ob) : Prop := Wk (α := Act) n0 (fun β a => SlotsOk β σ a) (fun β a => SlotsOk β σ' a) H H'
theorem st_wk {E : Env} {β0 : Bs} {H0 : List Ob} {w0 : World} {β : Bs} {σ σ' : Sl} {H H' : List Ob} {a : Act} {w : World} (hs : St E β0 H0 w0 β σ H a w) (h : SWk E.n0 σ H σ' H') : ∃ β', St E β0 H0 w0 β' σ' H' a w := by
  obtain ⟨β', h1, h2, h3, h4, h5, h6⟩ := h β w hs.inv hs.n0
  exact ⟨β', h1, h2 a hs.slots, hs.size, hs.defers.weak h5, ⟨hs.fr.tape, hs.fr.os, hs.fr.output, hs.fr.size, hs.fr.block, fun g hg ho => hs.fr.own g hg (h4 g ho), fun g hg ho => hs.fr.mem g hg (h5 g ho), fun j i x hj hx => h3 j i x hj (hs.fr.le j i x hj hx), fun _ => h6⟩, h6⟩
/- ===== a head of operations that leave an object alone, then a tail in one order ===== -/
section
variable {P : Program} {md : Region.Mode} {ops : Array Oper} {Q : Exit → Act → World → Prop} {S : World → Prop}
/-- A head of n operations in any order, S behind each of them. -/
def wpAnyHL (P : Program) (md : Region.Mode) (ops : Array Oper) (Q : Exit → Act → World → Prop) (S : World → Prop) (n : Nat) (L : Array Bool → Act → World → Prop) : Nat → Array Bool → Act → World → Prop
  | 0, listed, a, w => L listed a w
  | f + 1, listed, a, w =>
    Region.ready md ops listed ≠ [] ∧ ∀ i ∈ Region.ready md ops listed, i < n ∧ wpOp P ops Q i (fun a' w' => S w' ∧ wpAnyHL P md ops Q S n L f (listed.setIfInBounds i true) a' w') a w
theorem wpAny_of_headL {n g : Nat} {L : Array Bool → Act → World → Prop} (hL : ∀ listed a w, L listed a w → wpAny P md ops Q g listed a w) :
    ∀ (f : Nat) (listed : Array Bool) (a : Act) (w : World), wpAnyHL P md ops Q S n L f listed a w → wpAny P md ops Q (f + g) listed a w
  | 0, listed, a, w, h => by rw [Nat.zero_add]; exact hL _ _ _ h
  | f + 1, listed, a, w, h => by
    rw [show f + 1 + g = (f + g) + 1 by omega]
    exact ⟨fun h0 => absurd h0 h.1, fun i hi => wpOp_mono (fun a' w' h' => wpAny_of_headL hL f _ a' w' h'.2) (h.2 i hi).2⟩
/-- What came first is listed, and nothing of the tail is. -/
structure HInv (md : Region.Mode) (ops : Array Oper) (n : Nat) (F : List Nat) (listed : Array Bool) : Prop where
  head : HeadInv md ops n listed
  fst : ∀ f ∈ F, listed.getD f false = true
theorem HInv.set {n i : Nat} {F : List Nat} {listed : Array Bool} (inv : HInv md ops n F listed) (hi : i ∈ Region.ready md ops listed) (hin : i < n) : HInv md ops n F (listed.setIfInBounds i true) :=
  ⟨inv.head.set hi hin, fun f hf => getD_set_true (inv.fst f hf)⟩
def sinkF (md : Region.Mode) (ops : Array Oper) (F : List Nat) (n : Nat) : Bool :=
  (List.range n).all fun i => F.contains i || (List.range (n + 1)).any fun j => decide (i < j) && Region.waitsFor md ops j i
theorem tailF_waits {n : Nat} {F : List Nat} {listed : Array Bool} (hs : sinkF md ops F n = true) (hc : Region.chainB md ops n = true) (hn : n < ops.size) (inv : HInv md ops n F listed) :
    ∀ (d i : Nat), n - i = d → i < n → listed.getD i true = false → ∀ t, n ≤ t → t ∉ Region.ready md ops listed := by
  intro d
  induction d using Nat.strongRecOn with
  | _ d ih =>
    intro i hd hi hun t ht hr
    obtain ⟨_, ot, hot, hall⟩ := mem_ready.1 hr
    have htlt : t < ops.size := (Array.getElem?_eq_some_iff.1 hot).1
    by_cases htn : t = n
    · subst htn
      have h1 := List.all_eq_true.1 hs i (List.mem_range.2 hi)
      rw [Bool.or_eq_true] at h1
      rcases h1 with h1 | h1
      · have := inv.fst i (by simpa using h1)
        rw [getD_both hun] at this
        cases this
      obtain ⟨j, hj, hj2⟩ := List.any_eq_true.1 h1
      simp only [Bool.and_eq_true, decide_eq_true_eq] at hj2
      obtain ⟨oj, hoj, e, he, hb, hon⟩ := Region.waitsFor_spec hj2.2
      have hjle : j ≤ t := by have := List.mem_range.1 hj; omega
      by_cases hjt : j = t
      · subst hjt
        have : oj = ot := Option.some.inj (hoj.symm.trans hot)
        subst this
        have h2 := hall e he hb
        rw [hon, getD_both hun] at h2
        cases h2
      · cases hl : listed.getD j false with
        | true =>
          have h2 := inv.head.closed j oj hoj hl e he hb
          rw [hon, getD_both hun] at h2
          cases h2
        | false =>
          have hjs : j < listed.size := by rw [inv.head.size]; omega
          exact ih (t - j) (by omega) j rfl (by omega) (getD_in hjs hl) t (Nat.le_refl _) hr
    · have h1 := List.all_eq_true.1 hc t (List.mem_range.2 htlt)
      simp only [Bool.or_eq_true, decide_eq_true_eq] at h1
      rcases h1 with h1 | h1
      · omega
      · obtain ⟨o', ho', e, he, hb, hon⟩ := Region.waitsFor_spec h1
        have : o' = ot := Option.some.inj (ho'.symm.trans hot)
        subst this
        have h2 := hall e he hb
        rw [hon, getD_both (inv.head.tail (t - 1) (by omega) (by omega))] at h2
        cases h2
theorem wpAnyHL_first {F : List Nat} {n i : Nat} {oi : Oper} {v : Value} {L : Array Bool → Act → World → Prop} (hi : ops[i]? = some oi) (hsel : ∀ (j : Nat) (o : Oper) cs b, ops[j]? = some o → o.op ≠ .select cs b)
    (hQ : ∀ c a w, Q (.panic c) (a.put oi.dst v) w → Q (.panic c) a w)
    (hs : sinkF md ops F n = true) (hc : Region.chainB md ops n = true) (hn : n < ops.size) (hin : i < n)
    (hdone : ∀ listed a w, L listed a w → ∀ j ∈ Region.ready md ops listed, n ≤ j) :
    ∀ (f : Nat) (listed : Array Bool) (a : Act) (w : World), HInv md ops n F listed →
      (∀ j oj, ops[j]? = some oj → j ≠ i → listed.getD j true = false → (∀ e ∈ oj.after, Region.binds md e = true → e.on ≠ i) → oi.apart ops oj = true) →
      i ∈ Region.ready md ops listed → YieldsIf P ops S oi v a → S w →
      wpAnyHL P md ops Q S n L f (listed.setIfInBounds i true) (a.put oi.dst v) w → wpAnyHL P md ops Q S n L (f + 1) listed a w := by
  intro f
  induction f with
  | zero =>
    intro listed a w inv _ hr hy hS H
    have hun := (mem_ready.1 hr).1
    refine ⟨fun h => (by rw [h] at hr; cases hr), fun j hj => ?_⟩
    have hjn : j < n := by
      rcases Nat.lt_or_ge j n with h | h
      · exact h
      · exact absurd hj (tailF_waits hs hc hn inv _ i rfl hin hun j h)
    refine ⟨hjn, ?_⟩
    by_cases hji : j = i
    · subst hji; exact hy.wpOp hi hS ⟨hS, H⟩
    · have := hdone _ _ _ H j (ready_mono hj hji)
      omega
  | succ f ih =>
    intro listed a w inv hfree hr hy hS H
    have hun := (mem_ready.1 hr).1
    refine ⟨fun h => (by rw [h] at hr; cases hr), fun j hj => ?_⟩
    have hjn : j < n := by
      rcases Nat.lt_or_ge j n with h | h
      · exact h
      · exact absurd hj (tailF_waits hs hc hn inv _ i rfl hin hun j h)
    refine ⟨hjn, ?_⟩
    by_cases hji : j = i
    · subst hji; exact hy.wpOp hi hS ⟨hS, H⟩
    · have h1 := (H.2 j (ready_mono hj hji)).2
      obtain ⟨hjun, oj, hoj, hall⟩ := mem_ready.1 hj
      have hnot : ∀ e ∈ oj.after, Region.binds md e = true → e.on ≠ i := fun e he hb heq => by
        have h1 := hall e he hb
        rw [heq, getD_both hun] at h1
        cases h1
      have h2 := wpOp_putIf hoj (hfree j oj hoj hji hjun hnot) (fun cs b => hsel i oi cs b hi) (fun cs b => hsel j oj cs b hoj) hQ hy h1
      have hfree' : ∀ k ok, ops[k]? = some ok → k ≠ i → (listed.setIfInBounds j true).getD k true = false →
          (∀ e ∈ ok.after, Region.binds md e = true → e.on ≠ i) → oi.apart ops ok = true := fun k ok hk hki hun hno => by
        refine hfree k ok hk hki ?_ hno
        by_cases hjk : j = k
        · subst hjk; exact hjun
        · rw [getD_set_ne true hjk] at hun; exact hun
      refine wpOp_mono (fun a' w' h3 => ⟨h3.2.1, ih (listed.setIfInBounds j true) a' w' (inv.set hj hjn) hfree' (ready_mono hr (Ne.symm hji)) h3.1 h3.2.1 ?_⟩) h2
      rw [Array.setIfInBounds_comm _ _ hji]
      exact h3.2.2
theorem yieldsIf_weak {C C' : World → Prop} {o : Oper} {v : Value} {a : Act} (h : ∀ w, C' w → C w) (hy : YieldsIf P ops C o v a) : YieldsIf P ops C' o v a :=
  hy.imp (fun ⟨h1, h2⟩ => ⟨h1, fun w hw => h2 w (h w hw)⟩) id
end
/-- An operation of a plan, in its place; the frame counts n1 objects. -/
theorem atOp_wp1 {n1 : Nat} {E : Env} {ops : List Oper} {β0 : Bs} {H0 : List Ob} {w0 : World} {K : Sl → List Ob → Prop} {Q : Exit → Act → World → Prop} {g : Go1} {i : Nat} {o : Oper} {β : Bs} {σ : Sl} {H : List Ob} {a : Act} {w : World} {next : Act → World → Prop}
    (hi : ops[i]? = some o) (hd : dstOk E.nt o = true ∧ gdOk E.nt ops o = true) (hn1 : E.n0 ≤ n1) (hl1 : n1 ≤ H.length) (hs : St E β0 H0 w0 β σ H a w) (h : atOp E ops g σ H K o)
    (hn : ∀ β' σ' H' a' w', St E β0 H0 w0 β' σ' H' a' w' → Fr n1 β H w β' H' w' → g σ' H' K → next a' w') : wpOp E.P ops.toArray Q i next a w := by
  have hi' : ops.toArray[i]? = some o := by simpa using hi
  unfold wpOp
  simp only [hi']
  have run : ∀ σ1, St E β0 H0 w0 β σ1 H a w → opN E o.op σ1 H (nextN g o.dst σ1 K) → o.wp E.P a w next Q := by
    intro σ1 hs1 h1
    have h1' : opN { E with n0 := n1 } o.op σ1 H (nextN g o.dst σ1 K) := h1
    refine opN_wp (E := { E with n0 := n1 }) h1' hs1.inv hs1.slots hl1 fun r v β' H' w' q1 q2 q3 q4 q5 => ?_
    simp only [nextN] at q1
    have q6 : Fr E.n0 β H w β' H' w' := Fr.mono q5 hn1 hl1
    exact hn β' _ H' _ w' (put_ok ⟨q3, q4, hs.size, hs.defers.fr q6, hs.fr.trans q6, q6.len hs.n0⟩ hd.1 q2) q5 q1
  unfold atOp gdN0 at h
  split at h
  · rename_i hg
    rw [if_pos (guard_none hg)]
    exact .inl (run σ hs h)
  · rename_i j want hg
    unfold gdN at h
    split at h
    · rename_i d hgd
      have hlt : d < a.tmps.size := by
        have := hd.2
        unfold gdOk at this
        rw [hg] at this
        simp only [hgd] at this
        rw [hs.size]
        simpa using this
      have hy := yielded_eq hgd hlt
      rcases guardK_case h hs.slots with ⟨e, h⟩ | ⟨e, h⟩ | ⟨e, h⟩
      · have hy2 : yielded ops.toArray a.tmps j = some want := by rw [hy, e]
        rw [if_pos (by simp [Region.wanted, hg, hy2])]
        exact .inl (run _ (st_look hs (by rw [e]; simp only [Ok])) h)
      · have hy2 : yielded ops.toArray a.tmps j = some (!want) := by rw [hy, e]
        rw [if_neg (by cases want <;> simp [Region.wanted, hg, hy2])]
        exact hn β _ H _ w (put_ok (o := o) (st_look hs (d := d) (x := .v (.bool (!want))) (by rw [e]; simp only [Ok])) hd.1 (by simp only [Ok])) (Fr.refl _ _ _ _) h
      · have hy2 : yielded ops.toArray a.tmps j = none := by rw [hy, e]; rfl
        rw [if_neg (by cases want <;> simp [Region.wanted, hg, hy2])]
        exact hn β _ H _ w (put_ok hs hd.1 (by simp only [Ok])) (Fr.refl _ _ _ _) h
    · exact h.elim
mutual
def plFitH : Plan → Nat → Bool
  | .fin, 0 => true
  | .fin, _ + 1 => false
  | .one _ p, n + 1 => plFitH p n
  | .one _ _, 0 => false
  | .alt l, n + 1 => plFitHL l n
  | .alt _, 0 => false
  | .jn _, _ => false
  | .jx _, _ => false
  | .pre _ _ _, _ => false
  | .hd _ _ _ _ _, _ => false
def plFitHL : List (Nat × Plan) → Nat → Bool
  | [], _ => true
  | (_, p) :: l, n => plFitH p n && plFitHL l n
end
/-- The head is listed, the tail is not. -/
def headL (m n : Nat) : Array Bool := (List.replicate n true ++ List.replicate (m - n) false).toArray
mutual
def planOkH (ops : Array Oper) (n : Nat) (listed : Array Bool) : Plan → Bool
  | .fin => listed == headL ops.size n
  | .one i p => decide (i < n) && ((((Region.ready .any ops listed) == [i]) || ((match ops[i]? with | some o => plainOp o.op | none => false) && Region.free .any ops listed i && (Region.ready .any ops listed).contains i)) && planOkH ops n (listed.setIfInBounds i true) p)
  | .alt l => ((Region.ready .any ops listed) == l.map Prod.fst) && (!l.isEmpty && planOkHL ops n listed l)
  | .jn _ => false
  | .jx _ => false
  | .pre _ _ _ => false
  | .hd _ _ _ _ _ => false
def planOkHL (ops : Array Oper) (n : Nat) (listed : Array Bool) : List (Nat × Plan) → Bool
  | [] => true
  | (i, p) :: l => decide (i < n) && (planOkH ops n (listed.setIfInBounds i true) p && planOkHL ops n listed l)
end
section
variable {E : Env} {ops : List Oper} {β0 βs : Bs} {H0 Hs : List Ob} {w0 ws : World} {K : Sl → List Ob → Prop} {Q : Exit → Act → World → Prop} {n n1 : Nat} {F : List Nat} {T : Act → World → Prop}
mutual
theorem exH_sound (hQp : ∀ c a w, ¬ Q (.panic c) a w) (hn1 : E.n0 ≤ n1) (hT : ∀ β σ H a w, St E β0 H0 w0 β σ H a w → Fr n1 βs Hs ws β H w → K σ H → T a w) (hsel : Region.noSelect ops.toArray = true) (hsk : sinkF .any ops.toArray F n = true) (hch : Region.chainB .any ops.toArray n = true) (hnl : n < ops.toArray.size) (hsq : Region.seqB .any ops.toArray (ops.toArray.size - n) n (headL ops.toArray.size n) = true) (hd : ∀ o ∈ ops, dstOk E.nt o = true ∧ gdOk E.nt ops o = true) :
    ∀ (p : Plan) (fuel : Nat) (listed : Array Bool) (β : Bs) (σ : Sl) (H : List Ob) (a : Act) (w : World), planOkH ops.toArray n listed p = true → plFitH p fuel = true → HInv .any ops.toArray n F listed → St E β0 H0 w0 β σ H a w → n1 ≤ H.length → Fr n1 βs Hs ws β H w → exP E ops p σ H K →
      wpAnyHL E.P .any ops.toArray Q (SS βs Hs ws) n (fun l a w => Region.seqB .any ops.toArray (ops.toArray.size - n) n l = true ∧ T a w) fuel listed a w
  | .fin, 0, listed, β, σ, H, a, w, hp, _, _, hs, hl, hF, h => by
    simp only [exP] at h
    simp only [planOkH, beq_iff_eq] at hp
    exact ⟨by rw [hp]; exact hsq, hT β σ H a w hs hF h⟩
  | .fin, _ + 1, listed, β, σ, H, a, w, _, hf, _, _, _, _, _ => by simp [plFitH] at hf
  | .one i p, 0, _, _, _, _, _, _, _, hf, _, _, _, _, _ => by simp [plFitH] at hf
  | .one i p, fuel + 1, listed, β, σ, H, a, w, hp, hf, inv, hs, hl, hF, h => by
    simp only [exP] at h
    simp only [plFitH] at hf
    simp only [planOkH, Bool.and_eq_true, Bool.or_eq_true, beq_iff_eq, decide_eq_true_eq] at hp
    obtain ⟨hin, hp1, hp2⟩ := hp
    obtain ⟨o, ho, h1⟩ := optK_iff h
    rw [nth_eq] at ho
    have hdo := hd o (List.mem_of_getElem? ho)
    have ho' : ops.toArray[i]? = some o := by simpa using ho
    rcases hp1 with hr | ⟨⟨hpl, hfree⟩, hr⟩
    · refine ⟨by rw [hr]; simp, fun j hj => ?_⟩
      have hji : j = i := by rw [hr] at hj; simpa using hj
      subst hji
      exact ⟨hin, atOp_wp1 ho hdo hn1 hl hs h1.2 fun β' σ' H' a' w' hs' hf' h' => ⟨fr_ss (hF.trans hf'), exH_sound hQp hn1 hT hsel hsk hch hnl hsq hd p fuel _ β' σ' H' a' w' hp2 hf (inv.set hj hin) hs' (hf'.len hl) (hF.trans hf') h'⟩⟩
    · rw [ho'] at hpl
      have hpl : plainOp o.op = true := hpl
      have hr' : i ∈ Region.ready .any ops.toArray listed := by simpa using hr
      obtain ⟨v, σ', hy, hs', h'⟩ := atOp_yields ho hpl hdo hs h1.1 h1.2
      exact wpAnyHL_first ho' (Region.noSelect_spec hsel) (fun c a w hq => absurd hq (hQp c _ w)) hsk hch hnl hin (fun l' a' w' hL => seqB_ready hL.1) fuel listed a w inv (Region.free_spec ho' hfree) hr' hy.yieldsIf (fr_ss hF)
        (exH_sound hQp hn1 hT hsel hsk hch hnl hsq hd p fuel _ β σ' H _ w hp2 hf (inv.set hr' hin) hs' hl hF h')
  | .alt l, 0, _, _, _, _, _, _, _, hf, _, _, _, _, _ => by simp [plFitH] at hf
  | .alt l, fuel + 1, listed, β, σ, H, a, w, hp, hf, inv, hs, hl, hF, h => by
    simp only [exP] at h
    simp only [plFitH] at hf
    simp only [planOkH, Bool.and_eq_true, beq_iff_eq, Bool.not_eq_true', List.isEmpty_eq_false_iff] at hp
    obtain ⟨hr, hne, hp2⟩ := hp
    have := exHL_sound hQp hn1 hT hsel hsk hch hnl hsq hd l fuel listed β σ H a w hp2 hf inv hs hl hF h
    refine ⟨by rw [hr]; simpa using hne, fun j hj => ?_⟩
    have hj2 := hj
    rw [hr] at hj2
    obtain ⟨q, hq, rfl⟩ := List.mem_map.1 hj2
    exact this q hq hj
  | .jn p, fuel, listed, β, σ, H, a, w, hp, _, _, _, _, _, _ => by simp [planOkH] at hp
  | .jx p, fuel, listed, β, σ, H, a, w, hp, _, _, _, _, _, _ => by simp [planOkH] at hp
  | .pre _ _ p, fuel, listed, β, σ, H, a, w, hp, _, _, _, _, _, _ => by simp [planOkH] at hp
  | .hd _ _ _ _ p, fuel, listed, β, σ, H, a, w, hp, _, _, _, _, _, _ => by simp [planOkH] at hp
theorem exHL_sound (hQp : ∀ c a w, ¬ Q (.panic c) a w) (hn1 : E.n0 ≤ n1) (hT : ∀ β σ H a w, St E β0 H0 w0 β σ H a w → Fr n1 βs Hs ws β H w → K σ H → T a w) (hsel : Region.noSelect ops.toArray = true) (hsk : sinkF .any ops.toArray F n = true) (hch : Region.chainB .any ops.toArray n = true) (hnl : n < ops.toArray.size) (hsq : Region.seqB .any ops.toArray (ops.toArray.size - n) n (headL ops.toArray.size n) = true) (hd : ∀ o ∈ ops, dstOk E.nt o = true ∧ gdOk E.nt ops o = true) :
    ∀ (l : List (Nat × Plan)) (fuel : Nat) (listed : Array Bool) (β : Bs) (σ : Sl) (H : List Ob) (a : Act) (w : World), planOkHL ops.toArray n listed l = true → plFitHL l fuel = true → HInv .any ops.toArray n F listed → St E β0 H0 w0 β σ H a w → n1 ≤ H.length → Fr n1 βs Hs ws β H w → exPL E ops l σ H K →
      ∀ q ∈ l, q.1 ∈ Region.ready .any ops.toArray listed → q.1 < n ∧ wpOp E.P ops.toArray Q q.1 (fun a' w' => SS βs Hs ws w' ∧ wpAnyHL E.P .any ops.toArray Q (SS βs Hs ws) n (fun l a w => Region.seqB .any ops.toArray (ops.toArray.size - n) n l = true ∧ T a w) fuel (listed.setIfInBounds q.1 true) a' w') a w
  | [], _, _, _, _, _, _, _, _, _, _, _, _, _, _, q, hq, _ => by cases hq
  | (i, p) :: l, fuel, listed, β, σ, H, a, w, hp, hf, inv, hs, hl, hF, h, q, hq, hqr => by
    simp only [exPL] at h
    simp only [plFitHL, Bool.and_eq_true] at hf
    simp only [planOkHL, Bool.and_eq_true, decide_eq_true_eq] at hp
    rcases List.mem_cons.1 hq with rfl | hq
    · obtain ⟨o, ho, h0⟩ := optK_iff h.1
      rw [nth_eq] at ho
      have hdo := hd o (List.mem_of_getElem? ho)
      exact ⟨hp.1, atOp_wp1 ho hdo hn1 hl hs h0 fun β' σ' H' a' w' hs' hf' h' => ⟨fr_ss (hF.trans hf'), exH_sound hQp hn1 hT hsel hsk hch hnl hsq hd p fuel _ β' σ' H' a' w' hp.2.1 hf.1 (inv.set hqr hp.1) hs' (hf'.len hl) (hF.trans hf') h'⟩⟩
    · exact exHL_sound hQp hn1 hT hsel hsk hch hnl hsq hd l fuel listed β σ H a w hp.2.2 hf.2 inv hs hl hF h.2 q hq hqr
end
end
/-- An object of which nothing is said. -/
def hollow : Ob := ⟨0, true, .row 1 1 (fun _ => 0) (fun _ => 0) (fun _ _ => [])⟩
def hid (j : Nat) (H : List Ob) : List Ob := H.set j hollow
theorem hid_get {H : List Ob} {j k : Nat} {o : Ob} (h : (hid j H)[k]? = some o) : (k = j ∧ o = hollow) ∨ (k ≠ j ∧ H[k]? = some o) := by
  unfold hid at h
  by_cases e : j = k
  · subst e
    by_cases hl : j < H.length
    · rw [List.getElem?_set_self hl] at h
      exact .inl ⟨rfl, (Option.some.inj h).symm⟩
    · rw [List.getElem?_eq_none (by simp; omega)] at h
      cases h
  · rw [List.getElem?_set_ne e] at h
    exact .inr ⟨fun q => e q.symm, h⟩
theorem hollow_own (i : Nat) : ¬ hollow.own i := fun h => by simp [hollow, Ob.own] at h
theorem hollow_mem (i : Nat) : ¬ hollow.mem i := fun h => by simp [hollow, Ob.mem] at h
theorem st_hid {E : Env} {β0 : Bs} {H0 : List Ob} {w0 : World} {β : Bs} {σ : Sl} {H : List Ob} {a : Act} {w : World} (j : Nat) (hb : ∀ o, H[j]? = some o → ∀ i, 0 < i → o.over i) (h : St E β0 H0 w0 β σ H a w) : St E β0 H0 w0 β σ (hid j H) a w := by
  have hl : (hid j H).length = H.length := List.length_set
  have hO : ∀ g, OwnB β (hid j H) g → OwnB β H g := fun g ⟨k, i, o, b, q1, q2, q3⟩ => by
    rcases hid_get q1 with ⟨rfl, rfl⟩ | ⟨_, q1⟩
    · exact absurd q2 (hollow_own i)
    · exact ⟨k, i, o, b, q1, q2, q3⟩
  have hM : ∀ g, MemB β (hid j H) g → MemB β H g := fun g ⟨k, i, o, b, q1, q2, q3⟩ => by
    rcases hid_get q1 with ⟨rfl, rfl⟩ | ⟨_, q1⟩
    · exact absurd q2 (hollow_mem i)
    · exact ⟨k, i, o, b, q1, q2, q3⟩
  have hI0 : Inv0 β (hid j H) w := by
    refine ⟨fun k o hk => ?_, fun k i hk => h.inv.out k i (by rw [hl] at hk; exact hk), fun j1 i1 j2 i2 o1 o2 g b b' h1 h2 h3 h4 h5 h6 => ?_, fun k o i hk hov => ?_⟩
    · rcases hid_get hk with ⟨rfl, rfl⟩ | ⟨_, q1⟩
      · simp [ObOk, hollow]
      · exact h.inv.ob k o q1
    · rcases hid_get h1 with ⟨rfl, rfl⟩ | ⟨_, q1⟩
      · exact absurd h3 (hollow_own i1)
      rcases hid_get h2 with ⟨rfl, rfl⟩ | ⟨_, q2⟩
      · exact absurd h4 (hollow_mem i2)
      exact h.inv.sep j1 i1 j2 i2 o1 o2 g b b' q1 q2 h3 h4 h5 h6
    · rcases hid_get hk with ⟨rfl, rfl⟩ | ⟨_, q1⟩
      · have hi : 0 < i := by simp [hollow, Ob.over] at hov; omega
        rcases Nat.lt_or_ge k H.length with hk2 | hk2
        · exact h.inv.bey k _ i (List.getElem?_eq_getElem hk2) (hb _ (List.getElem?_eq_getElem hk2) i hi)
        · exact h.inv.out k i hk2
      · exact h.inv.bey k o i q1 hov
  have hI : Inv β (hid j H) w := ⟨hI0, h.inv.gl.step (Nat.le_refl _) (fun _ _ _ => rfl) fun g _ => hO g⟩
  exact ⟨hI, h.slots, h.size, h.defers.weak hM, ⟨h.fr.tape, h.fr.os, h.fr.output, h.fr.size, h.fr.block, fun g hg ho => h.fr.own g hg (hO g ho), fun g hg ho => h.fr.mem g hg (hM g ho), h.fr.le, fun hn => by rw [hl]; exact h.fr.len hn⟩, by rw [hl]; exact h.n0⟩
theorem st_back {E : Env} {β0 β β1 : Bs} {H0 H H1 : List Ob} {w0 w w1 : World} {σ1 : Sl} {a1 : Act} {j : Nat} {ty : TypeId} {cs : List SV} {o1 : Ob} (hj : H[j]? = some ⟨ty, false, .st cs⟩) (hI : Inv β H w) (hfr : Fr E.n0 β0 H0 w0 β H w)
    (h1 : St E β0 H0 w0 β1 σ1 H1 a1 w1) (hF : Fr H.length β (hid j H) w β1 H1 w1) (hd : H1[j]? = some o1) (ho : ∀ i, 0 < i → o1.over i) : St E β0 H0 w0 β1 σ1 (H1.set j ⟨ty, false, .st cs⟩) a1 w1 := by
  obtain ⟨g, cur, e1, e2, e3⟩ := hI.ob j _ hj
  have hjl : j < H.length := (List.getElem?_eq_some_iff.1 hj).1
  have hjl1 : j < H1.length := (List.getElem?_eq_some_iff.1 hd).1
  have hb : BLe β β1 := fun k i x hx => hF.le k i x (by
    rcases Nat.lt_or_ge k H.length with h | h
    · exact h
    · rw [hI.out k i h] at hx; cases hx) hx
  have hg : g < w.heap.size := heap_lt e2
  have hown : (⟨ty, false, .st cs⟩ : Ob).own 0 := by simp [Ob.own]
  have hmem : (⟨ty, false, .st cs⟩ : Ob).mem 0 := Ob.own_mem hown
  have hnm : ¬ MemB β (hid j H) g := fun ⟨k, i, o, b, q1, q2, q3⟩ => by
    rcases hid_get q1 with ⟨rfl, rfl⟩ | ⟨hk, q1⟩
    · exact hollow_mem i q2
    · exact hk (hI.sep j 0 k i _ o g 0 b hj q1 hown q2 e1 q3).1.symm
  have hw1 : w1.heap[g]? = some (.cells cur ty (0, 0)) := (hF.block g hg fun h => hnm (own_memB h)).trans e2
  have hnm1 : ¬ MemB β1 H1 g := fun h => hnm (hF.mem g hg h)
  have e1' : β1 j 0 = some (g, 0) := hb j 0 _ e1
  have get : ∀ {k o}, (H1.set j (⟨ty, false, .st cs⟩ : Ob))[k]? = some o → (k = j ∧ o = ⟨ty, false, .st cs⟩) ∨ (k ≠ j ∧ H1[k]? = some o) := fun {k o} h => by
    by_cases e : j = k
    · subst e
      rw [List.getElem?_set_self hjl1] at h
      exact .inl ⟨rfl, (Option.some.inj h).symm⟩
    · rw [List.getElem?_set_ne e] at h
      exact .inr ⟨fun q => e q.symm, h⟩
  have st0 : ∀ {i}, (⟨ty, false, .st cs⟩ : Ob).mem i → i = 0 := fun {i} h => by simpa [Ob.mem] using h
  have isg : ∀ {i g' b}, (⟨ty, false, .st cs⟩ : Ob).mem i → β1 j i = some (g', b) → g' = g := fun {i g' b} h q => by
    rw [st0 h, e1'] at q
    exact (Prod.mk.inj (Option.some.inj q)).1.symm
  have hO : ∀ g', OwnB β1 (H1.set j ⟨ty, false, .st cs⟩) g' → OwnB β1 H1 g' ∨ g' = g := fun g' ⟨k, i, o, b, q1, q2, q3⟩ => by
    rcases get q1 with ⟨rfl, rfl⟩ | ⟨_, q1⟩
    · exact .inr (isg (Ob.own_mem q2) q3)
    · exact .inl ⟨k, i, o, b, q1, q2, q3⟩
  have hM : ∀ g', MemB β1 (H1.set j ⟨ty, false, .st cs⟩) g' → MemB β1 H1 g' ∨ g' = g := fun g' ⟨k, i, o, b, q1, q2, q3⟩ => by
    rcases get q1 with ⟨rfl, rfl⟩ | ⟨_, q1⟩
    · exact .inr (isg q2 q3)
    · exact .inl ⟨k, i, o, b, q1, q2, q3⟩
  have hgO : OwnB β H g := ⟨j, 0, _, 0, hj, hown, e1⟩
  have hhid : ∀ g', OwnB β (hid j H) g' → OwnB β H g' := fun g' ⟨k, i, o, b, q1, q2, q3⟩ => by
    rcases hid_get q1 with ⟨rfl, rfl⟩ | ⟨_, q1⟩
    · exact absurd q2 (hollow_own i)
    · exact ⟨k, i, o, b, q1, q2, q3⟩
  have hl : (H1.set j (⟨ty, false, .st cs⟩ : Ob)).length = H1.length := List.length_set
  have hI0 : Inv0 β1 (H1.set j ⟨ty, false, .st cs⟩) w1 := by
    refine ⟨fun k o hk => ?_, fun k i hk => h1.inv.out k i (by rw [hl] at hk; exact hk), fun j1 i1 j2 i2 p1 p2 g' b b' q1 q2 q3 q4 q5 q6 => ?_, fun k o i hk hov => ?_⟩
    · rcases get hk with ⟨rfl, rfl⟩ | ⟨_, q1⟩
      · exact ⟨g, cur, e1', hw1, OkL.mono hb _ _ e3⟩
      · exact h1.inv.ob k o q1
    · rcases get q1 with ⟨rfl, rfl⟩ | ⟨_, r1⟩ <;> rcases get q2 with ⟨rfl, rfl⟩ | ⟨_, r2⟩
      · rw [st0 (Ob.own_mem q3), st0 q4]; exact ⟨rfl, rfl⟩
      · have := isg (Ob.own_mem q3) q5
        subst this
        exact absurd ⟨j2, i2, p2, b', r2, q4, q6⟩ hnm1
      · have := isg q4 q6
        subst this
        exact absurd ⟨j1, i1, p1, b, r1, Ob.own_mem q3, q5⟩ hnm1
      · exact h1.inv.sep j1 i1 j2 i2 p1 p2 g' b b' r1 r2 q3 q4 q5 q6
    · rcases get hk with ⟨rfl, rfl⟩ | ⟨_, q1⟩
      · exact h1.inv.bey k o1 i hd (ho i (by simpa [Ob.over] using hov))
      · exact h1.inv.bey k o i q1 hov
  have hI1 : Inv β1 (H1.set j ⟨ty, false, .st cs⟩) w1 := ⟨hI0, hI.gl.step hF.size (fun g' hg' hn => hF.block g' hg' fun h => hn (hhid g' h)) fun g' hg' h => by
    rcases hO g' h with h | rfl
    · exact hhid g' (hF.own g' hg' h)
    · exact hgO⟩
  have hdf : DfOk E.it a1.defers β1 (H1.set j ⟨ty, false, .st cs⟩) w0 w1 := ⟨(fun d hd => by
    obtain ⟨D, r1, r2, r3, r4⟩ := h1.defers.one d hd
    refine ⟨D, r1, r2, r3, fun hm => ?_⟩
    rcases hM D hm with h | rfl
    · exact r4 h
    · rw [hw1] at r3; exact absurd (Option.some.inj r3) (by intro h; cases h)), h1.defers.nd, h1.defers.no⟩
  exact ⟨hI1, h1.slots, h1.size, hdf, ⟨h1.fr.tape, h1.fr.os, h1.fr.output, h1.fr.size, h1.fr.block, (fun g' hg' h => by
    rcases hO g' h with h | rfl
    · exact h1.fr.own g' hg' h
    · exact hfr.own g' hg' hgO), (fun g' hg' h => by
    rcases hM g' h with h | rfl
    · exact h1.fr.mem g' hg' h
    · exact hfr.mem g' hg' (own_memB hgO)), h1.fr.le, fun hn => by rw [hl]; exact h1.fr.len hn⟩, by rw [hl]; exact h1.n0⟩

/-- Behind the head: the hidden object is there again, and the tail comes in its one order. -/
def hdK (o1 : Ob) (X : Unit → Prop) : Prop :=
  match o1.ct with
  | .row _ N _ _ _ => N = 1 ∧ X ()
  | .st _ => False
  | .mp _ _ _ => False
  | .dead => False
def tailX (E : Env) (ops : List Oper) (n j : Nat) (o : Ob) (σ : Sl) (H1 : List Ob) (K : Sl → List Ob → Prop) (_ : Unit) : Prop := exN E ops (ops.drop n) σ (H1.set j o) K
def tailH (E : Env) (ops : List Oper) (n j : Nat) (o : Ob) (K : Sl → List Ob → Prop) (σ : Sl) (H1 : List Ob) : Prop := hdK (obAt H1 j) (tailX E ops n j o σ H1 K)
/-- All orders of the head end in one state but for x, which keeps the numbers of the objects. -/
def hxW {X : Type} (n0 : Nat) (σ' : X → Sl) (H' : X → List Ob) (R : X → Prop) (σ : Sl) (H : List Ob) : Prop := ∃ x, R x ∧ SWk n0 σ H (σ' x) (H' x)
def hdG (E : Env) (ops : List Oper) (j : Nat) (H : List Ob) (q : Plan) (M : Sl → List Ob → Prop) (σ : Sl) (_ : List Ob) (_ : Sl → List Ob → Prop) : Prop := exP E ops q σ (hid j H) M
def stK (o : Ob) (X : Unit → Prop) : Prop :=
  match o.ct with
  | .st _ => o.ro = false ∧ X ()
  | .row _ _ _ _ _ => False
  | .mp _ _ _ => False
  | .dead => False
/-- Operations that are plain, taken first. -/
def exF (E : Env) (ops : List Oper) : List Nat → Go1 → Go1
  | [], g, σ, H, K => g σ H K
  | i :: l, g, σ, H, K => optK (nth ops i) (onAt E ops (exF E ops l g) σ H K)
def hdY (E : Env) (ops : List Oper) (l : List Nat) (n j : Nat) (q : Plan) (σ : Sl) (H : List Ob) (K : Sl → List Ob → Prop) (_ : Unit) : Prop :=
  ∃ (X : Type) (σ' : X → Sl) (H' : X → List Ob) (R : X → Prop), exPre E ops l (hdG E ops j H q (hxW H.length σ' H' R)) σ (demO [j] H) K ∧ ∀ x, R x → tailH E ops n j (obAt H j) K (σ' x) (H' x)
def hdX (E : Env) (ops : List Oper) (l : List Nat) (n j : Nat) (q : Plan) (σ : Sl) (H : List Ob) (K : Sl → List Ob → Prop) : Prop := stK (obAt H j) (hdY E ops l n j q σ H K)
/-- A region whose head of n operations leaves object j alone. -/
def exHd (E : Env) (ops : List Oper) (F l : List Nat) (n j : Nat) (q : Plan) (σ : Sl) (H : List Ob) (K : Sl → List Ob → Prop) : Prop := exF E ops F (hdX E ops l n j q) σ H K
def preOkH (ops : Array Oper) (n : Nat) : List Nat → Nat → Array Bool → Plan → Bool
  | [], f, listed, q => plFitH q f && planOkH ops n listed q
  | i :: l, f + 1, listed, q => (match ops[i]? with | some o => preOp o | none => false) && (decide (i < n) && (Region.free .any ops listed i && ((Region.ready .any ops listed).contains i && preOkH ops n l f (listed.setIfInBounds i true) q)))
  | _ :: _, 0, _, _ => false
def fstOk (ops : Array Oper) (n : Nat) : List Nat → Nat → Array Bool → List Nat → Plan → Bool
  | [], f, listed, l, q => preOkH ops n l f listed q
  | i :: F, f + 1, listed, l, q => (match ops[i]? with | some o => plainOp o.op | none => false) && (decide (i < n) && (Region.free .any ops listed i && ((Region.ready .any ops listed).contains i && fstOk ops n F f (listed.setIfInBounds i true) l q)))
  | _ :: _, 0, _, _, _ => false
def hdOk (ops : Array Oper) (F l : List Nat) (n : Nat) (q : Plan) : Bool :=
  sinkF .any ops F n && (Region.chainB .any ops n && (decide (n < ops.size) && (Region.seqB .any ops (ops.size - n) n (headL ops.size n) && fstOk ops n F n (Array.replicate ops.size false) l q)))
theorem exHd_sound {E : Env} {ops : List Oper} {β0 : Bs} {H0 : List Ob} {w0 : World} {K : Sl → List Ob → Prop} {Q : Exit → Act → World → Prop} (hQp : ∀ c a w, ¬ Q (.panic c) a w) (hK : ∀ β σ H a w, St E β0 H0 w0 β σ H a w → K σ H → Q .normal a w) (hsel : Region.noSelect ops.toArray = true) (hd : ∀ o ∈ ops, dstOk E.nt o = true ∧ gdOk E.nt ops o = true)
    (F l : List Nat) (n j : Nat) (q : Plan) (β : Bs) (σ : Sl) (H : List Ob) (a : Act) (w : World) (hp : hdOk ops.toArray F l n q = true) (hs : St E β0 H0 w0 β σ H a w) (h : exHd E ops F l n j q σ H K) : wpAny E.P .any ops.toArray Q ops.length (Array.replicate ops.length false) a w := by
  simp only [hdOk, Bool.and_eq_true, decide_eq_true_eq] at hp
  obtain ⟨hsk, hch, hnl, hsq, hp⟩ := hp
  have hsz : ops.toArray.size = ops.length := by simp
  have main : ∀ (f : Nat) (listed : Array Bool) (σ : Sl) (a : Act), preOkH ops.toArray n l f listed q = true → HInv .any ops.toArray n F listed → St E β0 H0 w0 β σ H a w → hdX E ops l n j q σ H K → wpAny E.P .any ops.toArray Q (f + (ops.length - n)) listed a w := by
    intro f listed σ a hp inv hs h
    unfold hdX stK at h
    split at h
    case h_1 cs hct =>
      obtain ⟨hro, X, σ', H', R, h, htl⟩ := h
      have hj : H[j]? = some ⟨(obAt H j).ty, false, .st cs⟩ := by
        rw [obAt_get (by rw [hct]; intro e; cases e)]
        generalize obAt H j = o at *
        obtain ⟨ty, ro, ct⟩ := o
        simp only at hct hro
        rw [hct, hro]
      have hSS : ∀ w', SS β (hid j H) w w' → SS β (demO [j] H) w w' := fun w' hw g hg hno => hw g hg fun ⟨k, i, o, b, q1, q2, q3⟩ => by
        rcases hid_get q1 with ⟨rfl, rfl⟩ | ⟨hk, q1⟩
        · exact hollow_own i q2
        · exact hno ⟨k, i, o, b, by simp only [demO]; rw [List.getElem?_set_ne (Ne.symm hk)]; exact q1, q2, q3⟩
      have hon : ∀ o, H[j]? = some o → ∀ i, 0 < i → o.over i := fun o ho i hi => by
        rw [hj] at ho
        rw [← Option.some.inj ho]
        exact hi
      have key : ∀ (l : List Nat) (fuel : Nat) (listed : Array Bool) (σ : Sl) (a : Act), preOkH ops.toArray n l fuel listed q = true → HInv .any ops.toArray n F listed → St E β0 H0 w0 β σ H a w → exPre E ops l (hdG E ops j H q (hxW H.length σ' H' R)) σ (demO [j] H) K →
          wpAnyHL E.P .any ops.toArray Q (SS β (hid j H) w) n (fun l a w => Region.seqB .any ops.toArray (ops.toArray.size - n) n l = true ∧ wpList E.P ops.toArray Q (ops.drop n) a w) fuel listed a w := by
        intro l
        induction l with
        | nil =>
          intro fuel listed σ a hp inv hs h
          simp only [preOkH, Bool.and_eq_true] at hp
          simp only [exPre, hdG] at h
          have hs2 := st_hid j hon hs
          refine exH_sound (n1 := H.length) hQp hs.n0 (fun β1 σ1 H1 a1 w1 h1 hF ⟨x, hx, hw⟩ => ?_) hsel hsk hch hnl hsq hd q fuel listed β σ (hid j H) a w hp.2 hp.1 inv hs2 (by simp [hid]) (Fr.refl _ _ _ _) h
          have hl1 : H.length ≤ H1.length := hF.len (by simp [hid])
          obtain ⟨β2, v1, v2, v3, v4, v5, v6⟩ := hw β1 w1 h1.inv hl1
          have hF2 : Fr H.length β (hid j H) w β2 (H' x) w1 := ⟨hF.tape, hF.os, hF.output, hF.size, hF.block, fun g hg ho => hF.own g hg (v4 g ho), fun g hg ho => hF.mem g hg (v5 g ho), fun j i x hj hx => v3 j i x hj (hF.le j i x hj hx), fun _ => v6⟩
          have h2 : St E β0 H0 w0 β2 (σ' x) (H' x) a1 w1 := ⟨v1, v2 a1 h1.slots, h1.size, h1.defers.weak v5, ⟨h1.fr.tape, h1.fr.os, h1.fr.output, h1.fr.size, h1.fr.block, fun g hg ho => h1.fr.own g hg (v4 g ho), fun g hg ho => h1.fr.mem g hg (v5 g ho), fun j i x hj hx => v3 j i x (Nat.lt_of_lt_of_le hj hs.n0) (h1.fr.le j i x hj hx), fun _ => Nat.le_trans hs.n0 v6⟩, Nat.le_trans hs.n0 v6⟩
          have hk := htl x hx
          unfold tailH hdK at hk
          split at hk
          case h_1 sz N ln cp f hc1 =>
            obtain ⟨hN, hk⟩ := hk
            simp only [tailX] at hk
            have hd1 : (H' x)[j]? = some (obAt (H' x) j) := obAt_get (by rw [hc1]; intro e; cases e)
            have hb := st_back hj hs.inv hs.fr h2 hF2 hd1 (fun i hi => by
              unfold Ob.over
              rw [hc1]
              show N ≤ i
              omega)
            have he : (⟨(obAt H j).ty, false, .st cs⟩ : Ob) = obAt H j := by
              generalize obAt H j = o at *
              obtain ⟨ty, ro, ct⟩ := o
              simp only at hct hro
              rw [hct, hro]
            rw [he] at hb
            exact exN_sound hK (ops.drop n) β2 (σ' x) _ a1 w1 (fun o ho => hd o (List.mem_of_mem_drop ho)) hb hk
          all_goals exact hk.elim
        | cons i l ih =>
          intro fuel listed σ a hp inv hs h
          cases fuel with
          | zero => simp [preOkH] at hp
          | succ fuel =>
            simp only [exPre] at h
            simp only [preOkH, Bool.and_eq_true, decide_eq_true_eq] at hp
            obtain ⟨h1, hin, h2, h3, h4⟩ := hp
            obtain ⟨o, ho, h⟩ := optK_iff h
            rw [nth_eq] at ho
            have hdo := hd o (List.mem_of_getElem? ho)
            have ho' : ops.toArray[i]? = some o := by simpa using ho
            rw [ho'] at h1
            obtain ⟨v, σ', hy, hs', h'⟩ := preK_yields ho h1 hdo (st_dem [j] H hs) h
            have hr' : i ∈ Region.ready .any ops.toArray listed := by simpa using h3
            have hs2 : St E β0 H0 w0 β σ' H (a.put o.dst v) w := ⟨hs.inv, hs'.slots, hs'.size, (by rw [put_defers]; exact hs.defers), hs.fr, hs.n0⟩
            exact wpAnyHL_first ho' (Region.noSelect_spec hsel) (fun c a w hq => absurd hq (hQp c _ w)) hsk hch hnl hin (fun l' a' w' hL => seqB_ready hL.1) fuel listed a w inv (Region.free_spec ho' h2) hr' (yieldsIf_weak hSS hy) (fun _ _ _ => rfl)
              (ih fuel _ σ' _ h4 (inv.set hr' hin) hs2 h')
      have H1 := key l f listed σ a hp inv hs h
      have hdl : (ops.drop n).length = ops.toArray.size - n := by simp
      have := wpAny_of_headL (g := ops.toArray.size - n) (fun listed a' w' hL => by
        have := wpAny_of_seq (md := .any) (Q' := Q) (ops.drop n) n listed a' w' (fun j => by simp [List.getElem?_drop]) (by rw [hdl]; exact hL.1) hL.2
        rwa [hdl] at this) _ _ _ _ H1
      rw [hsz] at this
      exact this
    all_goals exact h.elim
  have first : ∀ (G : List Nat) (f : Nat) (listed : Array Bool) (σ : Sl) (a : Act), fstOk ops.toArray n G f listed l q = true → HeadInv .any ops.toArray n listed → (∀ x ∈ F, x ∈ G ∨ listed.getD x false = true) → St E β0 H0 w0 β σ H a w → exF E ops G (hdX E ops l n j q) σ H K → wpAny E.P .any ops.toArray Q (f + (ops.length - n)) listed a w := by
    intro G
    induction G with
    | nil =>
      intro f listed σ a hp inv hF hs h
      simp only [fstOk] at hp
      simp only [exF] at h
      exact main f listed σ a hp ⟨inv, fun x hx => (hF x hx).resolve_left (by simp)⟩ hs h
    | cons i G ih =>
      intro f listed σ a hp inv hF hs h
      cases f with
      | zero => simp [fstOk] at hp
      | succ f =>
        simp only [fstOk, Bool.and_eq_true, decide_eq_true_eq] at hp
        simp only [exF] at h
        obtain ⟨h1, hin, h2, h3, h4⟩ := hp
        obtain ⟨o, ho, h⟩ := optK_iff h
        rw [nth_eq] at ho
        have hdo := hd o (List.mem_of_getElem? ho)
        have ho' : ops.toArray[i]? = some o := by simpa using ho
        rw [ho'] at h1
        have h1 : plainOp o.op = true := h1
        obtain ⟨v, σ', hy, hs', h'⟩ := atOp_yields ho h1 hdo hs h.1 h.2
        have hr' : i ∈ Region.ready .any ops.toArray listed := by simpa using h3
        rw [show f + 1 + (ops.length - n) = (f + (ops.length - n)) + 1 by omega]
        have hil : i < listed.size := by rw [inv.size]; exact (Array.getElem?_eq_some_iff.1 ho').1
        exact wpAny_take ho' hsel h2 h3 (fun c a w hq => absurd hq (hQp c _ w)) hy (ih f _ σ' _ h4 (inv.set hr' hin) (fun x hx => by
          rcases hF x hx with hx | hx
          · rcases List.mem_cons.1 hx with rfl | hx
            · exact .inr (by simp [hil])
            · exact .inl hx
          · exact .inr (getD_set_true hx)) hs' h')
  have inv0 : HeadInv .any ops.toArray n (Array.replicate ops.toArray.size false) :=
    ⟨by simp, fun j oj _ hl => (by rw [getD_replicate_false] at hl; cases hl), fun t _ ht => getD_in (by simpa using ht) (getD_replicate_false _ _)⟩
  have := first F n _ σ a hp inv0 (fun x hx => .inl hx) hs h
  rw [show n + (ops.length - n) = ops.length by omega, hsz] at this
  exact this
/-- A plan, as a whole. -/
def exT (E : Env) (p : Plan) (ops : List Oper) (σ : Sl) (H : List Ob) (K : Sl → List Ob → Prop) : Prop :=
  match p with
  | .pre J l q => exPre E ops l (exP E ops q) σ (demO J H) K
  | .fin => exP E ops .fin σ H K
  | .one i p => exP E ops (.one i p) σ H K
  | .alt l => exP E ops (.alt l) σ H K
  | .jn _ => False
  | .jx _ => False
  | .hd j n F l q => exHd E ops F l n j q σ H K
def topOk (ops : Array Oper) (n : Nat) (p : Plan) : Bool :=
  match p with
  | .pre _ l q => preOk ops l n (Array.replicate n false) q
  | .hd _ k F l q => hdOk ops F l k q
  | p => plFit p n && planOk ops (Array.replicate n false) p
theorem exT_sound {E : Env} {ops : List Oper} {β0 : Bs} {H0 : List Ob} {w0 : World} {K : Sl → List Ob → Prop} {Q : Exit → Act → World → Prop} (hQp : ∀ c a w, ¬ Q (.panic c) a w) (hK : ∀ β σ H a w, St E β0 H0 w0 β σ H a w → K σ H → Q .normal a w) (hsel : Region.noSelect ops.toArray = true) (hd : ∀ o ∈ ops, dstOk E.nt o = true ∧ gdOk E.nt ops o = true)
    (p : Plan) (β : Bs) (σ : Sl) (H : List Ob) (a : Act) (w : World) (hp : topOk ops.toArray ops.length p = true) (hs : St E β0 H0 w0 β σ H a w) (h : exT E p ops σ H K) : wpAny E.P .any ops.toArray Q ops.length (Array.replicate ops.length false) a w := by
  cases p with
  | pre J l q => exact wpAny_of_held _ _ _ _ (exPre_sound hQp hK hsel hd q β (demO J H) w l ops.length _ σ a hp (st_dem J H hs) h)
  | hd j k F l q => exact exHd_sound hQp hK hsel hd F l k j q β σ H a w hp hs h
  | jn p => exact h.elim
  | jx p => exact h.elim
  | fin =>
    simp only [topOk, Bool.and_eq_true] at hp
    exact wpAny_of_held _ _ _ _ (exP_sound hQp hK hsel hd .fin _ _ β σ H a w hp.2 hp.1 hs (Fr.refl _ _ _ _) h)
  | one i p =>
    simp only [topOk, Bool.and_eq_true] at hp
    exact wpAny_of_held _ _ _ _ (exP_sound hQp hK hsel hd (.one i p) _ _ β σ H a w hp.2 hp.1 hs (Fr.refl _ _ _ _) h)
  | alt l =>
    simp only [topOk, Bool.and_eq_true] at hp
    exact wpAny_of_held _ _ _ _ (exP_sound hQp hK hsel hd (.alt l) _ _ β σ H a w hp.2 hp.1 hs (Fr.refl _ _ _ _) h)
def findP : List (Nat × Plan) → Nat → Option Plan
  | [], _ => none
  | (k, p) :: l, d => match k == d with
    | true => some p
    | false => findP l d
/- ===== code ===== -/
abbrev Kt := Exit → Sl → List Ob → Prop
/-- What a piece of code comes to. -/
def Tr (E : Env) (c : Code) (σ : Sl) (H : List Ob) (K : Kt) : Prop :=
  ∀ β0 H0 w0 β a w, St E β0 H0 w0 β σ H a w → c.wp E.P (fun e a' w' => ∃ β' σ' H', K e σ' H' ∧ St E β0 H0 w0 β' σ' H' a' w') a w
def regK (K : Kt) (σ : Sl) (H : List Ob) : Prop := K .normal σ H
def seqK (g : Sl → List Ob → Kt → Prop) (K : Kt) (e : Exit) (σ : Sl) (H : List Ob) : Prop :=
  match e with
  | .normal => g σ H K
  | e => K e σ H
def nrmK (K : Kt) (σ : Sl) (H : List Ob) (_ : Unit) : Prop := K .normal σ H
def outK (K : Kt) (i : Nat) (σ : Sl) (H : List Ob) (_ : Unit) : Prop := K (.exit i) σ H
def blkK (id : Nat) (K : Kt) (e : Exit) (σ : Sl) (H : List Ob) : Prop :=
  match e with
  | .exit i => swK (i == id) (nrmK K σ H) (outK K i σ H)
  | e => K e σ H
def sidK (g : Sl → List Ob → Kt → Prop) (σ : Sl) (H : List Ob) (K : Kt) (_ : Unit) : Prop := g σ H K
def litC (c : Operand) (b : Bool) (σ : Sl) : Sl :=
  match c with
  | .tmp t => (t, .v (.bool b)) :: σ
  | _ => σ
def condK (v : SV) (X Y : Unit → Prop) : Prop :=
  match v with
  | .v (.bool b) => branch b (X ()) (Y ())
  | _ => False
/-- Behind a region all of whose orders end in one state. -/
def jnK (K : Kt) (σ : Sl) (H : List Ob) : Prop := regK K σ H
def jnW (n0 : Nat) (σ' : Sl) (H' : List Ob) (σ : Sl) (H : List Ob) : Prop := SWk n0 σ H σ' H'
def jxW {X : Type} (n0 : Nat) (σ' : X → Sl) (H' : X → List Ob) (R : X → Prop) (σ : Sl) (H : List Ob) : Prop := ∃ x, R x ∧ SWk n0 σ H (σ' x) (H' x)
def drP (E : Env) (p : Plan) (ops : List Oper) (σ : Sl) (H : List Ob) (K : Kt) : Prop :=
  match p with
  | .jn p => ∃ σ' H', exT E p ops σ H (jnW E.n0 σ' H') ∧ jnK K σ' H'
  | .jx p => ∃ (X : Type) (σ' : X → Sl) (H' : X → List Ob) (R : X → Prop), exT E p ops σ H (jxW E.n0 σ' H' R) ∧ ∀ x, R x → jnK K (σ' x) (H' x)
  | .fin => exT E .fin ops σ H (regK K)
  | .one i p => exT E (.one i p) ops σ H (regK K)
  | .alt l => exT E (.alt l) ops σ H (regK K)
  | .pre J l q => exT E (.pre J l q) ops σ H (regK K)
  | .hd j n F l q => exT E (.hd j n F l q) ops σ H (regK K)
def unJ : Plan → Plan
  | .jn p => p
  | .jx p => p
  | .fin => .fin
  | .one i p => .one i p
  | .alt l => .alt l
  | .pre J l q => .pre J l q
  | .hd j n F l q => .hd j n F l q
def drX (E : Env) (pl : Option Plan) (ops : List Oper) (σ : Sl) (H : List Ob) (K : Kt) (_ : Unit) : Prop :=
  match pl with
  | none => exQ E ops ops σ H (regK K)
  | some p => drP E p ops σ H K
def drN (E : Env) (ops : List Oper) (σ : Sl) (H : List Ob) (K : Kt) (_ : Unit) : Prop := exN E ops ops σ H (regK K)
/-- A cut: the code from region id on is shown by itself (plan number id + 100000). -/
def someB : Option Plan → Bool
  | some _ => true
  | none => false
def headN (c : Code) : Option Nat :=
  match c with
  | .region id _ _ => some id
  | .seq _ _ => none
  | .skip => none
  | .cond _ _ _ => none
  | .block _ _ => none
  | .loop _ => none
  | .rangeFunc _ _ _ _ => none
  | .exit _ => none
  | .scope _ => none
  | .label _ => none
  | .goto _ => none
  | .ret => none
  | .refuse _ => none
def cutId (c : Code) : Option Nat :=
  match c with
  | .region id _ _ => some id
  | .seq a _ => headN a
  | .skip => none
  | .cond _ _ _ => none
  | .block _ _ => none
  | .loop _ => none
  | .rangeFunc _ _ _ _ => none
  | .exit _ => none
  | .scope _ => none
  | .label _ => none
  | .goto _ => none
  | .ret => none
  | .refuse _ => none
def cutB (pl : List (Nat × Plan)) : Option Nat → Bool
  | some id => someB (findP pl (id + 100000))
  | none => false
def isCut (pl : List (Nat × Plan)) (b : Code) : Bool := cutB pl (cutId b)
def cutG (c : Bool) (g h : Sl → List Ob → Kt → Prop) : Sl → List Ob → Kt → Prop :=
  match c with
  | true => h
  | false => g
def ex (E : Env) : Code → Sl → List Ob → Kt → Prop
  | .skip, σ, H, K => K .normal σ H
  | .label _, σ, H, K => K .normal σ H
  | .region id ops draw, σ, H, K => swK draw (drX E (findP E.pl id) ops.toList σ H K) (drN E ops.toList σ H K)
  | .seq a b, σ, H, K => ex E a σ H (seqK (cutG (isCut E.pl b) (ex E b) (Tr E b)) K)
  | .cond c t e, σ, H, K => condK (ev σ c) (sidK (ex E t) (litC c true σ) H K) (sidK (ex E e) (litC c false σ) H K)
  | .block id c, σ, H, K => ex E c σ H (blkK id K)
  | .exit id, σ, H, K => K (.exit id) σ H
  | .ret, σ, H, K => K .ret σ H
  | c, σ, H, K => Tr E c σ H K
def okDraw (pl : Option Plan) (l : List Oper) : Bool :=
  match pl with
  | none => bif Nat.beq (qn l) l.length then Region.lexB .any l.toArray else Region.lexTailB .any l.toArray (qn l)
  | some p => Region.noSelect l.toArray && topOk l.toArray l.length (unJ p)
def okReg (nt : Nat) (pl : Option Plan) (l : List Oper) (draw : Bool) : Bool :=
  l.all (fun o => dstOk nt o && gdOk nt l o) && (!draw || okDraw pl l)
def okCode (nt : Nat) (pl : List (Nat × Plan)) : Code → Bool
  | .region id ops draw => okReg nt (findP pl id) ops.toList draw
  | .seq a b => okCode nt pl a && (isCut pl b || okCode nt pl b)
  | .cond _ t e => okCode nt pl t && okCode nt pl e
  | .block _ c => okCode nt pl c
  | _ => true
theorem ex_sound {E : Env} (hm : E.P.follows .mixedOrders = true) : ∀ (c : Code) (σ : Sl) (H : List Ob) (K : Kt), okCode E.nt E.pl c = true → ex E c σ H K → Tr E c σ H K
  | .skip, σ, H, K, _, h => fun β0 H0 w0 β a w hs => wp_skip ⟨β, σ, H, by simpa only [ex] using h, hs⟩
  | .label _, σ, H, K, _, h => fun β0 H0 w0 β a w hs => wp_label ⟨β, σ, H, by simpa only [ex] using h, hs⟩
  | .exit id, σ, H, K, _, h => fun β0 H0 w0 β a w hs => wp_exit ⟨β, σ, H, by simpa only [ex] using h, hs⟩
  | .ret, σ, H, K, _, h => fun β0 H0 w0 β a w hs => wp_ret ⟨β, σ, H, by simpa only [ex] using h, hs⟩
  | .seq x y, σ, H, K, hok, h => fun β0 H0 w0 β a w hs => by
    simp only [okCode, Bool.and_eq_true, Bool.or_eq_true] at hok
    simp only [ex] at h
    refine wp_seq (wp_mono (ex_sound hm x σ H _ hok.1 h β0 H0 w0 β a w hs) ?_)
    rintro e a' w' ⟨β', σ', H', hk, hs'⟩
    cases e with
    | normal =>
      simp only [seqK] at hk
      cases hc : isCut E.pl y with
      | true =>
        rw [hc] at hk
        exact hk β0 H0 w0 β' a' w' hs'
      | false =>
        rw [hc] at hk
        exact ex_sound hm y σ' H' K (hok.2.resolve_left (by rw [hc]; simp)) hk β0 H0 w0 β' a' w' hs'
    | _ => exact ⟨β', σ', H', hk, hs'⟩
  | .cond c t e, σ, H, K, hok, h => fun β0 H0 w0 β a w hs => by
    simp only [okCode, Bool.and_eq_true] at hok
    simp only [ex] at h
    unfold condK at h
    split at h
    · rename_i b hb
      have hv := ev_ok hs.slots c
      rw [hb] at hv
      have hv := ok_v hv
      have hlit : St E β0 H0 w0 β (litC c b σ) H a w := by
        cases c with
        | tmp d => exact st_look hs (by simp only [Ok]; exact hv)
        | _ => exact hs
      cases b with
      | true =>
        simp only [branch_true, sidK] at h
        exact wp_cond_true hv (ex_sound hm t _ H K hok.1 h β0 H0 w0 β a w hlit)
      | false =>
        simp only [branch_false, sidK] at h
        exact wp_cond_false hv (ex_sound hm e _ H K hok.2 h β0 H0 w0 β a w hlit)
    · exact h.elim
  | .block id c, σ, H, K, hok, h => fun β0 H0 w0 β a w hs => by
    simp only [okCode] at hok
    simp only [ex] at h
    refine wp_block (wp_mono (ex_sound hm c σ H _ hok h β0 H0 w0 β a w hs) ?_)
    rintro e a' w' ⟨β', σ', H', hk, hs'⟩
    cases e with
    | exit i =>
      simp only [blkK] at hk
      simp only [Exit.inBlock]
      by_cases e1 : i = id
      · subst e1
        simp only [beq_self_eq_true, swK, nrmK] at hk
        rw [if_pos rfl]
        exact ⟨β', σ', H', hk, hs'⟩
      · have : (i == id) = false := by simpa using e1
        rw [this] at hk
        simp only [swK, outK] at hk
        rw [if_neg e1]
        exact ⟨β', σ', H', hk, hs'⟩
    | _ => exact ⟨β', σ', H', hk, hs'⟩
  | .region id ops draw, σ, H, K, hok, h => fun β0 H0 w0 β a w hs => by
    simp only [okCode, okReg, Bool.and_eq_true, List.all_eq_true] at hok
    simp only [ex] at h
    have hK : ∀ β σ H a w, St E β0 H0 w0 β σ H a w → regK K σ H → (fun e a' w' => ∃ β' σ' H', K e σ' H' ∧ St E β0 H0 w0 β' σ' H' a' w') .normal a w := fun β σ H a w hs h => ⟨β, σ, H, h, hs⟩
    have hops : ∀ o ∈ ops.toList, dstOk E.nt o = true ∧ gdOk E.nt ops.toList o = true := fun o ho => hok.1 o ho
    cases draw with
    | false =>
      simp only [swK, drN] at h
      have := exN_sound (Q := fun e a' w' => ∃ β' σ' H', K e σ' H' ∧ St E β0 H0 w0 β' σ' H' a' w') (ops := ops.toList) hK ops.toList β σ H a w hops hs h
      exact wp_region_list this
    | true =>
      simp only [swK] at h
      have hd := hok.2
      simp only [Bool.not_true, Bool.false_or] at hd
      cases hpl : findP E.pl id with
      | none =>
        simp only [hpl, drX] at h
        simp only [hpl, okDraw] at hd
        have := exQ_sound (Q := fun e a' w' => ∃ β' σ' H', K e σ' H' ∧ St E β0 H0 w0 β' σ' H' a' w') (ops := ops.toList) (w := w) (β := β) (H := H) hK ops.toList σ a hops hs h
        rw [show ops = ops.toList.toArray by simp]
        cases hq : Nat.beq (qn ops.toList) ops.toList.length with
        | true =>
          have hq' : qn ops.toList = ops.toList.length := Nat.eq_of_beq_eq_true hq
          rw [hq] at hd
          simp only [cond_true] at hd
          rw [hq'] at this
          simp only [List.take_length, List.drop_length] at this
          exact wp_region_calm hm hd this
        | false =>
          rw [hq] at hd
          simp only [cond_false] at hd
          exact wp_region_calm_tail _ hm hd this
      | some p =>
        simp only [hpl, drX] at h
        simp only [hpl, okDraw, Bool.and_eq_true] at hd
        have h : ∃ K2 : Sl → List Ob → Prop, exT E (unJ p) ops.toList σ H K2 ∧ ∀ β σ H a w, St E β0 H0 w0 β σ H a w → K2 σ H → ∃ β' σ' H', K .normal σ' H' ∧ St E β0 H0 w0 β' σ' H' a w := by
          cases p with
          | jn p =>
            obtain ⟨σ', H', h1, h2⟩ := h
            refine ⟨_, h1, fun β σ H a w hs hw => ?_⟩
            obtain ⟨β', hs'⟩ := st_wk hs hw
            exact ⟨β', σ', H', h2, hs'⟩
          | jx p =>
            obtain ⟨X, σ', H', R, h1, h2⟩ := h
            refine ⟨_, h1, fun β σ H a w hs ⟨x, hx, hw⟩ => ?_⟩
            obtain ⟨β', hs'⟩ := st_wk hs hw
            exact ⟨β', σ' x, H' x, h2 x hx, hs'⟩
          | _ => exact ⟨_, h, fun β σ H a w hs hk => ⟨β, σ, H, hk, hs⟩⟩
        obtain ⟨K2, h, hK2⟩ := h
        have hdr : Below w.heap.size w { w with drawn := w.drawn + 1 } := (Below.refl _ _).drew
        have := exT_sound (Q := fun e a' w' => e = .normal ∧ ∃ β' σ' H', K e σ' H' ∧ St E β0 H0 w0 β' σ' H' a' w') (ops := ops.toList) (fun c a w h => by cases h.1) (fun β σ H a w hs h => ⟨rfl, hK2 β σ H a w hs h⟩) hd.1 hops (unJ p) β σ H a { w with drawn := w.drawn + 1 } hd.2 ⟨hs.inv.below hdr, hs.slots, hs.size, hs.defers.fr (Fr.below (n0 := 0) hdr), hs.fr.trans (Fr.below hdr), hs.n0⟩ h
        have e1 : ops.toList.toArray = ops := by simp
        have e2 : ops.toList.length = ops.size := by simp
        rw [e1, e2] at this
        exact wp_mono (wp_region_any hm this) fun e a' w' h => h.2
  | .loop c, σ, H, K, _, h => by simpa only [ex] using h
  | .rangeFunc _ _ _ _, σ, H, K, _, h => by simpa only [ex] using h
  | .scope _, σ, H, K, _, h => by simpa only [ex] using h
  | .goto _, σ, H, K, _, h => by simpa only [ex] using h
  | .refuse _, σ, H, K, _, h => by simpa only [ex] using h
/- ===== the end of a function ===== -/
def retV (P : Program) (σ : Sl) (H : List Ob) : List ResultVar → (List SV → Prop) → Prop
  | [], K => K []
  | .tmp t :: l, K => retV P σ H l (fun r => K (look σ t :: r))
  | .cell p t :: l, K => loadK (tiOf P t) (look σ p) H (fun x => retV P σ H l (fun r => K (x :: r)))
def one (l : List SV) : SV :=
  match l with
  | [x] => x
  | l => .t l
def retK (P : Program) (rs : List ResultVar) (F : SV → List Ob → Prop) (e : Exit) (σ : Sl) (H : List Ob) : Prop :=
  match e with
  | .normal => retV P σ H rs (fun l => F (one l) H)
  | .ret => retV P σ H rs (fun l => F (one l) H)
  | _ => False
/-- Slots of the arguments. -/
def parS : Nat → List SV → Sl
  | _, [] => []
  | n, x :: l => (n, x) :: parS (n + 1) l
/- ===== other words for one state ===== -/
mutual
/-- 'new' says of a value no more than 'old' does; 'rl' gives the old number of each new object. -/
def mt (rl : List Nat) : SV → SV → Prop
  | .junk, _ => True
  | .und, .und => True
  | .v a, .v b => a = b
  | .p j i c, .p j1 i1 c1 => nth rl j = some j1 ∧ i = i1 ∧ c = c1
  | .e j i k c sz, .e j1 i1 k1 c1 sz1 => nth rl j = some j1 ∧ i = i1 ∧ k = k1 ∧ c = c1 ∧ sz = sz1
  | .s j i o len cap sz, .s j1 i1 o1 len1 cap1 sz1 => len = len1 ∧ cap = cap1 ∧ (cap1 = 0 ∨ (nth rl j = some j1 ∧ i = i1 ∧ o = o1 ∧ sz = sz1))
  | .s _ _ _ len cap _, .v b => b = .slice none 0 0 ∧ len = 0 ∧ cap = 0
  | .f fn fs cs, .f fn1 fs1 cs1 => fn = fn1 ∧ mtL rl fs fs1 ∧ mtL rl cs cs1
  | .a l, .a l1 => mtL rl l l1
  | .t l, .t l1 => mtL rl l l1
  | .m j, .m j1 => nth rl j = some j1
  | _, _ => False
def mtL (rl : List Nat) : List SV → List SV → Prop
  | [], [] => True
  | x :: l, y :: l1 => mt rl x y ∧ mtL rl l l1
  | _, _ => False
end
/-- The places of the new objects. -/
def bc (β : Bs) (rl : List Nat) (j i : Nat) : Option (Nat × Nat) :=
  match nth rl j with
  | some j1 => β j1 i
  | none => none
mutual
theorem mt_ok {β : Bs} {rl : List Nat} : ∀ {x y : SV} {u : Value}, mt rl x y → Ok β y u → Ok (bc β rl) x u
  | .junk, _, _, _, _ => by simp only [Ok]
  | .und, y, u, h, ho => by
    cases y <;> simp only [mt] at h
    exact ho
  | .v a, y, u, h, ho => by
    cases y <;> simp only [mt] at h
    subst h
    exact ho
  | .p j i c, y, u, h, ho => by
    cases y <;> simp only [mt] at h
    obtain ⟨h1, rfl, rfl⟩ := h
    simp only [Ok] at ho ⊢
    obtain ⟨g, b, h2, h3⟩ := ho
    exact ⟨g, b, by simp only [bc, h1]; exact h2, h3⟩
  | .e j i k c sz, y, u, h, ho => by
    cases y <;> simp only [mt] at h
    obtain ⟨h1, rfl, rfl, rfl, rfl⟩ := h
    simp only [Ok] at ho ⊢
    obtain ⟨g, b, h2, h3⟩ := ho
    exact ⟨g, b, by simp only [bc, h1]; exact h2, h3⟩
  | .s j i o len cap sz, y, u, h, ho => by
    cases y <;> simp only [mt] at h
    · obtain ⟨rfl, rfl, rfl⟩ := h
      have e := ok_v ho
      subst e
      simp only [Ok]
      exact ⟨none, rfl, Nat.le_refl _, fun h => absurd h (by omega)⟩
    · obtain ⟨rfl, rfl, h⟩ := h
      simp only [Ok] at ho ⊢
      obtain ⟨A, h1, h2, h3⟩ := ho
      refine ⟨A, h1, h2, fun hc => ?_⟩
      rcases h with h | ⟨h4, rfl, rfl, rfl⟩
      · omega
      · obtain ⟨g, b, h5, h6⟩ := h3 hc
        exact ⟨g, b, by simp only [bc, h4]; exact h5, h6⟩
  | .f fn fs cs, y, u, h, ho => by
    cases y <;> simp only [mt] at h
    obtain ⟨rfl, h1, h2⟩ := h
    simp only [Ok] at ho ⊢
    obtain ⟨xs, ys, h3, h4, h5⟩ := ho
    exact ⟨xs, ys, h3, mtL_ok h1 h4, mtL_ok h2 h5⟩
  | .a l, y, u, h, ho => by
    cases y <;> simp only [mt] at h
    simp only [Ok] at ho ⊢
    obtain ⟨xs, h1, h2⟩ := ho
    exact ⟨xs, h1, mtL_ok h h2⟩
  | .t l, y, u, h, ho => by
    cases y <;> simp only [mt] at h
    simp only [Ok] at ho ⊢
    obtain ⟨xs, h1, h2⟩ := ho
    exact ⟨xs, h1, mtL_ok h h2⟩
  | .m j, y, u, h, ho => by
    cases y <;> simp only [mt] at h
    simp only [Ok] at ho ⊢
    obtain ⟨g, b, h2, h3⟩ := ho
    exact ⟨g, b, by simp only [bc, h]; exact h2, h3⟩
theorem mtL_ok {β : Bs} {rl : List Nat} : ∀ {l l1 : List SV} {us : List Value}, mtL rl l l1 → OkL β l1 us → OkL (bc β rl) l us
  | [], l1, us, h, ho => by
    cases l1 <;> simp only [mtL] at h
    exact ho
  | x :: l, l1, us, h, ho => by
    cases l1 <;> simp only [mtL] at h
    simp only [OkL] at ho ⊢
    obtain ⟨u, us', h1, h2, h3⟩ := ho
    exact ⟨u, us', h1, mt_ok h.1 h2, mtL_ok h.2 h3⟩
end
theorem mtL_len {rl : List Nat} : ∀ {l l1 : List SV}, mtL rl l l1 → l.length = l1.length
  | [], l1, h => by cases l1 <;> simp only [mtL] at h; rfl
  | x :: l, l1, h => by
    cases l1 <;> simp only [mtL] at h
    simp [mtL_len h.2]
theorem mtL_get {rl : List Nat} : ∀ {l l1 : List SV}, mtL rl l l1 → ∀ (c : Nat) (x : SV), l[c]? = some x → ∃ y, l1[c]? = some y ∧ mt rl x y
  | [], l1, h, c, x, hx => by simp at hx
  | x :: l, l1, h, c, z, hz => by
    cases l1 <;> simp only [mtL] at h
    cases c with
    | zero => simp at hz; subst hz; exact ⟨_, rfl, h.1⟩
    | succ c => simpa using mtL_get h.2 c z (by simpa using hz)
/-- A row in other words. -/
def rowM (rl : List Nat) (ty : TypeId) (ro : Bool) (sz N : Nat) (len cap : Nat → Nat) (f : Nat → Nat → List SV) (o : Ob) (fresh : Prop) : Prop :=
  match o.ct with
  | .row sz1 N1 len1 cap1 f1 => ty = o.ty ∧ sz = sz1 ∧ N = N1 ∧ (ro = true ∨ o.ro = false) ∧ (∀ i, i < N → len i ≤ len1 i ∧ (ro = true ∨ cap i = cap1 i) ∧ ∀ k, k < len i → mtL rl (f i k) (f1 i k))
  | .dead => fresh ∧ (N = 0 ∨ (N = 1 ∧ len 0 = 0 ∧ cap 0 = 0) ∨ ∀ i, len i = 0 ∧ cap i = 0)
  | _ => False
def eqG (d : TypeDesc) (get get1 : Value → Option Value) : Prop := ∀ k, MapKept.IsKey d k → get k = get1 k
theorem eqG_self (d : TypeDesc) (g : Value → Option Value) : eqG d g g = True := eq_true fun _ _ => rfl
def mpM (ty : TypeId) (ro : Bool) (d : TypeDesc) (n : Nat) (get : Value → Option Value) (o : Ob) : Prop :=
  match o.ct with
  | .mp d1 n1 get1 => ty = o.ty ∧ (ro = true ∨ o.ro = false) ∧ d = d1 ∧ n = n1 ∧ eqG d get get1
  | _ => False
def ob1 (rl : List Nat) (j1 : Nat) (o' : Ob) (H : List Ob) : Prop :=
  match o'.ct with
  | .dead => True
  | .st cs' => match (obAt H j1).ct with
    | .st cs => o'.ty = (obAt H j1).ty ∧ (o'.ro = true ∨ (obAt H j1).ro = false) ∧ mtL rl cs' cs
    | _ => False
  | .row sz N len cap f => rowM rl o'.ty o'.ro sz N len cap f (obAt H j1) (H.length ≤ j1)
  | .mp d n get => mpM o'.ty o'.ro d n get (obAt H j1)
/-- New objects against old ones. -/
def obsM (rl : List Nat) (H : List Ob) : List Nat → List Ob → Prop
  | _, [] => True
  | [], _ :: _ => False
  | j1 :: js, o' :: l => ob1 rl j1 o' H ∧ obsM rl H js l
theorem obsM_get {rl : List Nat} {H : List Ob} : ∀ {js : List Nat} {H' : List Ob}, obsM rl H js H' → ∀ (j : Nat) (o' : Ob), H'[j]? = some o' → ∃ j1, nth js j = some j1 ∧ ob1 rl j1 o' H
  | _, [], _, j, o', ho => by simp at ho
  | [], _ :: _, h, _, _, _ => by simp only [obsM] at h
  | j1 :: js, o :: l, h, 0, o', ho => by
    simp only [obsM] at h
    simp at ho
    subst ho
    exact ⟨j1, rfl, h.1⟩
  | j1 :: js, o :: l, h, j + 1, o', ho => by
    simp only [obsM] at h
    simpa [nth] using obsM_get h.2 j o' (by simpa using ho)
theorem obAt_out {H : List Ob} {j : Nat} (h : H.length ≤ j) : obAt H j = ⟨0, true, .dead⟩ := by
  induction H generalizing j with
  | nil => rfl
  | cons o l ih =>
    cases j with
    | zero => simp at h
    | succ j => exact ih (by simpa using h)
theorem ob1_ok {β : Bs} {rl : List Nat} {H : List Ob} {w : World} {j j1 : Nat} {o' : Ob} (hI : Inv β H w) (hj : nth rl j = some j1) (h : ob1 rl j1 o' H) : ObOk (bc β rl) w j o' := by
  have hb : ∀ i, bc β rl j i = β j1 i := fun i => by simp only [bc, hj]
  unfold ob1 at h
  split at h
  · rename_i hct; unfold ObOk; rw [hct]; trivial
  · rename_i cs' hct
    split at h
    · rename_i cs hct1
      have hg := obAt_get (H := H) (j := j1) (by rw [hct1]; intro e; cases e)
      have ho := hI.ob j1 _ hg
      unfold ObOk at ho ⊢
      rw [hct1] at ho
      rw [hct]
      obtain ⟨g, cur, h1, h2, h3⟩ := ho
      exact ⟨g, cur, (hb 0).trans h1, by rw [h.1]; exact h2, mtL_ok h.2.2 h3⟩
    · exact h.elim
  · rename_i sz N len cap f hct
    unfold rowM at h
    split at h
    · rename_i sz1 N1 len1 cap1 f1 hct1
      obtain ⟨hty, rfl, rfl, hro, hc⟩ := h
      have hg := obAt_get (H := H) (j := j1) (by rw [hct1]; intro e; cases e)
      have ho := hI.ob j1 _ hg
      unfold ObOk at ho ⊢
      rw [hct1] at ho
      rw [hct]
      simp only at ho ⊢
      have elem : ∀ i, i < N → ∀ k, k < len i → ∀ c x, (f i k)[c]? = some x → ∃ y, (f1 i k)[c]? = some y ∧ ∀ u, Ok β y u → Ok (bc β rl) x u := fun i hi k hk c x hx => by
        obtain ⟨y, h1, h2⟩ := mtL_get ((hc i hi).2.2 k hk) c x hx
        exact ⟨y, h1, fun u hu => mt_ok h2 hu⟩
      split
      · rename_i hro'
        intro i hi k hk
        have hk1 : k < len1 i := Nat.lt_of_lt_of_le hk (hc i hi).1
        cases hr1 : (obAt H j1).ro with
        | true =>
          rw [hr1] at ho
          simp only [if_true] at ho
          obtain ⟨g, b, h1, h2, h3⟩ := ho i hi k hk1
          refine ⟨g, b, (hb i).trans h1, h2, fun c x hx => ?_⟩
          obtain ⟨y, h4, h5⟩ := elem i hi k hk c x hx
          obtain ⟨u, h6, h7⟩ := h3 c y h4
          exact ⟨u, h6, h5 u h7⟩
        | false =>
          rw [hr1] at ho
          simp only [Bool.false_eq_true, if_false] at ho
          rcases ho i hi with ⟨h0, _⟩ | ⟨g, cur, h1, h2, h3, h4, h5, h6⟩
          · omega
          · have hlt : g < w.heap.size := by
              rcases Nat.lt_or_ge g w.heap.size with h | h
              · exact h
              · rw [Array.getElem?_eq_none h] at h2; cases h2
            refine ⟨g, 0, (hb i).trans h1, hlt, fun c x hx => ?_⟩
            obtain ⟨y, h7, h8⟩ := elem i hi k hk c x hx
            obtain ⟨u, h9, h10⟩ := (h6 k hk1).2 c y h7
            exact ⟨u, by rw [cell_of_row w g _ cur _ _ h2, Nat.zero_add]; exact h9, h8 u h10⟩
      · rename_i hro'
        have hr1 : (obAt H j1).ro = false := by
          rcases hro with h | h
          · exact absurd h hro'
          · exact h
        rw [hr1] at ho
        simp only [Bool.false_eq_true, if_false] at ho
        intro i hi
        have hcap : cap i = cap1 i := by
          rcases (hc i hi).2.1 with h | h
          · exact absurd h hro'
          · exact h
        rcases ho i hi with ⟨h1, h2⟩ | ⟨g, cur, h1, h2, h3, h4, h5, h6⟩
        · exact .inl ⟨by have := (hc i hi).1; omega, by rw [hcap]; exact h2⟩
        · refine .inr ⟨g, cur, (hb i).trans h1, by rw [hty]; exact h2, by rw [hcap]; exact h3, by rw [hcap]; exact Nat.le_trans (hc i hi).1 h4, by rw [hcap]; exact h5, fun k hk => ⟨?_, fun c x hx => ?_⟩⟩
          · rw [mtL_len ((hc i hi).2.2 k hk)]
            exact (h6 k (Nat.lt_of_lt_of_le hk (hc i hi).1)).1
          · obtain ⟨y, h7, h8⟩ := elem i hi k hk c x hx
            obtain ⟨u, h9, h10⟩ := (h6 k (Nat.lt_of_lt_of_le hk (hc i hi).1)).2 c y h7
            exact ⟨u, h9, h8 u h10⟩
    · rename_i hct1
      obtain ⟨hfr, h⟩ := h
      unfold ObOk
      rw [hct]
      simp only
      split
      · intro i hi k hk
        rcases h with rfl | ⟨rfl, h1, h2⟩ | h
        · omega
        · have : i = 0 := by omega
          subst this
          omega
        · have := (h i).1; omega
      intro i hi
      rcases h with rfl | ⟨rfl, h1, h2⟩ | h
      · omega
      rotate_left
      · exact .inl (h i)
      have : i = 0 := by omega
      subst this
      exact .inl ⟨h1, h2⟩
    · exact h.elim
  · rename_i d n get hct
    unfold mpM at h
    split at h
    · rename_i d1 n1 get1 hct1
      obtain ⟨hty, hro, rfl, rfl, hg1⟩ := h
      have hg := obAt_get (H := H) (j := j1) (by rw [hct1]; intro e; cases e)
      have ho := hI.ob j1 _ hg
      unfold ObOk at ho ⊢
      rw [hct1] at ho
      rw [hct]
      obtain ⟨g, es, clk, h1, h2, h3⟩ := ho
      exact ⟨g, es, clk, (hb 0).trans h1, h2, h3.size, h3.key, h3.nodup, fun k x hk => by rw [hg1 k hk]; exact h3.get k x hk⟩
    · exact h.elim
def slM (rl : List Nat) (σ : Sl) : Sl → Prop
  | [] => True
  | (d, x) :: l => mt rl x (look σ d) ∧ slM rl σ l
def nodupB : List Nat → Bool
  | [] => true
  | x :: l => !(l.contains x) && nodupB l
def keepB : Nat → List Nat → Nat → Bool
  | _, _, 0 => true
  | k, x :: l, n + 1 => x == k && keepB (k + 1) l n
  | _, [], _ + 1 => false
/-- The objects of which something is said. -/
def liv (c : Ct) (x : Nat) (l : List Nat) : List Nat :=
  match c with
  | .dead => l
  | _ => x :: l
def liveL : List Nat → List Ob → List Nat
  | x :: l, o :: H => liv o.ct x (liveL l H)
  | _, _ => []
theorem liv_mem {c : Ct} {x y : Nat} {l : List Nat} (h : y ∈ l) : y ∈ liv c x l := by
  unfold liv
  split
  · exact h
  · exact List.mem_cons_of_mem _ h
theorem live_mem : ∀ {rl : List Nat} {H : List Ob} {j x : Nat} {o : Ob}, nth rl j = some x → H[j]? = some o → o.ct ≠ .dead → x ∈ liveL rl H
  | [], _, j, x, o, h, _, _ => by simp [nth] at h
  | y :: l, [], j, x, o, _, h, _ => by simp at h
  | y :: l, p :: H, 0, x, o, h, ho, hd => by
    simp only [nth, Option.some.injEq] at h
    simp at ho
    subst h ho
    simp only [liveL]
    unfold liv
    split
    · exact absurd ‹_› hd
    · exact List.mem_cons_self
  | y :: l, p :: H, j + 1, x, o, h, ho, hd => by
    simp only [liveL]
    exact liv_mem (live_mem (by simpa [nth] using h) (by simpa using ho) hd)
/-- The state in other words. -/
structure Mt (n0 : Nat) (rl : List Nat) (σ' : Sl) (H' : List Ob) (σ : Sl) (H : List Ob) : Prop where
  keep : (keepB 0 rl n0 && nodupB (liveL rl H') && Nat.beq rl.length H'.length) = true
  slots : slM rl σ σ'
  obs : obsM rl H rl H'
theorem nodup_get : ∀ {rl : List Nat} {H : List Ob}, nodupB (liveL rl H) = true → ∀ {j j' x : Nat} {o o' : Ob}, nth rl j = some x → nth rl j' = some x → H[j]? = some o → H[j']? = some o' → o.ct ≠ .dead → o'.ct ≠ .dead → j = j'
  | [], _, _, j, j', x, o, o', h, h', _, _, _, _ => by simp [nth] at h
  | y :: l, [], _, j, j', x, o, o', _, _, h, _, _, _ => by simp at h
  | y :: l, p :: H, hn, j, j', x, o, o', h, h', ho, ho', hd, hd' => by
    simp only [liveL] at hn
    have key : p.ct ≠ .dead → ∀ k q, nth l k = some y → H[k]? = some q → q.ct ≠ .dead → False := fun hp k q hk hq hqd => by
      unfold liv at hn
      split at hn
      · exact hp ‹_›
      · simp only [nodupB, Bool.and_eq_true, Bool.not_eq_true'] at hn
        have hc := hn.1
        simp [live_mem hk hq hqd] at hc
    have tail : nodupB (liveL l H) = true := by
      unfold liv at hn
      split at hn
      · exact hn
      · simp only [nodupB, Bool.and_eq_true] at hn; exact hn.2
    cases j with
    | zero =>
      simp only [nth, Option.some.injEq] at h
      simp at ho
      subst h ho
      cases j' with
      | zero => rfl
      | succ j' => exact (key hd j' o' (by simpa [nth] using h') (by simpa using ho') hd').elim
    | succ j =>
      cases j' with
      | zero =>
        simp only [nth, Option.some.injEq] at h'
        simp at ho'
        subst h' ho'
        exact (key hd' j o (by simpa [nth] using h) (by simpa using ho) hd).elim
      | succ j' =>
        have := nodup_get tail (j := j) (j' := j') (x := x) (by simpa [nth] using h) (by simpa [nth] using h') (by simpa using ho) (by simpa using ho') hd hd'
        omega
theorem keep_get : ∀ {n k : Nat} {rl : List Nat}, keepB k rl n = true → ∀ j, j < n → nth rl j = some (k + j)
  | 0, k, rl, _, j, hj => by omega
  | n + 1, k, [], h, j, hj => by simp [keepB] at h
  | n + 1, k, x :: l, h, j, hj => by
    simp only [keepB, Bool.and_eq_true, beq_iff_eq] at h
    cases j with
    | zero => simp only [nth, h.1, Nat.add_zero]
    | succ j =>
      have := keep_get h.2 j (by omega)
      simp only [nth, this]
      congr 1
      omega
theorem slM_ok {β : Bs} {rl : List Nat} {σ : Sl} {a : Act} (h : SlotsOk β σ a) : ∀ {σ' : Sl}, slM rl σ σ' → SlotsOk (bc β rl) σ' a
  | [], _, d => by simp only [look, Ok]
  | (k, x) :: l, hm, d => by
    simp only [slM] at hm
    simp only [look]
    by_cases e : k = d
    · subst e
      simpa [lk] using mt_ok hm.1 (h k)
    · have : (k == d) = false := by simpa using e
      rw [this]
      exact slM_ok h hm.2 d
theorem ob1_own {rl : List Nat} {j1 i : Nat} {o' : Ob} {H : List Ob} (h : ob1 rl j1 o' H) (ho : o'.own i) : (∃ o, H[j1]? = some o ∧ o.own i) ∨ H.length ≤ j1 := by
  unfold ob1 at h
  unfold Ob.own at ho
  split at h
  · rename_i hct; rw [hct] at ho; exact ho.elim
  · rename_i cs' hct
    rw [hct] at ho
    split at h
    · rename_i cs hct1
      refine .inl ⟨_, obAt_get (by rw [hct1]; intro e; cases e), ?_⟩
      unfold Ob.own
      rw [hct1]
      refine ⟨ho.1, ?_⟩
      rcases h.2.1 with h | h
      · rw [ho.2] at h; cases h
      · exact h
    · exact h.elim
  · rename_i sz N len cap f hct
    rw [hct] at ho
    simp only at ho
    unfold rowM at h
    split at h
    · rename_i sz1 N1 len1 cap1 f1 hct1
      obtain ⟨_, _, rfl, hro, hc⟩ := h
      refine .inl ⟨_, obAt_get (by rw [hct1]; intro e; cases e), ?_⟩
      unfold Ob.own
      rw [hct1]
      refine ⟨ho.1, ?_, ?_⟩
      · rcases hro with h | h
        · rw [ho.2.1] at h; cases h
        · exact h
      · rcases (hc i ho.1).2.1 with h | h
        · rw [ho.2.1] at h; cases h
        · rw [← h]; exact ho.2.2
    · exact .inr h.1
    · exact h.elim
  · rename_i d n get hct
    rw [hct] at ho
    unfold mpM at h
    split at h
    · rename_i d1 n1 get1 hct1
      refine .inl ⟨_, obAt_get (by rw [hct1]; intro e; cases e), ?_⟩
      unfold Ob.own
      rw [hct1]
      refine ⟨ho.1, ?_⟩
      rcases h.2.1 with h | h
      · rw [ho.2] at h; cases h
      · exact h
    · exact h.elim
theorem ob1_mem {rl : List Nat} {j1 i : Nat} {o' : Ob} {H : List Ob} {β : Bs} {w : World} (hI : Inv β H w) (h : ob1 rl j1 o' H) (ho : o'.mem i) : (∃ o, H[j1]? = some o ∧ o.mem i) ∨ H.length ≤ j1 := by
  unfold ob1 at h
  unfold Ob.mem at ho
  split at h
  · rename_i hct; rw [hct] at ho; exact ho.elim
  · rename_i cs' hct
    rw [hct] at ho
    split at h
    · rename_i cs hct1
      exact .inl ⟨_, obAt_get (by rw [hct1]; intro e; cases e), by unfold Ob.mem; rw [hct1]; exact ho⟩
    · exact h.elim
  · rename_i sz N len cap f hct
    rw [hct] at ho
    simp only at ho
    unfold rowM at h
    split at h
    · rename_i sz1 N1 len1 cap1 f1 hct1
      obtain ⟨_, _, rfl, hro, hc⟩ := h
      refine .inl ⟨_, obAt_get (by rw [hct1]; intro e; cases e), ?_⟩
      unfold Ob.mem
      rw [hct1]
      refine ⟨ho.1, fun hr => ?_, fun hr => ?_⟩
      · rcases hro with h | h
        · have := ho.2.1 h; have := (hc i ho.1).1; omega
        · rw [h] at hr; cases hr
      · cases hr' : o'.ro with
        | false =>
          have := ho.2.2 hr'
          rcases (hc i ho.1).2.1 with h | h
          · rw [hr'] at h; cases h
          · omega
        | true =>
          have h1 := ho.2.1 hr'
          have h2 := (hc i ho.1).1
          have hg := hI.ob j1 _ (obAt_get (by rw [hct1]; intro e; cases e))
          unfold ObOk at hg
          rw [hct1] at hg
          simp only [hr, Bool.false_eq_true, if_false] at hg
          rcases hg i ho.1 with ⟨h3, _⟩ | ⟨_, _, _, _, _, h3, _⟩ <;> omega
    · exact .inr h.1
    · exact h.elim
  · rename_i d n get hct
    rw [hct] at ho
    unfold mpM at h
    split at h
    · rename_i d1 n1 get1 hct1
      exact .inl ⟨_, obAt_get (by rw [hct1]; intro e; cases e), by unfold Ob.mem; rw [hct1]; exact ho⟩
    · exact h.elim
theorem ob1_over {rl : List Nat} {j1 i : Nat} {o' : Ob} {H : List Ob} (h : ob1 rl j1 o' H) (ho : o'.over i) : (∃ o, H[j1]? = some o ∧ o.over i) ∨ H.length ≤ j1 := by
  unfold ob1 at h
  unfold Ob.over at ho
  split at h
  · rename_i hct; rw [hct] at ho; exact ho.elim
  · rename_i cs' hct
    rw [hct] at ho
    split at h
    · rename_i cs hct1
      exact .inl ⟨_, obAt_get (by rw [hct1]; intro e; cases e), by unfold Ob.over; rw [hct1]; exact ho⟩
    · exact h.elim
  · rename_i sz N len cap f hct
    rw [hct] at ho
    simp only at ho
    unfold rowM at h
    split at h
    · rename_i sz1 N1 len1 cap1 f1 hct1
      obtain ⟨_, _, rfl, hro, hc⟩ := h
      exact .inl ⟨_, obAt_get (by rw [hct1]; intro e; cases e), by unfold Ob.over; rw [hct1]; exact ho⟩
    · exact .inr h.1
    · exact h.elim
  · rename_i d n get hct
    rw [hct] at ho
    unfold mpM at h
    split at h
    · rename_i d1 n1 get1 hct1
      exact .inl ⟨_, obAt_get (by rw [hct1]; intro e; cases e), by unfold Ob.over; rw [hct1]; exact ho⟩
    · exact h.elim
theorem own_live {o : Ob} {i : Nat} (h : o.own i) : o.ct ≠ .dead := fun e => by unfold Ob.own at h; rw [e] at h; exact h
theorem mem_live {o : Ob} {i : Nat} (h : o.mem i) : o.ct ≠ .dead := fun e => by unfold Ob.mem at h; rw [e] at h; exact h
theorem inv_mt0 {β : Bs} {H H' : List Ob} {w : World} {rl : List Nat} (hI : Inv β H w) (hob : obsM rl H rl H') (hn : nodupB (liveL rl H') = true ∨ ∀ (j : Nat) (o : Ob) (i : Nat), H'[j]? = some o → ¬ o.own i) (hl : rl.length = H'.length) : Inv0 (bc β rl) H' w ∧ (∀ g, OwnB (bc β rl) H' g → OwnB β H g) ∧ ∀ g, MemB (bc β rl) H' g → MemB β H g := by
  refine ⟨⟨fun j o' ho => ?_, fun j i hj => ?_, fun j i j' i' o o' g b b' ho ho' hw hm hb hb' => ?_, fun j o' i ho hv => ?_⟩, fun g hg => ?_, fun g hg => ?_⟩
  · obtain ⟨j1, h1, h2⟩ := obsM_get hob j o' ho
    exact ob1_ok hI h1 h2
  · have : nth rl j = none := by rw [nth_eq]; exact List.getElem?_eq_none (by omega)
    simp only [bc, this]
  · obtain ⟨j1, h1, h2⟩ := obsM_get hob j o ho
    obtain ⟨j2, h3, h4⟩ := obsM_get hob j' o' ho'
    simp only [bc, h1] at hb
    simp only [bc, h3] at hb'
    rcases hn with hn | hn
    · rcases ob1_own h2 hw with ⟨p, q1, q2⟩ | q
      · rcases ob1_mem hI h4 hm with ⟨p', q3, q4⟩ | q'
        · obtain ⟨e1, e2⟩ := hI.sep j1 i j2 i' p p' g b b' q1 q3 q2 q4 hb hb'
          subst e1
          exact ⟨nodup_get hn h1 h3 ho ho' (own_live hw) (mem_live hm), e2⟩
        · rw [hI.out j2 i' q'] at hb'; cases hb'
      · rw [hI.out j1 i q] at hb; cases hb
    · exact (hn j o i ho hw).elim
  · obtain ⟨j1, h1, h2⟩ := obsM_get hob j o' ho
    simp only [bc, h1]
    rcases ob1_over h2 hv with ⟨p, q1, q2⟩ | q
    · exact hI.bey j1 p i q1 q2
    · exact hI.out j1 i q
  · obtain ⟨j, i, o, b, h1, h2, h3⟩ := hg
    obtain ⟨j1, h4, h5⟩ := obsM_get hob j o h1
    simp only [bc, h4] at h3
    rcases ob1_own h5 h2 with ⟨p, q1, q2⟩ | q
    · exact ⟨j1, i, p, b, q1, q2, h3⟩
    · rw [hI.out j1 i q] at h3; cases h3
  · obtain ⟨j, i, o, b, h1, h2, h3⟩ := hg
    obtain ⟨j1, h4, h5⟩ := obsM_get hob j o h1
    simp only [bc, h4] at h3
    rcases ob1_mem hI h5 h2 with ⟨p, q1, q2⟩ | q
    · exact ⟨j1, i, p, b, q1, q2, h3⟩
    · rw [hI.out j1 i q] at h3; cases h3
theorem inv_mt {β : Bs} {H H' : List Ob} {w : World} {rl : List Nat} (hI : Inv β H w) (hob : obsM rl H rl H') (hn : nodupB (liveL rl H') = true ∨ ∀ (j : Nat) (o : Ob) (i : Nat), H'[j]? = some o → ¬ o.own i) (hl : rl.length = H'.length) : Inv (bc β rl) H' w ∧ (∀ g, OwnB (bc β rl) H' g → OwnB β H g) ∧ ∀ g, MemB (bc β rl) H' g → MemB β H g := by
  obtain ⟨h1, h2, h3⟩ := inv_mt0 hI hob hn hl
  exact ⟨⟨h1, hI.gl.step (Nat.le_refl _) (fun _ _ _ => rfl) fun g _ => h2 g⟩, h2, h3⟩
theorem wk_mt {α : Type} {n0 : Nat} {A A' : Bs → α → Prop} {H H' : List Ob} (rl : List Nat) (hk : (keepB 0 rl n0 && nodupB (liveL rl H') && Nat.beq rl.length H'.length) = true) (hob : obsM rl H rl H') (hA : ∀ β u, A β u → A' (bc β rl) u) : Wk n0 A A' H H' := fun β w hI hn => by
  simp only [Bool.and_eq_true] at hk
  have hl : rl.length = H'.length := Nat.eq_of_beq_eq_true hk.2
  obtain ⟨h1, h2, h3⟩ := inv_mt hI hob (.inl hk.1.2) hl
  have hkeep := keep_get hk.1.1
  refine ⟨_, h1, hA β, fun j i x hj hx => ?_, h2, h3, ?_⟩
  · simp only [bc, hkeep j hj, Nat.zero_add]
    exact hx
  · rcases Nat.lt_or_ge H'.length n0 with h | h
    · have := hkeep H'.length h
      rw [nth_eq, List.getElem?_eq_none (by omega)] at this
      cases this
    · exact h
/-- .. and for a result. -/
abbrev VWk (n0 : Nat) (r : SV) (H : List Ob) (r' : SV) (H' : List Ob) : Prop := Wk (α := Value) n0 (fun β u => Ok β r u) (fun β u => Ok β r' u) H H'
theorem Mt.wk {n0 : Nat} {rl : List Nat} {σ σ' : Sl} {H H' : List Ob} (h : Mt n0 rl σ' H' σ H) : SWk n0 σ H σ' H' := wk_mt rl h.keep h.obs fun _ _ ha => slM_ok ha h.slots
/- ===== loops ===== -/
def lpK {X : Type} (n0 : Nat) (S : X → Sl) (G : X → List Ob) (R : X → Prop) (μ : X → Nat) (x : X) (K : Kt) (e : Exit) (σ : Sl) (H : List Ob) : Prop :=
  match e with
  | .normal => ∃ x', R x' ∧ μ x' < μ x ∧ SWk n0 σ H (S x') (G x')
  | e => K e σ H
theorem tr_loop {X : Type} {E : Env} {c : Code} {σ : Sl} {H : List Ob} {K : Kt} (hm : E.P.follows .mixedOrders = true) (hok : okCode E.nt E.pl c = true) (S : X → Sl) (G : X → List Ob) (R : X → Prop) (μ : X → Nat) (x0 : X)
    (h0 : R x0) (he : SWk E.n0 σ H (S x0) (G x0)) (hr : ∀ x, R x → ex E c (S x) (G x) (lpK E.n0 S G R μ x K)) : Tr E (.loop c) σ H K := by
  intro β0 H0 w0 β a w hs b k cs
  have key : ∀ n x β a w, μ x = n → R x → St E β0 H0 w0 β (S x) (G x) a w →
      ∃ e a' w', (∃ β' σ' H', K e σ' H' ∧ St E β0 H0 w0 β' σ' H' a' w') ∧ Arrives E.P (lone (b.at a (.code c :: .inLoop c :: k)) cs w) b k cs e a' w' := by
    intro n
    induction n using Nat.strongRecOn with
    | _ n ih =>
      intro x β a w hn hR hs
      obtain ⟨e, a₁, w₁, ⟨β1, σ1, H1, hk, hs1⟩, harr⟩ := ex_sound hm c (S x) (G x) _ hok (hr x hR) β0 H0 w0 β a w hs b (.inLoop c :: k) cs
      cases e with
      | normal =>
        simp only [lpK] at hk
        obtain ⟨x', hR', hlt, hmt⟩ := hk
        obtain ⟨β2, hs2⟩ := st_wk hs1 hmt
        obtain ⟨e₂, a₂, w₂, hq₂, harr₂⟩ := ih (μ x') (by omega) x' _ a₁ w₁ rfl hR' hs2
        exact ⟨e₂, a₂, w₂, hq₂, .of_steps (Steps.trans harr (.one step_inLoop)) harr₂⟩
      | exit id => exact ⟨_, a₁, w₁, ⟨β1, σ1, H1, hk, hs1⟩, .pass (x := .inLoop c) rfl (fun _ _ => .inl (by simp)) harr⟩
      | goto l => exact ⟨_, a₁, w₁, ⟨β1, σ1, H1, hk, hs1⟩, .pass (x := .inLoop c) rfl (fun _ _ => .inl (by simp)) harr⟩
      | ret => exact ⟨_, a₁, w₁, ⟨β1, σ1, H1, hk, hs1⟩, .pass (x := .inLoop c) rfl (fun _ _ => .inl (by simp)) harr⟩
      | panic ch => exact ⟨_, a₁, w₁, ⟨β1, σ1, H1, hk, hs1⟩, .pass (x := .inLoop c) rfl (fun _ _ => .inl (by simp)) harr⟩
      | outgrown => exact ⟨_, a₁, w₁, ⟨β1, σ1, H1, hk, hs1⟩, .pass (x := .inLoop c) rfl (fun _ _ => .inl (by simp)) harr⟩
  obtain ⟨β1, hs1⟩ := st_wk hs he
  obtain ⟨e, a', w', hq, harr⟩ := key _ x0 _ a w rfl h0 hs1
  exact ⟨e, a', w', hq, .of_steps (.one step_loop) harr⟩
/-- Slots whose words stay. -/
def slE (σ : Sl) : Sl → Prop
  | [] => True
  | (d, x) :: l => x = look σ d ∧ slE σ l
theorem slE_ok {β : Bs} {σ : Sl} {a : Act} (h : SlotsOk β σ a) : ∀ {σ' : Sl}, slE σ σ' → SlotsOk β σ' a
  | [], _, d => by simp only [look, Ok]
  | (k, x) :: l, hm, d => by
    simp only [slE] at hm
    simp only [look]
    by_cases e : k = d
    · subst e
      rw [hm.1]
      simpa [lk] using h k
    · have : (k == d) = false := by simpa using e
      rw [this]
      exact slE_ok h hm.2 d
def lp0 {X : Type} (S : X → Sl) (H : List Ob) (R : X → Prop) (μ : X → Nat) (x : X) (K : Kt) (e : Exit) (σ : Sl) (H' : List Ob) : Prop :=
  match e with
  | .normal => ∃ x', R x' ∧ μ x' < μ x ∧ H' = H ∧ slE σ (S x')
  | e => K e σ H'
theorem lp0_normal {X : Type} {S : X → Sl} {H : List Ob} {R : X → Prop} {μ : X → Nat} {x : X} {K : Kt} {σ : Sl} (x' : X) (h1 : R x') (h2 : μ x' < μ x) (h3 : slE σ (S x')) : lp0 S H R μ x K .normal σ H := ⟨x', h1, h2, rfl, h3⟩
theorem lp0_exit {X : Type} {S : X → Sl} {H H' : List Ob} {R : X → Prop} {μ : X → Nat} {x : X} {K : Kt} {σ : Sl} {i : Nat} : lp0 S H R μ x K (.exit i) σ H' = K (.exit i) σ H' := rfl
theorem lp0_ret {X : Type} {S : X → Sl} {H H' : List Ob} {R : X → Prop} {μ : X → Nat} {x : X} {K : Kt} {σ : Sl} : lp0 S H R μ x K .ret σ H' = K .ret σ H' := rfl
theorem lpK_exit {X : Type} {n0 : Nat} {S : X → Sl} {G : X → List Ob} {H' : List Ob} {R : X → Prop} {μ : X → Nat} {x : X} {K : Kt} {σ : Sl} {i : Nat} : lpK n0 S G R μ x K (.exit i) σ H' = K (.exit i) σ H' := rfl
theorem lpK_ret {X : Type} {n0 : Nat} {S : X → Sl} {G : X → List Ob} {H' : List Ob} {R : X → Prop} {μ : X → Nat} {x : X} {K : Kt} {σ : Sl} : lpK n0 S G R μ x K .ret σ H' = K .ret σ H' := rfl
theorem lpK_normal {X : Type} {n0 : Nat} {S : X → Sl} {G : X → List Ob} {H' : List Ob} {R : X → Prop} {μ : X → Nat} {x : X} {K : Kt} {σ : Sl} (x' : X) (rl : List Nat) (h1 : R x') (h2 : μ x' < μ x) (h3 : (keepB 0 rl n0 && nodupB (liveL rl (G x')) && Nat.beq rl.length (G x').length) = true) (h4 : slM rl σ (S x')) (h5 : obsM rl H' rl (G x')) : lpK n0 S G R μ x K .normal σ H' := ⟨x', h1, h2, Mt.wk ⟨h3, h4, h5⟩⟩
theorem lpK_wk {X : Type} {n0 : Nat} {S : X → Sl} {G : X → List Ob} {H' : List Ob} {R : X → Prop} {μ : X → Nat} {x : X} {K : Kt} {σ : Sl} (x' : X) (h1 : R x') (h2 : μ x' < μ x) (h3 : SWk n0 σ H' (S x') (G x')) : lpK n0 S G R μ x K .normal σ H' := ⟨x', h1, h2, h3⟩
/-- A loop that leaves the memory alone. -/
theorem tr_loop0 {X : Type} {E : Env} {c : Code} {σ : Sl} {H : List Ob} {K : Kt} (hm : E.P.follows .mixedOrders = true) (hok : okCode E.nt E.pl c = true) (S : X → Sl) (R : X → Prop) (μ : X → Nat) (x0 : X)
    (h0 : R x0) (he : slE σ (S x0)) (hr : ∀ x, R x → ex E c (S x) H (lp0 S H R μ x K)) : Tr E (.loop c) σ H K := by
  intro β0 H0 w0 β a w hs b k cs
  have key : ∀ n x β a w, μ x = n → R x → St E β0 H0 w0 β (S x) H a w →
      ∃ e a' w', (∃ β' σ' H', K e σ' H' ∧ St E β0 H0 w0 β' σ' H' a' w') ∧ Arrives E.P (lone (b.at a (.code c :: .inLoop c :: k)) cs w) b k cs e a' w' := by
    intro n
    induction n using Nat.strongRecOn with
    | _ n ih =>
      intro x β a w hn hR hs
      obtain ⟨e, a₁, w₁, ⟨β1, σ1, H1, hk, hs1⟩, harr⟩ := ex_sound hm c (S x) H _ hok (hr x hR) β0 H0 w0 β a w hs b (.inLoop c :: k) cs
      cases e with
      | normal =>
        simp only [lp0] at hk
        obtain ⟨x', hR', hlt, rfl, hmt⟩ := hk
        obtain ⟨e₂, a₂, w₂, hq₂, harr₂⟩ := ih (μ x') (by omega) x' _ a₁ w₁ rfl hR' ⟨hs1.inv, slE_ok hs1.slots hmt, hs1.size, hs1.defers, hs1.fr, hs1.n0⟩
        exact ⟨e₂, a₂, w₂, hq₂, .of_steps (Steps.trans harr (.one step_inLoop)) harr₂⟩
      | exit id => exact ⟨_, a₁, w₁, ⟨β1, σ1, H1, hk, hs1⟩, .pass (x := .inLoop c) rfl (fun _ _ => .inl (by simp)) harr⟩
      | goto l => exact ⟨_, a₁, w₁, ⟨β1, σ1, H1, hk, hs1⟩, .pass (x := .inLoop c) rfl (fun _ _ => .inl (by simp)) harr⟩
      | ret => exact ⟨_, a₁, w₁, ⟨β1, σ1, H1, hk, hs1⟩, .pass (x := .inLoop c) rfl (fun _ _ => .inl (by simp)) harr⟩
      | panic ch => exact ⟨_, a₁, w₁, ⟨β1, σ1, H1, hk, hs1⟩, .pass (x := .inLoop c) rfl (fun _ _ => .inl (by simp)) harr⟩
      | outgrown => exact ⟨_, a₁, w₁, ⟨β1, σ1, H1, hk, hs1⟩, .pass (x := .inLoop c) rfl (fun _ _ => .inl (by simp)) harr⟩
  obtain ⟨e, a', w', hq, harr⟩ := key _ x0 β a w rfl h0 ⟨hs.inv, slE_ok hs.slots he, hs.size, hs.defers, hs.fr, hs.n0⟩
  exact ⟨e, a', w', hq, .of_steps (.one step_loop) harr⟩
/-- A mid state. -/
theorem tr_wk {E : Env} {c : Code} {σ σ' : Sl} {H H' : List Ob} {K : Kt} (hm : SWk E.n0 σ H σ' H') (h : Tr E c σ' H' K) : Tr E c σ H K := fun β0 H0 w0 β a w hs => let ⟨β', hs'⟩ := st_wk hs hm; h β0 H0 w0 β' a w hs'
/- ===== functions ===== -/
def resOne (tmps : Array Value) : ResultVar → Sem Value
  | .tmp t => pure (tmps.getD t undef)
  | .cell p t => do loadVar t (← asAddr (tmps.getD p undef))
theorem results_eq (fn : Func) (tmps : Array Value) : results fn tmps = (do let vs ← fn.results.mapM (resOne tmps); pure (if h : vs.size = 1 then vs[0] else .tuple vs)) := rfl
theorem retV_run {P : Program} {β : Bs} {σ : Sl} {H : List Ob} {a : Act} {w : World} (hI : Inv β H w) (hs : SlotsOk β σ a) : ∀ {rs : List ResultVar} {K : List SV → Prop}, retV P σ H rs K → ∃ l vs, K l ∧ OkL β l vs ∧ (rs.mapM (resOne a.tmps)).run P w = .ok vs w
  | [], K, h => ⟨[], [], by simpa only [retV] using h, by simp only [OkL], rfl⟩
  | .tmp t :: rs, K, h => by
    simp only [retV] at h
    obtain ⟨l, vs, h1, h2, h3⟩ := retV_run hI hs h
    refine ⟨look σ t :: l, a.tmps.getD t undef :: vs, h1, by simp only [OkL]; exact ⟨_, _, rfl, hs t, h2⟩, ?_⟩
    rw [List.mapM_cons]
    simp only [resOne, Sem.run_bind, Sem.run_pure, Result.andThen_ok, h3]
  | .cell p t :: rs, K, h => by
    simp only [retV] at h
    obtain ⟨x, u, h1, h2, h3⟩ := loadK_gives (P := P) h hI (hs p)
    obtain ⟨l, vs, h4, h5, h6⟩ := retV_run hI hs h1
    refine ⟨x :: l, u :: vs, h4, by simp only [OkL]; exact ⟨_, _, rfl, h2, h5⟩, ?_⟩
    have h3 := h3 w (Below.refl _ _)
    rw [List.mapM_cons]
    have e : (do loadVar t (← asAddr (a.tmps.getD p undef)) : Sem Value).run P w = .ok u w := by
      unfold Instr.loadAt at h3
      simp only [Sem.run_bind] at h3 ⊢
      have key : ∀ v, (Instr.sureAddr v).run P w = .halt (.stuck "an address expected (no nilCheck in front?)") w ∨ (asAddr v).run P w = (Instr.sureAddr v).run P w := fun v => by
        cases v <;> first | exact .inl rfl | skip
        rename_i A
        cases A
        · exact .inl rfl
        · exact .inr rfl
      rcases key (a.tmps.getD p undef) with h | h
      · rw [h] at h3; cases h3
      · rw [h]; exact h3
    simp only [resOne, Sem.run_bind] at e ⊢
    rw [e]
    simp only [Result.andThen_ok, h6, Sem.run_pure]
theorem results_of {P : Program} {β : Bs} {σ : Sl} {H : List Ob} {a : Act} {w : World} {fn : Func} {F : SV → Prop} (hI : Inv β H w) (hs : SlotsOk β σ a) (h : retV P σ H fn.results.toList (fun l => F (one l))) : ∃ r v, F r ∧ Ok β r v ∧ (results fn a.tmps).run P w = .ok v w := by
  obtain ⟨l, vs, h1, h2, h3⟩ := retV_run hI hs h
  have e : (fn.results.mapM (resOne a.tmps)).run P w = .ok vs.toArray w := by
    rw [Array.mapM_eq_mapM_toList]
    simp only [Sem.run_map]
    rw [h3]
    rfl
  refine ⟨one l, if h : vs.toArray.size = 1 then vs.toArray[0] else .tuple vs.toArray, h1, ?_, ?_⟩
  · match l, vs, h2 with
    | [], vs, h2 => simp only [OkL] at h2; subst h2; simp only [one, Ok]; exact ⟨#[], rfl, by simp [OkL]⟩
    | [x], vs, h2 =>
      simp only [OkL] at h2
      obtain ⟨u, us, rfl, h4, rfl⟩ := h2
      exact h4
    | x :: y :: l, vs, h2 =>
      have hl := okL_length h2
      have : ¬ vs.toArray.size = 1 := by simp at hl ⊢; omega
      rw [dif_neg this]
      simp only [one, Ok]
      exact ⟨_, rfl, by simpa using h2⟩
  · rw [results_eq]
    simp only [Sem.run_bind, e, Result.andThen_ok, Sem.run_pure]
theorem parS_ok {β : Bs} : ∀ {l : List SV} {us : List Value}, OkL β l us → ∀ (n : Nat) (f : Nat → Value), (∀ i u, us[i]? = some u → f (n + i) = u) → ∀ d, Ok β (look (parS n l) d) (f d)
  | [], us, h, n, f, hf, d => by simp only [parS, look, Ok]
  | x :: l, us, h, n, f, hf, d => by
    simp only [OkL] at h
    obtain ⟨u, us', rfl, h2, h3⟩ := h
    simp only [parS, look]
    by_cases e : n = d
    · subst e
      have := hf 0 u (by simp)
      simp only [beq_self_eq_true, lk]
      rw [show f n = u from this]
      exact h2
    · have : (n == d) = false := by simpa using e
      rw [this]
      exact parS_ok h3 (n + 1) f (fun i v hv => by rw [show n + 1 + i = n + (i + 1) by omega]; exact hf (i + 1) v (by simpa using hv)) d
/-- A contract out of the executor's word. -/
theorem sp_of_exa {P : Program} {f : FuncId} {fn : Func} {c : Code} {args : List SV} {H : List Ob} {F : SV → List Ob → Prop} (nw ax : Bool) (pl : List (Nat × Plan)) (hm : P.follows .mixedOrders = true) (hc : ∀ vs w, (callFunc f vs).run P w = .ok (.enter f vs) w) (hf : P.funcs[f]? = some fn) (hb : fn.body = some c)
    {nt : Nat} {rs : List ResultVar} (hnt : fn.ntmps = nt) (hr : fn.results = rs.toArray) (hok : okCode nt pl c = true) (hn : Nat.ble args.length nt = true) (hx : ex ⟨P, nw, H.length, nt, pl, false, ax⟩ c (parS 0 args) H (retK P rs F)) : Sp P f args H F := by
  subst hnt
  obtain rfl : fn.results.toList = rs := by rw [hr]
  have hn := Nat.le_of_ble_eq_true hn
  refine ⟨hc, fun β w vals hI ha => ?_⟩
  have hl := okL_length ha
  have hs : St ⟨P, nw, H.length, fn.ntmps, pl, false, ax⟩ β H w β (parS 0 args) H { tmps := vals.toArray ++ Array.replicate (fn.ntmps - vals.toArray.size) undef, defers := [] } w := by
    refine ⟨hI, fun d => parS_ok ha 0 (fun d => (vals.toArray ++ Array.replicate (fn.ntmps - vals.toArray.size) undef).getD d undef) (fun i u hu => ?_) d, ?_, .nil, Fr.refl _ _ _ _, Nat.le_refl _⟩
    · have hlt := (List.getElem?_eq_some_iff.1 hu).1
      simp only [Nat.zero_add, Array.getD_eq_getD_getElem?]
      rw [Array.getElem?_append_left (by simpa using hlt)]
      simp [hu]
    · simp
      omega
  refine callsIn_wide.1 (callsIn_of_wp_marks (F := Fence.wide) (n := 0) hf hb trivial (wpIn_wide.2 (wp_mono (ex_sound (E := ⟨P, nw, H.length, fn.ntmps, pl, false, ax⟩) hm c (parS 0 args) H _ hok hx β H w β _ w hs) ?_)))
  rintro e a' w' ⟨β', σ', H', hk, hs'⟩
  have fin : retV P σ' H' fn.results.toList (fun l => F (one l) H') → LeavesInM Fence.wide 0 P fn a'.tmps (fun e w'' => ∃ r v β' H', e = Ending.returned v ∧ F r H' ∧ Ok β' r v ∧ Inv β' H' w'' ∧ Fr H.length β H w β' H' w'') a'.defers .returning w' := by
    intro h
    refine leaves_df a'.defers w' hs'.defers hs'.inv hs'.fr fun w'' hI'' hf'' => ?_
    obtain ⟨r, v, h1, h2, h3⟩ := results_of (F := fun r => F r H') hI'' hs'.slots h
    exact ⟨v, h3, r, v, β', H', rfl, h1, h2, hI'', hf''⟩
  cases e with
  | normal => exact fin (by simpa only [retK] using hk)
  | ret => exact fin (by simpa only [retK] using hk)
  | exit id => simp only [retK] at hk
  | goto l => simp only [retK] at hk
  | panic ch => simp only [retK] at hk
  | outgrown => simp only [retK] at hk
def roB : List Ob → Bool
  | [] => true
  | o :: l => o.ro && roB l
theorem roB_own : ∀ {H : List Ob}, roB H = true → ∀ (j : Nat) (o : Ob) (i : Nat), H[j]? = some o → ¬ o.own i
  | [], _, j, o, i, h => by simp at h
  | p :: l, hr, j, o, i, h => by
    simp only [roB, Bool.and_eq_true] at hr
    cases j with
    | zero =>
      simp at h
      subst h
      unfold Ob.own
      split
      · intro h; rw [hr.1] at h; cases h.2
      · intro h; rw [hr.1] at h; cases h.2.1
      · intro h; rw [hr.1] at h; cases h.2
      · exact fun h => h
    | succ j => exact roB_own hr.2 j o i (by simpa using h)
def isK (r r' : SV) (_ : List Ob) : Prop := r' = r
/-- A function that only reads, and whose result bears no address. -/
theorem pu_of_sp {P : Program} {f : FuncId} {args : List SV} {H : List Ob} {r : SV} {v : Value} (hro : roB H = true) (hg : gnd r = some v) (h : Sp P f args H (isK r)) : Pu P f args H r := by
  refine ⟨h.1, fun β w vals hI ha => (h.2 β w vals hI ha).mono ?_⟩
  rintro e w' ⟨r', u, β', H', rfl, hk, h2, _, h4⟩
  unfold isK at hk
  subst hk
  have := gnd_ok hg h2
  subst this
  refine ⟨_, rfl, gnd_fit β hg, { tape := h4.tape, os := h4.os, output := h4.output, size := h4.size, block := fun g hg => h4.block g hg fun ho => ?_ }⟩
  obtain ⟨j, i, o, b, q1, q2, _⟩ := ho
  exact roB_own hro j o i q1 q2
theorem sp_of_ex {P : Program} {f : FuncId} {fn : Func} {c : Code} {args : List SV} {H : List Ob} {F : SV → List Ob → Prop} (nw : Bool) (pl : List (Nat × Plan)) (hm : P.follows .mixedOrders = true) (hc : ∀ vs w, (callFunc f vs).run P w = .ok (.enter f vs) w) (hf : P.funcs[f]? = some fn) (hb : fn.body = some c)
    {nt : Nat} {rs : List ResultVar} (hnt : fn.ntmps = nt) (hr : fn.results = rs.toArray) (hok : okCode nt pl c = true) (hn : Nat.ble args.length nt = true) (hx : ex ⟨P, nw, H.length, nt, pl, false, false⟩ c (parS 0 args) H (retK P rs F)) : Sp P f args H F :=
  sp_of_exa nw false pl hm hc hf hb hnt hr hok hn hx
theorem pu_of_ex {P : Program} {f : FuncId} {fn : Func} {c : Code} {args : List SV} {H : List Ob} {r : SV} {v : Value} (nw : Bool) (pl : List (Nat × Plan)) (hm : P.follows .mixedOrders = true) (hc : ∀ vs w, (callFunc f vs).run P w = .ok (.enter f vs) w) (hf : P.funcs[f]? = some fn) (hb : fn.body = some c)
    {nt : Nat} {rs : List ResultVar} (hnt : fn.ntmps = nt) (hr : fn.results = rs.toArray) (hok : okCode nt pl c = true) (hn : Nat.ble args.length nt = true) (hro : roB H = true) (hg : gnd r = some v) (hx : ex ⟨P, nw, H.length, nt, pl, false, false⟩ c (parS 0 args) H (retK P rs (isK r))) : Pu P f args H r :=
  pu_of_sp hro hg (sp_of_ex nw pl hm hc hf hb hnt hr hok hn hx)
/-- A contract at other objects: 'rl' names the caller's objects. -/
theorem pu_at {P : Program} {f : FuncId} {args args0 : List SV} {H H0 : List Ob} {r : SV} {v : Value} (h : Pu P f args0 H0 r) (hg : gnd r = some v) (rl : List Nat) (hro : (roB H0 && Nat.beq rl.length H0.length) = true) (ha : mtL rl args0 args) (ho : obsM rl H rl H0) : Pu P f args H r := by
  simp only [Bool.and_eq_true] at hro
  refine ⟨h.1, fun β w vals hI hv => ?_⟩
  obtain ⟨h1, _, _⟩ := inv_mt hI ho (.inr (roB_own hro.1)) (Nat.eq_of_beq_eq_true hro.2)
  refine (h.2 _ w vals h1 (mtL_ok ha hv)).mono ?_
  rintro e w' ⟨u, rfl, h2, h3⟩
  have := gnd_ok hg h2
  subst this
  exact ⟨_, rfl, gnd_fit β hg, h3⟩
/-- A contract whose result is weakened. -/
theorem sp_wk {P : Program} {f : FuncId} {args : List SV} {H : List Ob} {K : SV → List Ob → Prop} (h : Sp P f args H fun r' H1 => ∃ r H2, VWk H.length r' H1 r H2 ∧ K r H2) : Sp P f args H K := by
  refine ⟨h.1, fun β w vals hI ha => (h.2 β w vals hI ha).mono ?_⟩
  rintro e w' ⟨r', u, β', H1, rfl, ⟨r, H2, h1, h4⟩, h5, h6, h7⟩
  obtain ⟨β2, q1, q2, q3, q4, q5, q6⟩ := h1 β' w' h6 (h7.len (Nat.le_refl _))
  exact ⟨r, u, β2, H2, rfl, h4, q2 u h5, q1, h7.tape, h7.os, h7.output, h7.size, h7.block, fun g hg ho => h7.own g hg (q4 g ho), fun g hg ho => h7.mem g hg (q5 g ho), fun j i x hj hx => q3 j i x hj (h7.le j i x hj hx), fun _ => q6⟩
theorem vwk_mt {n0 : Nat} {r r' : SV} {H H' : List Ob} (rl : List Nat) (h1 : mt rl r' r) (hk : (keepB 0 rl n0 && nodupB (liveL rl H') && Nat.beq rl.length H'.length) = true) (hob : obsM rl H rl H') : VWk n0 r H r' H' := wk_mt rl hk hob fun _ _ hu => mt_ok h1 hu
theorem sp_weak {P : Program} {f : FuncId} {args : List SV} {H : List Ob} {K : SV → List Ob → Prop} (h : Sp P f args H fun r' H1 => ∃ r H2 rl, mt rl r r' ∧ (keepB 0 rl H.length && nodupB (liveL rl H2) && Nat.beq rl.length H2.length) = true ∧ obsM rl H1 rl H2 ∧ K r H2) : Sp P f args H K :=
  sp_wk (h.mono fun _ _ ⟨r, H2, rl, h1, h2, h3, h4⟩ => ⟨r, H2, vwk_mt rl h1 h2 h3, h4⟩)

/-- A contract for other words of the state before. -/
theorem sp_pre {P : Program} {f : FuncId} {args args' : List SV} {H H' : List Ob} {K : SV → List Ob → Prop} (hw : Wk (α := List Value) H.length (fun β u => OkL β args u) (fun β u => OkL β args' u) H H') (h : Sp P f args' H' K) : Sp P f args H K := by
  refine ⟨h.1, fun β w vals hI ha => ?_⟩
  obtain ⟨β1, h1, h2, h3, h4, h5, h6⟩ := hw β w hI (Nat.le_refl _)
  refine (h.2 β1 w vals h1 (h2 _ ha)).mono ?_
  rintro e w' ⟨r, v, β2, H2, rfl, q1, q2, q3, q4⟩
  exact ⟨r, v, β2, H2, rfl, q1, q2, q3, q4.tape, q4.os, q4.output, q4.size, fun g hg hn => q4.block g hg fun ho => hn (h4 g ho), fun g hg ho => h4 g (q4.own g hg ho), fun g hg ho => h5 g (q4.mem g hg ho), fun j i x hj hx => q4.le j i x (by omega) (h3 j i x hj hx), fun _ => Nat.le_trans h6 (q4.len (Nat.le_refl _))⟩
theorem sp_pre_mt {P : Program} {f : FuncId} {args args' : List SV} {H H' : List Ob} {K : SV → List Ob → Prop} (rl : List Nat) (ha : mtL rl args' args) (hk : (keepB 0 rl H.length && nodupB (liveL rl H') && Nat.beq rl.length H'.length) = true) (hob : obsM rl H rl H') (h : Sp P f args' H' K) : Sp P f args H K :=
  sp_pre (wk_mt rl hk hob fun _ _ hu => mtL_ok ha hu) h
/- ===== an object that joins a family ===== -/
mutual
def jn1 (F N c : Nat) : SV → SV
  | .p j i o => bif j == c then .p F N o else .p j i o
  | .e j i k o sz => bif j == c then .e F N k o sz else .e j i k o sz
  | .s j i o len cap sz => bif j == c then .s F N o len cap sz else .s j i o len cap sz
  | .f fn fs cs => .f fn (jnL F N c fs) (jnL F N c cs)
  | .a l => .a (jnL F N c l)
  | .t l => .t (jnL F N c l)
  | .m j => bif j == c then .junk else .m j
  | .v x => .v x
  | .und => .und
  | .junk => .junk
def jnL (F N c : Nat) : List SV → List SV
  | [] => []
  | x :: l => jn1 F N c x :: jnL F N c l
end
def jnC (F N c : Nat) : Ct → Ct
  | .st cs => .st (jnL F N c cs)
  | .row sz n len cap f => .row sz n len cap (fun i k => jnL F N c (f i k))
  | .mp d n get => .mp d n get
  | .dead => .dead
def jnO (F N c : Nat) : List Ob → List Ob
  | [] => []
  | o :: l => ⟨o.ty, o.ro, jnC F N c o.ct⟩ :: jnO F N c l
def jnS (F N c : Nat) : Sl → Sl
  | [] => []
  | (d, x) :: l => (d, jn1 F N c x) :: jnS F N c l
/-- A family with one more. -/
def famO (o : Ob) (o1 : Ob) : Ob :=
  match o.ct, o1.ct with
  | .row sz N len cap f, .row _ _ len1 cap1 f1 => ⟨o.ty, o.ro, .row sz (N + 1) (fun i => bif i == N then len1 0 else len i) (fun i => bif i == N then cap1 0 else cap i) (fun i k => bif i == N then f1 0 k else f i k)⟩
  | _, _ => o
def famN (o : Ob) : Nat :=
  match o.ct with
  | .row _ N _ _ _ => N
  | _ => 0
def jnH (F c : Nat) (H : List Ob) : List Ob := jnO F (famN (obAt H F)) c ((H.set F (famO (obAt H F) (obAt H c))).set c deadOb)
def canJoin (o o1 : Ob) : Prop :=
  match o.ct, o1.ct with
  | .row sz _ _ _ _, .row sz1 N1 _ _ _ => sz = sz1 ∧ N1 = 1 ∧ o1.ty = o.ty ∧ o1.ro = o.ro
  | _, _ => False
def jb (β : Bs) (F N c : Nat) : Bs := fun j i => if j = c then none else if j = F ∧ i = N then β c 0 else β j i
section
variable {β : Bs} {F N c : Nat}
theorem jb_ne {j i : Nat} (hF : ∀ i, N ≤ i → β F i = none) (hc : ∀ i, 1 ≤ i → β c i = none) (x : Nat × Nat) (h : β j i = some x) : (j = c → i = 0) ∧ (j ≠ c → jb β F N c j i = some x) := by
  refine ⟨fun e => ?_, fun e => ?_⟩
  · subst e
    rcases Nat.eq_zero_or_pos i with h0 | h0
    · exact h0
    · rw [hc i h0] at h; cases h
  · unfold jb
    rw [if_neg e, if_neg ?_, h]
    rintro ⟨rfl, rfl⟩
    rw [hF _ (Nat.le_refl _)] at h; cases h
theorem jb_new (hFc : F ≠ c) : jb β F N c F N = β c 0 := by simp [jb, hFc]
mutual
theorem jn1_ok (hFc : F ≠ c) (hF : ∀ i, N ≤ i → β F i = none) (hc : ∀ i, 1 ≤ i → β c i = none) : ∀ (x : SV) (u : Value), Ok β x u → Ok (jb β F N c) (jn1 F N c x) u
  | .m j, u, h => by
    simp only [Ok] at h
    obtain ⟨g, b, h1, h2⟩ := h
    obtain ⟨q1, q2⟩ := jb_ne hF hc _ h1
    simp only [jn1]
    by_cases e : j = c
    · subst e
      simp only [beq_self_eq_true, cond_true, Ok]
    · have : (j == c) = false := by simpa using e
      simp only [this, cond_false, Ok]
      exact ⟨g, b, q2 e, h2⟩
  | .p j i o, u, h => by
    simp only [Ok] at h
    obtain ⟨g, b, h1, h2⟩ := h
    obtain ⟨q1, q2⟩ := jb_ne hF hc _ h1
    simp only [jn1]
    by_cases e : j = c
    · have := q1 e; subst e this
      simp only [beq_self_eq_true, cond_true, Ok]
      exact ⟨g, b, by rw [jb_new hFc]; exact h1, h2⟩
    · have : (j == c) = false := by simpa using e
      simp only [this, cond_false, Ok]
      exact ⟨g, b, q2 e, h2⟩
  | .e j i k o sz, u, h => by
    simp only [Ok] at h
    obtain ⟨g, b, h1, h2⟩ := h
    obtain ⟨q1, q2⟩ := jb_ne hF hc _ h1
    simp only [jn1]
    by_cases e : j = c
    · have := q1 e; subst e this
      simp only [beq_self_eq_true, cond_true, Ok]
      exact ⟨g, b, by rw [jb_new hFc]; exact h1, h2⟩
    · have : (j == c) = false := by simpa using e
      simp only [this, cond_false, Ok]
      exact ⟨g, b, q2 e, h2⟩
  | .s j i o len cap sz, u, h => by
    simp only [Ok] at h
    obtain ⟨A, h1, h2, h3⟩ := h
    simp only [jn1]
    by_cases e : j = c
    · subst e
      simp only [beq_self_eq_true, cond_true, Ok]
      refine ⟨A, h1, h2, fun hp => ?_⟩
      obtain ⟨g, b, h4, h5⟩ := h3 hp
      have := (jb_ne hF hc _ h4).1 rfl
      subst this
      exact ⟨g, b, by rw [jb_new hFc]; exact h4, h5⟩
    · have : (j == c) = false := by simpa using e
      simp only [this, cond_false, Ok]
      refine ⟨A, h1, h2, fun hp => ?_⟩
      obtain ⟨g, b, h4, h5⟩ := h3 hp
      exact ⟨g, b, (jb_ne hF hc _ h4).2 e, h5⟩
  | .f fn fs cs, u, h => by
    simp only [Ok, jn1] at h ⊢
    obtain ⟨xs, ys, h1, h2, h3⟩ := h
    exact ⟨xs, ys, h1, jnL_ok hFc hF hc _ _ h2, jnL_ok hFc hF hc _ _ h3⟩
  | .a l, u, h => by
    simp only [Ok, jn1] at h ⊢
    obtain ⟨xs, h1, h2⟩ := h
    exact ⟨xs, h1, jnL_ok hFc hF hc _ _ h2⟩
  | .t l, u, h => by
    simp only [Ok, jn1] at h ⊢
    obtain ⟨xs, h1, h2⟩ := h
    exact ⟨xs, h1, jnL_ok hFc hF hc _ _ h2⟩
  | .v x, u, h => by simpa only [Ok, jn1] using h
  | .und, u, h => by simpa only [Ok, jn1] using h
  | .junk, u, h => by simp only [Ok, jn1]
theorem jnL_ok (hFc : F ≠ c) (hF : ∀ i, N ≤ i → β F i = none) (hc : ∀ i, 1 ≤ i → β c i = none) : ∀ (l : List SV) (us : List Value), OkL β l us → OkL (jb β F N c) (jnL F N c l) us
  | [], _, h => by simpa only [OkL, jnL] using h
  | x :: l, us, h => by
    simp only [OkL, jnL] at h ⊢
    obtain ⟨u, us', h1, h2, h3⟩ := h
    exact ⟨u, us', h1, jn1_ok hFc hF hc _ _ h2, jnL_ok hFc hF hc _ _ h3⟩
end
theorem jnL_get : ∀ (l : List SV) (k : Nat), (jnL F N c l)[k]? = (l[k]?).map (jn1 F N c)
  | [], k => by simp [jnL]
  | x :: l, 0 => by simp [jnL]
  | x :: l, k + 1 => by simpa [jnL] using jnL_get l k
theorem jnL_len : ∀ (l : List SV), (jnL F N c l).length = l.length
  | [] => rfl
  | x :: l => by simp [jnL, jnL_len l]
theorem jnO_get : ∀ (H : List Ob) (j : Nat), (jnO F N c H)[j]? = (H[j]?).map fun o => ⟨o.ty, o.ro, jnC F N c o.ct⟩
  | [], j => by simp [jnO]
  | o :: l, 0 => by simp [jnO]
  | o :: l, j + 1 => by simpa [jnO] using jnO_get l j
theorem jnO_len : ∀ (H : List Ob), (jnO F N c H).length = H.length
  | [] => rfl
  | o :: l => by simp [jnO, jnO_len l]
theorem jnS_ok (hFc : F ≠ c) (hF : ∀ i, N ≤ i → β F i = none) (hc : ∀ i, 1 ≤ i → β c i = none) {a : Act} : ∀ {σ : Sl}, SlotsOk β σ a → SlotsOk (jb β F N c) (jnS F N c σ) a := by
  have key : ∀ (σ : Sl) d, look (jnS F N c σ) d = jn1 F N c (look σ d) := by
    intro σ d
    induction σ with
    | nil => simp [jnS, look, jn1]
    | cons p l ih =>
      obtain ⟨k, x⟩ := p
      simp only [jnS, look]
      cases (k == d)
      · simpa only [lk] using ih
      · simp only [lk]
  intro σ h d
  rw [key]
  exact jn1_ok hFc hF hc _ _ (h d)
end
theorem wk_join {α : Type} {n0 : Nat} {A A' : Bs → α → Prop} {H : List Ob} (F c : Nat) (hn : n0 ≤ c) (hFc : F ≠ c) (hj : canJoin (obAt H F) (obAt H c))
    (hA : ∀ β N, (∀ i, N ≤ i → β F i = none) → (∀ i, 1 ≤ i → β c i = none) → N = famN (obAt H F) → ∀ u, A β u → A' (jb β F N c) u) : Wk n0 A A' H (jnH F c H) := by
  refine wk_of0 ?_
  intro β w hI hn0
  unfold canJoin at hj
  split at hj
  case h_2 => exact hj.elim
  rename_i sz N len cap f sz1 N1 len1 cap1 f1 hct hct1
  obtain ⟨rfl, rfl, hty, hro⟩ := hj
  have hgF := obAt_get (H := H) (j := F) (by rw [hct]; intro e; cases e)
  have hgc := obAt_get (H := H) (j := c) (by rw [hct1]; intro e; cases e)
  have hlF := (List.getElem?_eq_some_iff.1 hgF).1
  have hlc := (List.getElem?_eq_some_iff.1 hgc).1
  have hF : ∀ i, N ≤ i → β F i = none := fun i hi => hI.bey F _ i hgF (by unfold Ob.over; rw [hct]; exact hi)
  have hc : ∀ i, 1 ≤ i → β c i = none := fun i hi => hI.bey c _ i hgc (by unfold Ob.over; rw [hct1]; exact hi)
  have hN : famN (obAt H F) = N := by unfold famN; rw [hct]
  have hother : ∀ j i, j ≠ c → j ≠ F → jb β F N c j i = β j i := fun j i h1 h2 => by simp [jb, h1, h2]
  have hold : ∀ i, i ≠ N → jb β F N c F i = β F i := fun i h => by simp [jb, hFc, h]
  have hcn : ∀ i, jb β F N c c i = none := fun i => by simp [jb]
  have elem : ∀ (l : List SV) (k : Nat) (x : SV), (jnL F N c l)[k]? = some x → ∃ y, l[k]? = some y ∧ ∀ u, Ok β y u → Ok (jb β F N c) x u := fun l k x hx => by
    rw [jnL_get] at hx
    cases hl : l[k]? with
    | none => rw [hl] at hx; cases hx
    | some y => rw [hl] at hx; simp at hx; subst hx; exact ⟨y, rfl, fun u hu => jn1_ok hFc hF hc _ _ hu⟩
  -- the objects
  have cases' : ∀ j o, (jnH F c H)[j]? = some o → (j = c ∧ o.ct = .dead) ∨ (j = F ∧ o = ⟨(obAt H F).ty, (obAt H F).ro, .row sz (N + 1) (fun i => bif i == N then len1 0 else len i) (fun i => bif i == N then cap1 0 else cap i) (fun i k => jnL F N c (bif i == N then f1 0 k else f i k))⟩) ∨ (j ≠ c ∧ j ≠ F ∧ ∃ p, H[j]? = some p ∧ o = ⟨p.ty, p.ro, jnC F N c p.ct⟩) := by
    intro j o ho
    unfold jnH at ho
    rw [jnO_get, hN] at ho
    by_cases e : j = c
    · subst e
      rw [List.getElem?_set_self (by simpa using hlc)] at ho
      simp at ho
      subst ho
      exact .inl ⟨rfl, rfl⟩
    · rw [List.getElem?_set_ne (Ne.symm e)] at ho
      by_cases e2 : j = F
      · subst e2
        rw [List.getElem?_set_self hlF] at ho
        simp only [Option.map_some, Option.some.injEq] at ho
        refine .inr (.inl ⟨rfl, ?_⟩)
        rw [← ho]
        simp only [famO, hct, hct1, jnC]
      · rw [List.getElem?_set_ne (Ne.symm e2)] at ho
        cases hp : H[j]? with
        | none => rw [hp] at ho; cases ho
        | some p => rw [hp] at ho; simp at ho; exact .inr (.inr ⟨e, e2, p, rfl, ho.symm⟩)
  -- where a member came from
  have src : ∀ j o i g b, (jnH F c H)[j]? = some o → o.mem i → jb β F N c j i = some (g, b) → ∃ j0 i0 p, H[j0]? = some p ∧ p.mem i0 ∧ β j0 i0 = some (g, b) ∧ (o.own i → p.own i0) ∧ ((j = F ∧ i = N ∧ j0 = c ∧ i0 = 0) ∨ (j0 = j ∧ i0 = i ∧ j ≠ c ∧ ¬ (j = F ∧ i = N))) := by
    intro j o i g b ho hm hb
    rcases cases' j o ho with ⟨rfl, hd⟩ | ⟨rfl, rfl⟩ | ⟨h1, h2, p, hp, rfl⟩
    · rw [hcn] at hb; cases hb
    · by_cases e : i = N
      · subst e
        rw [jb_new hFc] at hb
        refine ⟨c, 0, _, hgc, ?_, hb, fun ho => ?_, .inl ⟨rfl, rfl, rfl, rfl⟩⟩
        · unfold Ob.mem at hm ⊢
          rw [hct1]
          refine ⟨Nat.one_pos, fun hr => ?_, fun hr => ?_⟩
          · have := hm.2.1 (by rw [← hro]; exact hr)
            simpa using this
          · have := hm.2.2 (by rw [← hro]; exact hr)
            simpa using this
        · unfold Ob.own at ho ⊢
          rw [hct1]
          exact ⟨Nat.one_pos, by rw [hro]; exact ho.2.1, by simpa using ho.2.2⟩
      · rw [hold i e] at hb
        have hi : i < N := by
          rcases Nat.lt_or_ge i N with h | h
          · exact h
          · rw [hF i h] at hb; cases hb
        have eb : (i == N) = false := by simpa using e
        refine ⟨j, i, _, hgF, ?_, hb, fun ho => ?_, .inr ⟨rfl, rfl, hFc, fun h => e h.2⟩⟩
        · unfold Ob.mem at hm ⊢
          rw [hct]
          refine ⟨hi, fun hr => ?_, fun hr => ?_⟩
          · have := hm.2.1 hr
            simpa [eb] using this
          · have := hm.2.2 hr
            simpa [eb] using this
        · unfold Ob.own at ho ⊢
          rw [hct]
          exact ⟨hi, ho.2.1, by simpa [eb] using ho.2.2⟩
    · rw [hother j i h1 h2] at hb
      refine ⟨j, i, p, hp, ?_, hb, fun ho => ?_, .inr ⟨rfl, rfl, h1, fun h => h2 h.1⟩⟩
      · unfold Ob.mem at hm ⊢
        cases hpc : p.ct <;> rw [hpc] at hm <;> first | exact hm | simpa only [jnC] using hm
      · unfold Ob.own at ho ⊢
        cases hpc : p.ct <;> rw [hpc] at ho <;> first | exact ho | simpa only [jnC] using ho
  refine ⟨jb β F N c, ⟨fun j o ho => ?_, fun j i hj => ?_, fun j i j' i' o o' g b b' ho ho' hw hm hb hb' => ?_, fun j o i ho hv => ?_⟩, hA β N hF hc hN.symm, fun j i x hj hx => (jb_ne hF hc x hx).2 (by omega), fun g hg => ?_, fun g hg => ?_, by simpa [jnH, jnO_len] using hn0⟩
  · rcases cases' j o ho with ⟨rfl, hd⟩ | ⟨rfl, rfl⟩ | ⟨h1, h2, p, hp, rfl⟩
    · unfold ObOk; rw [hd]; trivial
    · have oF := hI.ob _ _ hgF
      have oc := hI.ob _ _ hgc
      unfold ObOk at oF oc ⊢
      rw [hct] at oF
      rw [hct1] at oc
      simp only at oF oc ⊢
      rw [hro] at oc
      cases hr : (obAt H j).ro with
      | true =>
        rw [hr] at oF oc
        simp only [if_true] at oF oc ⊢
        intro i hi k hk
        by_cases e : i = N
        · subst e
          simp only [beq_self_eq_true, cond_true] at hk
          obtain ⟨g, b, q1, q2, q3⟩ := oc 0 Nat.one_pos k hk
          refine ⟨g, b, by rw [jb_new hFc]; exact q1, q2, fun c' x hx => ?_⟩
          simp only [beq_self_eq_true, cond_true] at hx
          obtain ⟨y, r1, r2⟩ := elem _ _ _ hx
          obtain ⟨u, u1, u2⟩ := q3 c' y r1
          exact ⟨u, u1, r2 u u2⟩
        · have eb : (i == N) = false := by simpa using e
          simp only [eb, cond_false] at hk
          obtain ⟨g, b, q1, q2, q3⟩ := oF i (by omega) k hk
          refine ⟨g, b, by rw [hold i e]; exact q1, q2, fun c' x hx => ?_⟩
          simp only [eb, cond_false] at hx
          obtain ⟨y, r1, r2⟩ := elem _ _ _ hx
          obtain ⟨u, u1, u2⟩ := q3 c' y r1
          exact ⟨u, u1, r2 u u2⟩
      | false =>
        rw [hr] at oF oc
        simp only [Bool.false_eq_true, if_false] at oF oc ⊢
        intro i hi
        by_cases e : i = N
        · subst e
          simp only [beq_self_eq_true, cond_true]
          rw [jb_new hFc]
          rcases oc 0 Nat.one_pos with h | ⟨g, cur, q1, q2, q3, q4, q5, q6⟩
          · exact .inl h
          · refine .inr ⟨g, cur, q1, by rw [← hty]; exact q2, q3, q4, q5, fun k hk => ⟨by rw [jnL_len]; exact (q6 k hk).1, fun c' x hx => ?_⟩⟩
            obtain ⟨y, r1, r2⟩ := elem _ _ _ hx
            obtain ⟨u, u1, u2⟩ := (q6 k hk).2 c' y r1
            exact ⟨u, u1, r2 u u2⟩
        · have eb : (i == N) = false := by simpa using e
          simp only [eb, cond_false]
          rw [hold i e]
          rcases oF i (by omega) with h | ⟨g, cur, q1, q2, q3, q4, q5, q6⟩
          · exact .inl h
          · refine .inr ⟨g, cur, q1, q2, q3, q4, q5, fun k hk => ⟨by rw [jnL_len]; exact (q6 k hk).1, fun c' x hx => ?_⟩⟩
            obtain ⟨y, r1, r2⟩ := elem _ _ _ hx
            obtain ⟨u, u1, u2⟩ := (q6 k hk).2 c' y r1
            exact ⟨u, u1, r2 u u2⟩
    · have op := hI.ob j p hp
      have hb : ∀ i, jb β F N c j i = β j i := fun i => hother j i h1 h2
      unfold ObOk at op ⊢
      cases hpc : p.ct with
      | st cs =>
        rw [hpc] at op
        obtain ⟨g, cur, q1, q2, q3⟩ := op
        exact ⟨g, cur, (hb 0).trans q1, q2, jnL_ok hFc hF hc _ _ q3⟩
      | mp d n get =>
        rw [hpc] at op
        obtain ⟨g, es, clk, q1, q2, q3⟩ := op
        exact ⟨g, es, clk, (hb 0).trans q1, q2, q3⟩
      | row sz2 N2 len2 cap2 f2 =>
        rw [hpc] at op
        simp only [jnC] at op ⊢
        cases hr : p.ro with
        | true =>
          rw [hr] at op
          simp only [if_true] at op ⊢
          intro i hi k hk
          obtain ⟨g, b, q1, q2, q3⟩ := op i hi k hk
          refine ⟨g, b, (hb i).trans q1, q2, fun c' x hx => ?_⟩
          obtain ⟨y, r1, r2⟩ := elem _ _ _ hx
          obtain ⟨u, u1, u2⟩ := q3 c' y r1
          exact ⟨u, u1, r2 u u2⟩
        | false =>
          rw [hr] at op
          simp only [Bool.false_eq_true, if_false] at op ⊢
          intro i hi
          rw [hb i]
          rcases op i hi with h | ⟨g, cur, q1, q2, q3, q4, q5, q6⟩
          · exact .inl h
          · refine .inr ⟨g, cur, q1, q2, q3, q4, q5, fun k hk => ⟨by rw [jnL_len]; exact (q6 k hk).1, fun c' x hx => ?_⟩⟩
            obtain ⟨y, r1, r2⟩ := elem _ _ _ hx
            obtain ⟨u, u1, u2⟩ := (q6 k hk).2 c' y r1
            exact ⟨u, u1, r2 u u2⟩
      | dead => simp only [jnC]
  · have hj' : H.length ≤ j := by simpa [jnH, jnO_len] using hj
    rw [hother j i (by omega) (by omega)]
    exact hI.out j i hj'
  · obtain ⟨j0, i0, p, q1, q2, q3, q4, q5⟩ := src j o i g b ho (Ob.own_mem hw) hb
    obtain ⟨j1, i1, p', r1, r2, r3, r4, r5⟩ := src j' o' i' g b' ho' hm hb'
    obtain ⟨e1, e2⟩ := hI.sep j0 i0 j1 i1 p p' g b b' q1 r1 (q4 hw) r2 q3 r3
    rcases q5 with ⟨a1, a2, a3, a4⟩ | ⟨a1, a2, a3, a4⟩ <;> rcases r5 with ⟨b1, b2, b3, b4⟩ | ⟨b1, b2, b3, b4⟩
    · exact ⟨a1.trans b1.symm, a2.trans b2.symm⟩
    · exact absurd (b1.symm.trans (e1.symm.trans a3)) b3
    · exact absurd (a1.symm.trans (e1.trans b3)) a3
    · exact ⟨a1.symm.trans (e1.trans b1), a2.symm.trans (e2.trans b2)⟩
  · rcases cases' j o ho with ⟨rfl, hd⟩ | ⟨rfl, rfl⟩ | ⟨h1, h2, p, hp, rfl⟩
    · exact hcn i
    · have hv : N + 1 ≤ i := hv
      rw [hold i (by omega)]
      exact hF i (by omega)
    · rw [hother j i h1 h2]
      refine hI.bey j p i hp ?_
      unfold Ob.over at hv ⊢
      cases hpc : p.ct <;> rw [hpc] at hv <;> first | exact hv | simpa only [jnC] using hv
  · obtain ⟨j, i, o, b, h1, h2, h3⟩ := hg
    obtain ⟨j0, i0, p, q1, q2, q3, q4, q5⟩ := src j o i g b h1 (Ob.own_mem h2) h3
    exact ⟨j0, i0, p, b, q1, q4 h2, q3⟩
  · obtain ⟨j, i, o, b, h1, h2, h3⟩ := hg
    obtain ⟨j0, i0, p, q1, q2, q3, q4, q5⟩ := src j o i g b h1 h2 h3
    exact ⟨j0, i0, p, b, q1, q2, q3⟩
theorem swk_join {n0 : Nat} {σ : Sl} {H : List Ob} (F c : Nat) (hn : n0 ≤ c) (hFc : F ≠ c) (hj : canJoin (obAt H F) (obAt H c)) : SWk n0 σ H (jnS F (famN (obAt H F)) c σ) (jnH F c H) :=
  wk_join F c hn hFc hj fun _ _ h1 h2 e _ ha => e ▸ jnS_ok hFc h1 h2 ha
theorem vwk_join {n0 : Nat} {r : SV} {H : List Ob} (F c : Nat) (hn : n0 ≤ c) (hFc : F ≠ c) (hj : canJoin (obAt H F) (obAt H c)) : VWk n0 r H (jn1 F (famN (obAt H F)) c r) (jnH F c H) :=
  wk_join F c hn hFc hj fun _ _ h1 h2 e _ ha => e ▸ jn1_ok hFc h1 h2 _ _ ha
theorem lwk_mt {n0 : Nat} {l l' : List SV} {H H' : List Ob} (rl : List Nat) (h1 : mtL rl l' l) (hk : (keepB 0 rl n0 && nodupB (liveL rl H') && Nat.beq rl.length H'.length) = true) (hob : obsM rl H rl H') : Wk (α := List Value) n0 (fun β u => OkL β l u) (fun β u => OkL β l' u) H H' := wk_mt rl hk hob fun _ _ hu => mtL_ok h1 hu
/- ===== a contract at other objects ===== -/
def rnO (o : Option Nat) (m : Nat) : Nat :=
  match o with
  | some j => j
  | none => m
/-- The caller's number of the called function's object. -/
def rnI (rl : List Nat) (n k : Nat) : Nat := rnO (nth rl k) (n + (k - rl.length))
mutual
def rn1 (rl : List Nat) (n : Nat) : SV → SV
  | .p j i o => .p (rnI rl n j) i o
  | .e j i k o sz => .e (rnI rl n j) i k o sz
  | .s j i o len cap sz => .s (rnI rl n j) i o len cap sz
  | .f fn fs cs => .f fn (rnL rl n fs) (rnL rl n cs)
  | .a l => .a (rnL rl n l)
  | .t l => .t (rnL rl n l)
  | .m j => .m (rnI rl n j)
  | .v x => .v x
  | .und => .und
  | .junk => .junk
def rnL (rl : List Nat) (n : Nat) : List SV → List SV
  | [] => []
  | x :: l => rn1 rl n x :: rnL rl n l
end
def rnC (rl : List Nat) (n : Nat) : Ct → Ct
  | .st cs => .st (rnL rl n cs)
  | .row sz N len cap f => .row sz N len cap (fun i k => rnL rl n (f i k))
  | .mp d n' get => .mp d n' get
  | .dead => .dead
def rnH (rl : List Nat) (n : Nat) : List Ob → List Ob
  | [] => []
  | o :: l => ⟨o.ty, o.ro, rnC rl n o.ct⟩ :: rnH rl n l
def putO : List Nat → List Ob → List Ob → List Ob
  | [], L, H => H ++ L
  | j :: rl, o :: L, H => putO rl L (H.set j o)
  | _ :: _, [], H => H
def pos (rl : List Nat) (j : Nat) : Option Nat :=
  match rl with
  | [] => none
  | x :: l => if x = j then some 0 else (pos l j).map (· + 1)
theorem pos_some : ∀ {rl : List Nat} {j k : Nat}, pos rl j = some k → nth rl k = some j
  | [], j, k, h => by simp [pos] at h
  | x :: l, j, k, h => by
    simp only [pos] at h
    split at h
    · simp at h; subst h; simp [nth, *]
    · cases hp : pos l j with
      | none => rw [hp] at h; simp at h
      | some m => rw [hp] at h; simp at h; subst h; simpa [nth] using pos_some hp
theorem pos_none : ∀ {rl : List Nat} {j : Nat}, pos rl j = none → j ∉ rl
  | [], j, h => by simp
  | x :: l, j, h => by
    simp only [pos] at h
    split at h
    · cases h
    · rename_i hx
      simp only [Option.map_eq_none_iff] at h
      simp only [List.mem_cons, not_or]
      exact ⟨fun e => hx e.symm, pos_none h⟩
theorem pos_of : ∀ {rl : List Nat}, nodupB rl = true → ∀ {j k : Nat}, nth rl k = some j → pos rl j = some k
  | [], _, j, k, h => by simp [nth] at h
  | x :: l, hn, j, 0, h => by
    simp only [nth, Option.some.injEq] at h
    simp [pos, h]
  | x :: l, hn, j, k + 1, h => by
    simp only [nodupB, Bool.and_eq_true, Bool.not_eq_true'] at hn
    have hk : nth l k = some j := by simpa [nth] using h
    have hx : x ≠ j := fun e => by
      subst e
      rw [nth_eq] at hk
      have hc := hn.1
      simp [List.mem_of_getElem? hk] at hc
    simp [pos, hx, pos_of hn.2 hk]
theorem putO_get : ∀ (rl : List Nat) (L H : List Ob), nodupB rl = true → (∀ j ∈ rl, j < H.length) → rl.length ≤ L.length → ∀ j, (putO rl L H)[j]? = match pos rl j with
      | some k => L[k]?
      | none => if j < H.length then H[j]? else L[rl.length + (j - H.length)]?
  | [], L, H, _, _, _, j => by
    simp only [putO, pos, List.length_nil, Nat.zero_add]
    split
    · rw [List.getElem?_append_left ‹_›]
    · rw [List.getElem?_append_right (by omega)]
  | j0 :: rl, [], H, _, _, hl, j => by simp at hl
  | j0 :: rl, o :: L, H, hn, hlt, hl, j => by
    simp only [nodupB, Bool.and_eq_true, Bool.not_eq_true'] at hn
    have h0 := hlt j0 List.mem_cons_self
    have ih := putO_get rl L (H.set j0 o) hn.2 (fun j hj => by simpa using hlt j (List.mem_cons_of_mem _ hj)) (by simpa using hl) j
    simp only [putO]
    rw [ih]
    simp only [pos, List.length_set, List.length_cons]
    by_cases e : j0 = j
    · subst e
      have : pos rl j0 = none := by
        cases hp : pos rl j0 with
        | none => rfl
        | some k =>
          have hm := pos_some hp
          rw [nth_eq] at hm
          have hc := hn.1
          simp [List.mem_of_getElem? hm] at hc
      rw [this]
      simp [h0]
    · simp only [e, if_false]
      cases hp : pos rl j with
      | some k => simp
      | none =>
        simp only [Option.map_none]
        rw [List.getElem?_set_ne e]
        split
        · rfl
        · rw [show rl.length + 1 + (j - H.length) = (rl.length + (j - H.length)) + 1 by omega, List.getElem?_cons_succ]
theorem putO_len : ∀ (rl : List Nat) (L H : List Ob), rl.length ≤ L.length → (putO rl L H).length = H.length + (L.length - rl.length)
  | [], L, H, _ => by simp [putO]
  | j0 :: rl, [], H, hl => by simp at hl
  | j0 :: rl, o :: L, H, hl => by
    simp only [putO]
    rw [putO_len rl L _ (by simpa using hl)]
    simp
theorem rnH_get (rl : List Nat) (n : Nat) : ∀ (H : List Ob) (j : Nat), (rnH rl n H)[j]? = (H[j]?).map fun o => ⟨o.ty, o.ro, rnC rl n o.ct⟩
  | [], j => by simp [rnH]
  | o :: l, 0 => by simp [rnH]
  | o :: l, j + 1 => by simpa [rnH] using rnH_get rl n l j
theorem rnH_len (rl : List Nat) (n : Nat) : ∀ (H : List Ob), (rnH rl n H).length = H.length
  | [] => rfl
  | o :: l => by simp [rnH, rnH_len rl n l]
theorem rnL_get (rl : List Nat) (n : Nat) : ∀ (l : List SV) (k : Nat), (rnL rl n l)[k]? = (l[k]?).map (rn1 rl n)
  | [], k => by simp [rnL]
  | x :: l, 0 => by simp [rnL]
  | x :: l, k + 1 => by simpa [rnL] using rnL_get rl n l k
theorem rnL_len (rl : List Nat) (n : Nat) : ∀ (l : List SV), (rnL rl n l).length = l.length
  | [] => rfl
  | x :: l => by simp [rnL, rnL_len rl n l]
section
variable {β β1 : Bs} {rl : List Nat} {n : Nat} (hb : ∀ k i, β (rnI rl n k) i = β1 k i)
include hb
mutual
theorem rn1_ok : ∀ (x : SV) (u : Value), Ok β1 x u → Ok β (rn1 rl n x) u
  | .m j, u, h => by
    simp only [Ok, rn1] at h ⊢
    simpa only [hb] using h
  | .p j i o, u, h => by
    simp only [Ok, rn1] at h ⊢
    simpa only [hb] using h
  | .e j i k o sz, u, h => by
    simp only [Ok, rn1] at h ⊢
    simpa only [hb] using h
  | .s j i o len cap sz, u, h => by
    simp only [Ok, rn1] at h ⊢
    simpa only [hb] using h
  | .f fn fs cs, u, h => by
    simp only [Ok, rn1] at h ⊢
    obtain ⟨xs, ys, h1, h2, h3⟩ := h
    exact ⟨xs, ys, h1, rnL_ok _ _ h2, rnL_ok _ _ h3⟩
  | .a l, u, h => by
    simp only [Ok, rn1] at h ⊢
    obtain ⟨xs, h1, h2⟩ := h
    exact ⟨xs, h1, rnL_ok _ _ h2⟩
  | .t l, u, h => by
    simp only [Ok, rn1] at h ⊢
    obtain ⟨xs, h1, h2⟩ := h
    exact ⟨xs, h1, rnL_ok _ _ h2⟩
  | .v x, u, h => by simpa only [Ok, rn1] using h
  | .und, u, h => by simpa only [Ok, rn1] using h
  | .junk, u, h => by simp only [Ok, rn1]
theorem rnL_ok : ∀ (l : List SV) (us : List Value), OkL β1 l us → OkL β (rnL rl n l) us
  | [], _, h => by have _ := hb; simpa only [OkL, rnL] using h
  | x :: l, us, h => by
    simp only [OkL, rnL] at h ⊢
    obtain ⟨u, us', h1, h2, h3⟩ := h
    exact ⟨u, us', h1, rn1_ok _ _ h2, rnL_ok _ _ h3⟩
end
theorem rn_ob {w : World} {k : Nat} {o : Ob} (op : ObOk β1 w k o) : ObOk β w (rnI rl n k) ⟨o.ty, o.ro, rnC rl n o.ct⟩ := by
  have elem : ∀ (l : List SV) (k : Nat) (x : SV), (rnL rl n l)[k]? = some x → ∃ y, l[k]? = some y ∧ ∀ u, Ok β1 y u → Ok β x u := fun l k x hx => by
    rw [rnL_get] at hx
    cases hl : l[k]? with
    | none => rw [hl] at hx; cases hx
    | some y => rw [hl] at hx; simp at hx; subst hx; exact ⟨y, rfl, fun u hu => rn1_ok hb _ _ hu⟩
  unfold ObOk at op ⊢
  cases hpc : o.ct with
  | st cs =>
    rw [hpc] at op
    obtain ⟨g, cur, q1, q2, q3⟩ := op
    exact ⟨g, cur, (hb k 0).trans q1, q2, rnL_ok hb _ _ q3⟩
  | mp d n get =>
    rw [hpc] at op
    obtain ⟨g, es, clk, q1, q2, q3⟩ := op
    exact ⟨g, es, clk, (hb k 0).trans q1, q2, q3⟩
  | row sz2 N2 len2 cap2 f2 =>
    rw [hpc] at op
    simp only [rnC] at op ⊢
    cases hr : o.ro with
    | true =>
      rw [hr] at op
      simp only [if_true] at op ⊢
      intro i hi k' hk
      obtain ⟨g, b, q1, q2, q3⟩ := op i hi k' hk
      refine ⟨g, b, (hb k i).trans q1, q2, fun c' x hx => ?_⟩
      obtain ⟨y, r1, r2⟩ := elem _ _ _ hx
      obtain ⟨u, u1, u2⟩ := q3 c' y r1
      exact ⟨u, u1, r2 u u2⟩
    | false =>
      rw [hr] at op
      simp only [Bool.false_eq_true, if_false] at op ⊢
      intro i hi
      rw [hb k i]
      rcases op i hi with h | ⟨g, cur, q1, q2, q3, q4, q5, q6⟩
      · exact .inl h
      · refine .inr ⟨g, cur, q1, q2, q3, q4, q5, fun k hk => ⟨by rw [rnL_len]; exact (q6 k hk).1, fun c' x hx => ?_⟩⟩
        obtain ⟨y, r1, r2⟩ := elem _ _ _ hx
        obtain ⟨u, u1, u2⟩ := (q6 k hk).2 c' y r1
        exact ⟨u, u1, r2 u u2⟩
  | dead => simp only [rnC]
end
theorem rn_own {rl : List Nat} {n i : Nat} {o : Ob} (h : Ob.own ⟨o.ty, o.ro, rnC rl n o.ct⟩ i) : o.own i := by
  unfold Ob.own at h ⊢
  cases hpc : o.ct <;> rw [hpc] at h <;> first | exact h | simpa only [rnC] using h
theorem rn_mem {rl : List Nat} {n i : Nat} {o : Ob} (h : Ob.mem ⟨o.ty, o.ro, rnC rl n o.ct⟩ i) : o.mem i := by
  unfold Ob.mem at h ⊢
  cases hpc : o.ct <;> rw [hpc] at h <;> first | exact h | simpa only [rnC] using h
theorem rn_over {rl : List Nat} {n i : Nat} {o : Ob} (h : Ob.over ⟨o.ty, o.ro, rnC rl n o.ct⟩ i) : o.over i := by
  unfold Ob.over at h ⊢
  cases hpc : o.ct <;> rw [hpc] at h <;> first | exact h | simpa only [rnC] using h
def fb (β β1 : Bs) (rl : List Nat) (n : Nat) : Bs := fun j i =>
  match pos rl j with
  | some k => β1 k i
  | none => if j < n then β j i else β1 (rl.length + (j - n)) i
def ltB (n : Nat) : List Nat → Bool
  | [] => true
  | x :: l => Nat.blt x n && ltB n l
theorem ltB_mem {n : Nat} : ∀ {l : List Nat}, ltB n l = true → ∀ j ∈ l, j < n
  | [], _, j, hj => by cases hj
  | x :: l, h, j, hj => by
    simp only [ltB, Bool.and_eq_true] at h
    rcases List.mem_cons.1 hj with rfl | hj
    · exact Nat.le_of_ble_eq_true h.1
    · exact ltB_mem h.2 j hj
theorem live_sub : ∀ {rl : List Nat} {H : List Ob} {x : Nat}, x ∈ liveL rl H → x ∈ rl
  | [], H, x, h => by cases H <;> simp [liveL] at h
  | y :: l, [], x, h => by simp [liveL] at h
  | y :: l, o :: H, x, h => by
    simp only [liveL, liv] at h
    split at h
    · exact List.mem_cons_of_mem _ (live_sub h)
    · rcases List.mem_cons.1 h with rfl | h
      · exact List.mem_cons_self
      · exact List.mem_cons_of_mem _ (live_sub h)
theorem live_nodup : ∀ {rl : List Nat} {H : List Ob}, nodupB rl = true → nodupB (liveL rl H) = true
  | [], H, _ => by cases H <;> rfl
  | y :: l, [], _ => rfl
  | y :: l, o :: H, hn => by
    simp only [nodupB, Bool.and_eq_true, Bool.not_eq_true'] at hn
    simp only [liveL, liv]
    split
    · exact live_nodup hn.2
    · simp only [nodupB, Bool.and_eq_true, Bool.not_eq_true']
      refine ⟨?_, live_nodup hn.2⟩
      have hc := hn.1
      simp only [List.contains_eq_mem, decide_eq_false_iff_not] at hc ⊢
      exact fun h => hc (live_sub h)
theorem ret_of0 {n0 : Nat} {β : Bs} {H : List Ob} {w w' : World} {e : Ending} {K : SV → List Ob → Prop} (hg : GlobOk β H w) (h : ∃ r v β' H', e = .returned v ∧ K r H' ∧ Ok β' r v ∧ Inv0 β' H' w' ∧ Fr n0 β H w β' H' w') : ∃ r v β' H', e = .returned v ∧ K r H' ∧ Ok β' r v ∧ Inv β' H' w' ∧ Fr n0 β H w β' H' w' :=
  let ⟨r, v, β', H', h1, h2, h3, h4, h5⟩ := h
  ⟨r, v, β', H', h1, h2, h3, ⟨h4, hg.fr h5⟩, h5⟩
theorem sp_at {P : Program} {f : FuncId} {args args0 : List SV} {H H0 : List Ob} {K0 K : SV → List Ob → Prop} (h : Sp P f args0 H0 K0) (rl : List Nat) (hrl : (nodupB rl && ltB H.length rl && Nat.beq rl.length H0.length) = true)
    (ha : mtL rl args0 args) (ho : obsM rl H rl H0) (hk : ∀ r0 H1, K0 r0 H1 → K (rn1 rl H.length r0) (putO rl (rnH rl H.length H1) H)) : Sp P f args H K := by
  simp only [Bool.and_eq_true] at hrl
  obtain ⟨⟨hnd, hltb⟩, hlen⟩ := hrl
  have hlen : rl.length = H0.length := Nat.eq_of_beq_eq_true hlen
  have hlt := ltB_mem hltb
  refine ⟨h.1, fun β w vals hI hv => ?_⟩
  obtain ⟨hI0, hown, hmem⟩ := inv_mt hI ho (.inl (live_nodup hnd)) hlen
  refine (h.2 _ w vals hI0 (mtL_ok ha hv)).mono ?_
  rintro e w' ⟨r0, v, β1, H1, rfl, k1, k2, hI1, fr⟩
  have hge : H0.length ≤ H1.length := fr.len (Nat.le_refl _)
  have hlen1 : rl.length ≤ (rnH rl H.length H1).length := by rw [rnH_len]; omega
  have hget := putO_get rl (rnH rl H.length H1) H hnd hlt hlen1
  have hput := putO_len rl (rnH rl H.length H1) H hlen1
  rw [rnH_len] at hput
  have nthlt : ∀ k j, nth rl k = some j → k < rl.length ∧ j < H.length := fun k j hkj => by
    rw [nth_eq] at hkj
    exact ⟨(List.getElem?_eq_some_iff.1 hkj).1, hlt j (List.mem_of_getElem? hkj)⟩
  have posnone : ∀ j, H.length ≤ j → pos rl j = none := fun j hj => by
    cases hp : pos rl j with
    | none => rfl
    | some k => have := (nthlt k j (pos_some hp)).2; omega
  have hb : ∀ k i, fb β β1 rl H.length (rnI rl H.length k) i = β1 k i := fun k i => by
    unfold rnI
    cases hk' : nth rl k with
    | some j =>
      show fb β β1 rl H.length j i = _
      unfold fb
      simp only [pos_of hnd hk']
    | none =>
      have hkl : rl.length ≤ k := by
        rw [nth_eq] at hk'
        exact List.getElem?_eq_none_iff.1 hk'
      show fb β β1 rl H.length (H.length + (k - rl.length)) i = _
      unfold fb
      rw [posnone _ (by omega)]
      simp only
      rw [if_neg (by omega)]
      congr 1
      omega
  have hle : BLe β (fb β β1 rl H.length) := fun j i x hx => by
    unfold fb
    cases hp : pos rl j with
    | some k =>
      have hn := pos_some hp
      refine fr.le k i x (by have := (nthlt k j hn).1; omega) ?_
      simp only [bc, hn]
      exact hx
    | none =>
      simp only
      split
      · exact hx
      · rw [hI.out j i (by omega)] at hx; cases hx
  -- an object afterwards: the called function's, or another one
  have src : ∀ j o, (putO rl (rnH rl H.length H1) H)[j]? = some o → (∃ k p, H1[k]? = some p ∧ j = rnI rl H.length k ∧ o = ⟨p.ty, p.ro, rnC rl H.length p.ct⟩) ∨ (pos rl j = none ∧ j < H.length ∧ H[j]? = some o) := by
    intro j o hj
    rw [hget] at hj
    cases hp : pos rl j with
    | some k =>
      rw [hp] at hj
      simp only [rnH_get] at hj
      cases hp1 : H1[k]? with
      | none => rw [hp1] at hj; cases hj
      | some p =>
        rw [hp1] at hj
        simp at hj
        exact .inl ⟨k, p, hp1, by simp only [rnI, pos_some hp, rnO], hj.symm⟩
    | none =>
      rw [hp] at hj
      simp only at hj
      split at hj
      · exact .inr ⟨rfl, ‹_›, hj⟩
      · rw [rnH_get] at hj
        cases hp1 : H1[rl.length + (j - H.length)]? with
        | none => rw [hp1] at hj; cases hj
        | some p =>
          rw [hp1] at hj
          simp at hj
          refine .inl ⟨_, p, hp1, ?_, hj.symm⟩
          have : nth rl (rl.length + (j - H.length)) = none := by rw [nth_eq]; exact List.getElem?_eq_none (by omega)
          simp only [rnI, this, rnO]
          omega
  have hoth : ∀ j i, pos rl j = none → j < H.length → fb β β1 rl H.length j i = β j i := fun j i hp hj => by
    unfold fb
    rw [hp]
    simp only
    rw [if_pos hj]
  have notown : ∀ j o i g b, pos rl j = none → H[j]? = some o → o.mem i → β j i = some (g, b) → ¬ OwnB (bc β rl) H0 g := by
    rintro j o i g b hp hj hm hb1 ⟨k, i2, p, b2, q1, q2, q3⟩
    obtain ⟨j1, h4, h5⟩ := obsM_get ho k p q1
    simp only [bc, h4] at q3
    rcases ob1_own h5 q2 with ⟨p', r1, r2⟩ | q
    · have e := (hI.sep j1 i2 j i p' o g b2 b r1 hj r2 hm q3 hb1).1
      subst e
      rw [nth_eq] at h4
      exact pos_none hp (List.mem_of_getElem? h4)
    · have := (nthlt k j1 h4).2; omega
  have notmem : ∀ j o i g b, pos rl j = none → H[j]? = some o → o.own i → β j i = some (g, b) → ¬ MemB (bc β rl) H0 g := by
    rintro j o i g b hp hj hm hb1 ⟨k, i2, p, b2, q1, q2, q3⟩
    obtain ⟨j1, h4, h5⟩ := obsM_get ho k p q1
    simp only [bc, h4] at q3
    rcases ob1_mem hI h5 q2 with ⟨p', r1, r2⟩ | q
    · have e := (hI.sep j i j1 i2 o p' g b b2 hj r1 hm r2 hb1 q3).1
      subst e
      rw [nth_eq] at h4
      exact pos_none hp (List.mem_of_getElem? h4)
    · have := (nthlt k j1 h4).2; omega
  refine ret_of0 hI.gl ⟨_, v, fb β β1 rl H.length, _, rfl, hk r0 H1 k1, rn1_ok hb _ _ k2, ⟨fun j o hj => ?_, fun j i hj => ?_, fun j i j' i' o o' g b b' hj hj' hw hm hb1 hb2 => ?_, fun j o i hj hv => ?_⟩,
    ⟨fr.tape, fr.os, fr.output, fr.size, fun g hg hn => fr.block g hg fun ho => hn (hown g ho), fun g hg hg1 => ?_, fun g hg hg1 => ?_, fun j i x _ hx => hle j i x hx, fun _ => by omega⟩⟩
  · rcases src j o hj with ⟨k, p, q1, rfl, rfl⟩ | ⟨q1, q2, q3⟩
    · exact rn_ob hb (hI1.ob k p q1)
    · refine (hI.ob j o q3).same hle (fun i hn => by rw [hoth j i q1 q2]; exact hn) fr.size fun i g b hm hb1 => fr.block g ((hI.ob j o q3).block hm hb1) (notown j o i g b q1 q3 hm hb1)
  · have hj : H.length + (H1.length - rl.length) ≤ j := by omega
    unfold fb
    rw [posnone j (by omega)]
    simp only
    rw [if_neg (by omega)]
    exact hI1.out _ _ (by omega)
  · rcases src j o hj with ⟨k, p, q1, rfl, rfl⟩ | ⟨q1, q2, q3⟩ <;> rcases src j' o' hj' with ⟨k', p', q1', rfl, rfl⟩ | ⟨q1', q2', q3'⟩
    · rw [hb] at hb1 hb2
      obtain ⟨e1, e2⟩ := hI1.sep k i k' i' p p' g b b' q1 q1' (rn_own hw) (rn_mem hm) hb1 hb2
      subst e1
      exact ⟨rfl, e2⟩
    · rw [hb] at hb1
      rw [hoth _ _ q1' q2'] at hb2
      exact (notown j' o' i' g b' q1' q3' hm hb2 (fr.own g ((hI.ob j' o' q3').block hm hb2) ⟨k, i, p, b, q1, rn_own hw, hb1⟩)).elim
    · rw [hb] at hb2
      rw [hoth _ _ q1 q2] at hb1
      exact (notmem j o i g b q1 q3 hw hb1 (fr.mem g ((hI.ob j o q3).block (Ob.own_mem hw) hb1) ⟨k', i', p', b', q1', rn_mem hm, hb2⟩)).elim
    · rw [hoth _ _ q1 q2] at hb1
      rw [hoth _ _ q1' q2'] at hb2
      exact hI.sep j i j' i' o o' g b b' q3 q3' hw hm hb1 hb2
  · rcases src j o hj with ⟨k, p, q1, rfl, rfl⟩ | ⟨q1, q2, q3⟩
    · rw [hb]; exact hI1.bey k p i q1 (rn_over hv)
    · rw [hoth _ _ q1 q2]; exact hI.bey j o i q3 hv
  · obtain ⟨j, i, o, b, h1, h2, h3⟩ := hg1
    rcases src j o h1 with ⟨k, p, q1, rfl, rfl⟩ | ⟨q1, q2, q3⟩
    · rw [hb] at h3
      exact hown g (fr.own g hg ⟨k, i, p, b, q1, rn_own h2, h3⟩)
    · rw [hoth _ _ q1 q2] at h3
      exact ⟨j, i, o, b, q3, h2, h3⟩
  · obtain ⟨j, i, o, b, h1, h2, h3⟩ := hg1
    rcases src j o h1 with ⟨k, p, q1, rfl, rfl⟩ | ⟨q1, q2, q3⟩
    · rw [hb] at h3
      exact hmem g (fr.mem g hg ⟨k, i, p, b, q1, rn_mem h2, h3⟩)
    · rw [hoth _ _ q1 q2] at h3
      exact ⟨j, i, o, b, q3, h2, h3⟩
/- ===== the executor's rules for simp ===== -/
/- ===== the executor's rules for simp ===== -/
attribute [push_cast] big2.eq_1 big2.eq_2 arrF.eq_1 arrG.eq_1 msK9.eq_1 msKs.eq_1 msK0.eq_1
attribute [push_cast] look.eq_1 look.eq_2 cst.eq_1 cst.eq_2 cst.eq_3 ev.eq_1 ev.eq_2 ev.eq_3 ev.eq_4 arK.eq_1 arK.eq_2 intK.eq_1 intK.eq_2 intK.eq_3 intK.eq_4 intK.eq_5 intK.eq_6 intK.eq_7 intK.eq_8 intK.eq_9 intK.eq_10 intK.eq_11 intK.eq_12 intK.eq_13 intK.eq_14 intK.eq_15 shK.eq_1 shK.eq_2 strK.eq_1 strK.eq_2 strK.eq_3 strK.eq_4 strK.eq_5 strK.eq_6 strK.eq_7 eqLB.eq_1
attribute [push_cast] eqLB.eq_2 eqLB.eq_3 eqLB.eq_4 grounds.eq_1 grounds.eq_2 grounds.eq_3 aggK.eq_1 eqK.eq_1 eqK.eq_2 eqK.eq_3 eqK.eq_4 eqK.eq_5 binK.eq_1 binK.eq_2 binK.eq_3 binK.eq_4 binK.eq_5 binK.eq_6 brV.eq_1 brV.eq_2 brV.eq_3 pickK.eq_1 nilK.eq_1 nilK.eq_2 nilK.eq_3 ngK.eq_1 ngK.eq_2 ngK.eq_3 ngK.eq_4 ngK.eq_5 ngK.eq_6 ngK.eq_7 ngK.eq_8 unK.eq_1 unK.eq_2 unK.eq_3 convK.eq_1 convK.eq_2 nth.eq_1 nth.eq_2
attribute [push_cast] nth.eq_3 fldK.eq_1 fldK.eq_2 TD.fd.eq_1 TD.fd.eq_2 sub.eq_1 lenIs.eq_1 lenIs.eq_2 lenIs.eq_3 oneK.eq_1 oneK.eq_2 fieldK.eq_1 arrK.eq_1 arrK.eq_2 arrP.eq_1 arrE.eq_1 ixK.eq_1 ixK.eq_2 ixK.eq_3 ixK.eq_4 arrV.eq_1 indexK.eq_1 indexK.eq_2 ixS.eq_1 ixS.eq_2 notOth.eq_1 notOth.eq_2 notOth.eq_3 notOth.eq_4 notOth.eq_5 notOth.eq_6 notOth.eq_7 notOth.eq_8 notOth.eq_9 notOth.eq_10 extK.eq_1 boundK.eq_1 boundK.eq_2 sl3.eq_1 sl2.eq_1
attribute [push_cast] sl1.eq_1 st2.eq_1 st1.eq_1 slK.eq_1 slK.eq_2 slK.eq_3 slK.eq_4 lenK.eq_1 lenK.eq_2 lenK.eq_3 lenK.eq_4 capK.eq_1 capK.eq_2 minK.eq_1 minK.eq_2 maxK.eq_1 maxK.eq_2 obAt.eq_1 obAt.eq_2 obAt.eq_3 rdSt.eq_1 rdRow.eq_1 readK.eq_1 readK.eq_2 readK.eq_3 oneL.eq_1 loadK.eq_1 svc.eq_1 svc.eq_2 one1.eq_1 one1.eq_2 one1.eq_3 one1.eq_4 one1.eq_5 one1.eq_6 one1.eq_7 ones.eq_1 ones.eq_2 newSt.eq_1 allocK.eq_1
attribute [push_cast] allocK.eq_2 boxK.eq_1 spliceO.eq_1 spliceO.eq_2 spliceO.eq_3 spliceO.eq_4 plS.eq_1 plS.eq_2 plS.eq_3 plR.eq_1 fillK.eq_1 fillK.eq_2 posAll.eq_1 posAll.eq_2 posAll.eq_3 TD.posOk.eq_1 TD.posOk.eq_2 TD.posOk.eq_3 buildK.eq_1 newRow1.eq_1 repC.eq_1 repC.eq_2 rowF.eq_1 bsK2.eq_1 buildSliceK.eq_1 makeSliceK.eq_1 mrg1.eq_1 mrg1.eq_2 mrg1.eq_3 mrg1.eq_4 mrgL.eq_1 mrgL.eq_2 updF.eq_1 lenP.eq_1 lenP.eq_2 stStK.eq_1 stRowK.eq_1 storeK.eq_1 storeK.eq_2 srcOk.eq_1
attribute [push_cast] srcOk.eq_2 appF.eq_1 appF.eq_2 appNew.eq_1 appA.eq_1 appB.eq_1 appBase.eq_1 appBase.eq_2 appZ.eq_1 appZ.eq_2 appSrc.eq_1 appK.eq_1 opP.eq_1 opP.eq_2 opP.eq_3 opP.eq_4 opP.eq_5 opP.eq_6 opP.eq_7 opP.eq_8 opP.eq_9 opP.eq_10 opP.eq_11 opP.eq_12 opP.eq_13 opP.eq_14 opP.eq_15 opP.eq_16 opP.eq_17 opP.eq_18 opP.eq_19 opP.eq_20 opP.eq_21 gnd.eq_1 gnd.eq_2 gnd.eq_3 gnd.eq_4 gndL.eq_1 gndL.eq_2 putS.eq_1
attribute [push_cast] putS.eq_2 keepK.eq_1 callX.eq_1 callT.eq_1 opN.eq_1 opN.eq_2 opN.eq_3 opN.eq_4 opN.eq_5 opN.eq_6 opN.eq_7 opN.eq_8 opN.eq_9 opN.eq_10 opN.eq_11 opN.eq_12 nextN.eq_1 gdst.eq_1 guardK.eq_1 guardK.eq_2 runN'.eq_1 skipN.eq_1 gdN.eq_1 gdN.eq_2 gdN0.eq_1 gdN0.eq_2 exN.eq_1 exN.eq_2 callQ.eq_1 opQ.eq_1 opQ.eq_2 isEff.eq_1 isEff.eq_2 isEff.eq_3 isEff.eq_4 isEff.eq_5 isEff.eq_6 isEff.eq_7 isEff.eq_8 isEff.eq_9
attribute [push_cast] isEff.eq_10 isEff.eq_11 nextQ.eq_1 runQ.eq_1 gdQ.eq_1 gdQ.eq_2 gdQ0.eq_1 gdQ0.eq_2 swK.eq_1 swK.eq_2 swN.eq_1 swQ.eq_1 exQ.eq_1 exQ.eq_2 regK.eq_1 seqK.eq_1 seqK.eq_2 blkK.eq_1 blkK.eq_2 sidK.eq_1 litC.eq_1 litC.eq_2 condK.eq_1 ex.eq_1 ex.eq_2 ex.eq_3 ex.eq_4 ex.eq_5 ex.eq_6 ex.eq_7 ex.eq_8 ex.eq_9 retV.eq_1 retV.eq_2 retV.eq_3 one.eq_1 one.eq_2 retK.eq_1 retK.eq_2 parS.eq_1
attribute [push_cast] parS.eq_2 mt.eq_1 mt.eq_2 mt.eq_3 mt.eq_4 mt.eq_5 mt.eq_6 mt.eq_7 mt.eq_8 mt.eq_9 mt.eq_10 mt.eq_11 mtL.eq_1 mtL.eq_2 rowM.eq_1 ob1.eq_1 obsM.eq_1 obsM.eq_2 obsM.eq_3 slM.eq_1 slM.eq_2 nodupB.eq_1 nodupB.eq_2 keepB.eq_1 keepB.eq_2 keepB.eq_3 TD.agg.eq_1 TD.agg.eq_2 TD.agg.eq_3 inr.eq_1 inr.eq_2 inr.eq_3 inr.eq_4 inr.eq_5 inr.eq_6 inr.eq_7 inr.eq_8 lk.eq_1 lk.eq_2 gsel.eq_1
attribute [push_cast] gsel.eq_2 nrmK.eq_1 outK.eq_1 drN.eq_1 drX.eq_1 drX.eq_2 findP.eq_1 findP.eq_2 atOp.eq_1 exP.eq_1 exP.eq_2 exP.eq_3 exP.eq_4 exP.eq_5 exP.eq_6 exPL.eq_1 exPL.eq_2 jn1.eq_1 jn1.eq_2 jn1.eq_3 jn1.eq_4 jn1.eq_5 jn1.eq_6 jn1.eq_7 jn1.eq_8 jn1.eq_9 jn1.eq_10 jnL.eq_1 jnL.eq_2 jnC.eq_1 jnC.eq_2 jnC.eq_3 jnC.eq_4 jnO.eq_1 jnO.eq_2 jnS.eq_1 jnS.eq_2 famO.eq_1 famN.eq_1 jnH.eq_1
attribute [push_cast] canJoin.eq_1 liv.eq_1 liv.eq_2 liveL.eq_1 liveL.eq_2 rnO.eq_1 rnO.eq_2 rnI.eq_1 rn1.eq_1 rn1.eq_2 rn1.eq_3 rn1.eq_4 rn1.eq_5 rn1.eq_6 rn1.eq_7 rn1.eq_8 rn1.eq_9 rn1.eq_10 rnL.eq_1 rnL.eq_2 rnC.eq_1 rnC.eq_2 rnC.eq_3 rnC.eq_4 rnH.eq_1 rnH.eq_2 putO.eq_1 putO.eq_2 putO.eq_3 ltB.eq_1 ltB.eq_2 deadOb.eq_1 keyK.eq_1 keyK.eq_2 keyK.eq_3 mpD.eq_1 mpD.eq_2 mpD.eq_3 mm3.eq_1 makeMapK.eq_1
attribute [push_cast] lk3.eq_1 lk3.eq_2 lk2.eq_1 lk2.eq_2 lookK.eq_1 mu3.eq_1 mu2.eq_1 mupK.eq_1 lenM2.eq_1 lenM.eq_1 len2.eq_1 len2.eq_2 len2.eq_3 len2.eq_4 noMap.eq_1 noMap.eq_2 noMap.eq_3 noMap.eq_4 noMap.eq_5 noMap.eq_6 noMap.eq_7 noMap.eq_8 noMap.eq_9 noMap.eq_10 noMapL.eq_1 noMapL.eq_2 noMapL.eq_3 lenV.eq_1 lenV.eq_2 lenV.eq_3 onAt.eq_1 mpM.eq_1 appM.eq_1 holeO.eq_1 lk2b.eq_1 mu2b.eq_1 byL.eq_1 cvB2.eq_1 cvB.eq_1 cvS.eq_1
attribute [push_cast] cvK.eq_1 cvK.eq_2 noSl.eq_1 noSl.eq_2 noSl.eq_3 noSl.eq_4 noSl.eq_5 noSl.eq_6 noSl.eq_7 noSl.eq_8 noSl.eq_9 noSl.eq_10 nl1.eq_1 nl2.eq_1 apz.eq_1 apz2.eq_1 app3.eq_1 app3.eq_2 app2.eq_1 app2.eq_2 appG.eq_1 memO.eq_1 appI.eq_1 appX.eq_1 appY.eq_1 appU.eq_1 appE.eq_1 appE.eq_2 rowJ.eq_1 bsJ2.eq_1 bsJ1.eq_1 buildSliceJ.eq_1 cpF.eq_1 copyR.eq_1 copyK.eq_1 copyX.eq_1 copyE.eq_1 lnX.eq_1 apzG.eq_1 copy1.eq_1
attribute [push_cast] drP.eq_1 drP.eq_2 drP.eq_3 drP.eq_4 drP.eq_5 drP.eq_6 unJ.eq_1 unJ.eq_2 unJ.eq_3 unJ.eq_4 unJ.eq_5 unJ.eq_6 exT.eq_1 exT.eq_2 exT.eq_3 exT.eq_4 exT.eq_5 exT.eq_6 exPre.eq_1 exPre.eq_2 preK.eq_1 roX.eq_1 roX.eq_2 dem1.eq_1 demO.eq_1 demO.eq_2 msJ1.eq_1 makeSliceJ.eq_1 clrR.eq_1 clrK.eq_1 clear1.eq_1 rdGl.eq_1 optK.eq_1 optK.eq_2 fill1.eq_1 aK.eq_1 bsK1.eq_1 msK1.eq_1 stSt2.eq_1 stRow2.eq_1
attribute [push_cast] len1.eq_1 cap1.eq_1 app1.eq_1
attribute [push_cast] hollow.eq_1 hid.eq_1 hdK.eq_1 tailX.eq_1 tailH.eq_1 hdG.eq_1 stK.eq_1 hdX.eq_1 hdY.eq_1 exF.eq_1 exF.eq_2 exHd.eq_1 exT.eq_7 drP.eq_7 unJ.eq_7
attribute [push_cast] someB.eq_1 someB.eq_2 isCut.eq_1 cutB.eq_1 cutB.eq_2 cutG.eq_1 cutG.eq_2 headN.eq_1 headN.eq_2 headN.eq_3 headN.eq_4 headN.eq_5 headN.eq_6 headN.eq_7 headN.eq_8 headN.eq_9 headN.eq_10 headN.eq_11 headN.eq_12 headN.eq_13 cutId.eq_1 cutId.eq_2 cutId.eq_3 cutId.eq_4 cutId.eq_5 cutId.eq_6 cutId.eq_7 cutId.eq_8 cutId.eq_9 cutId.eq_10 cutId.eq_11 cutId.eq_12 cutId.eq_13
attribute [push_cast] cond_true cond_false Option.map_some Option.map_none and_true true_and List.map_cons List.map_nil List.cons_append List.nil_append List.append_nil List.length_cons List.length_nil List.set_cons_zero List.set_cons_succ List.drop_zero List.drop_succ_cons List.take_zero List.take_succ_cons List.take_nil List.drop_nil if_true if_false eq_self Option.isSome_some Option.isSome_none Bool.not_true Bool.not_false isK.eq_1 false_implies implies_true beq_self_eq_true slE.eq_1 slE.eq_2 lp0_exit lp0_ret lpK_exit lpK_ret Int.toNat_natCast Nat.zero_add Nat.add_zero true_or or_true false_or or_false Nat.le_refl not_true_eq_false not_false_eq_true Int.toNat_zero Option.some.injEq exists_eq_left' Bool.true_and Bool.and_true Bool.false_and Bool.and_false
/- ===== calls ===== -/
theorem sp_call {P : Program} {f : FuncId} {args args0 : List SV} {H H0 : List Ob} {r : SV} {v : Value} {K : SV → List Ob → Prop} (h : Pu P f args0 H0 r) (hg : gnd r = some v) (rl : List Nat) (hro : (roB H0 && Nat.beq rl.length H0.length) = true) (ha : mtL rl args0 args) (ho : obsM rl H rl H0) (hk : K r H) : Sp P f args H K :=
  sp_pu (pu_at h hg rl hro ha ho) hk
theorem qc_call {P : Program} {f : FuncId} {args args0 : List SV} {H H0 : List Ob} {r : SV} {v : Value} {K : SV → Prop} (h : Pu P f args0 H0 r) (hg : gnd r = some v) (rl : List Nat) (hro : (roB H0 && Nat.beq rl.length H0.length) = true) (ha : mtL rl args0 args) (ho : obsM rl H rl H0) (hk : K r) : QC P f args H K :=
  qc_pu (pu_at h hg rl hro ha ho) hg hk
/-- An element of a list, by its number. -/
def ix {α : Type} [Inhabited α] (l : List α) (k : Nat) : α := l.getD k default
theorem ix_get {α : Type} [Inhabited α] {l : List α} {k : Nat} (h : k < l.length) : l[k]? = some (ix l k) := by
  unfold ix
  rw [List.getD_eq_getElem?_getD, List.getElem?_eq_getElem h]; rfl
theorem ix_eq {α : Type} [Inhabited α] {l : List α} {k : Nat} (h : k < l.length) : ix l k = l[k] := by
  have := ix_get h
  rw [List.getElem?_eq_getElem h] at this
  exact (Option.some.inj this).symm
theorem ix_mem {α : Type} [Inhabited α] {l : List α} {k : Nat} (h : k < l.length) : ix l k ∈ l := by rw [ix_eq h]; exact List.getElem_mem h
theorem take_snoc {α : Type} [Inhabited α] {l : List α} {k : Nat} (h : k < l.length) : l.take (k + 1) = l.take k ++ [ix l k] := by
  rw [List.take_add_one, ix_get h]; rfl
theorem drop_ix {α : Type} [Inhabited α] {l : List α} {k : Nat} (h : k < l.length) : l.drop k = ix l k :: l.drop (k + 1) := by
  rw [ix_eq h]; exact List.drop_eq_getElem_cons h
/-- A row of ints that is only read. -/
def rInt (t : TypeId) (l : List Int) : Ob := ⟨t, true, .row 1 1 (fun _ => l.length) (fun _ => 0) (fun _ k => [.v (.int .i64 (ix l k))])⟩
attribute [push_cast] rInt
/-- A row of ints of one's own, by its elements. -/
def rOwn (t : TypeId) (n cap : Nat) (f : Nat → Int) : Ob := ⟨t, false, .row 1 1 (fun _ => n) (fun _ => cap) (fun _ k => [.v (.int .i64 (f k))])⟩
attribute [push_cast] rOwn
/- ===== a member of a family that is only read, seen as an object of its own ===== -/
def vwB (β : Bs) (c F a : Nat) : Bs := fun j i => if j = c then (if i = 0 then β F a else none) else β j i
def vw0 (c F a : Nat) : SV → SV
  | .s j i o len cap sz => bif j == F && i == a then .s c 0 o len cap sz else .s j i o len cap sz
  | x => x
def vwS (c F a : Nat) : List SV → List SV
  | [] => []
  | x :: l => vw0 c F a x :: vwS c F a l
def vw1 (c F a : Nat) : SV → SV
  | .a l => .a (vwS c F a l)
  | x => vw0 c F a x
def vwL (c F a : Nat) : List SV → List SV
  | [] => []
  | x :: l => vw1 c F a x :: vwL c F a l
attribute [push_cast] vw0 vwS vw1 vwL
def vwO (o : Ob) (a : Nat) : Ob :=
  match o.ct with
  | .row sz _ len _ f => ⟨o.ty, true, .row sz 1 (fun _ => len a) (fun _ => 0) (fun _ => f a)⟩
  | _ => deadOb
@[push_cast] theorem vwO_row {ty : TypeId} {ro : Bool} {sz N : Nat} {len cap : Nat → Nat} {f : Nat → Nat → List SV} {a : Nat} : vwO ⟨ty, ro, .row sz N len cap f⟩ a = ⟨ty, true, .row sz 1 (fun _ => len a) (fun _ => 0) (fun _ => f a)⟩ := rfl
def canView (o : Ob) (a : Nat) : Prop :=
  match o.ct with
  | .row _ N _ _ _ => o.ro = true ∧ a < N
  | _ => False
theorem vwB_le {β : Bs} {c F a : Nat} (hc : ∀ i, β c i = none) : BLe β (vwB β c F a) := fun j i x h => by
  unfold vwB
  rw [if_neg (fun e => by subst e; rw [hc] at h; cases h)]
  exact h
theorem vw0_ok {β : Bs} {c F a : Nat} (hc : ∀ i, β c i = none) (x : SV) (u : Value) (h : Ok β x u) : Ok (vwB β c F a) (vw0 c F a x) u := by
  cases x with
  | s j i o len cap sz =>
    simp only [vw0]
    cases e : (j == F && i == a) with
    | false => exact Ok.mono (vwB_le hc) _ _ h
    | true =>
      simp only [Bool.and_eq_true, beq_iff_eq] at e
      obtain ⟨rfl, rfl⟩ := e
      simp only [cond_true, Ok] at h ⊢
      obtain ⟨A, h1, h2, h3⟩ := h
      refine ⟨A, h1, h2, fun hp => ?_⟩
      obtain ⟨g, b, h4, h5⟩ := h3 hp
      exact ⟨g, b, by simp only [vwB, if_true]; exact h4, h5⟩
  | _ => exact Ok.mono (vwB_le hc) _ _ h
theorem vwS_ok {β : Bs} {c F a : Nat} (hc : ∀ i, β c i = none) : ∀ (l : List SV) (us : List Value), OkL β l us → OkL (vwB β c F a) (vwS c F a l) us
  | [], us, h => h
  | x :: l, us, h => by
    simp only [OkL, vwS] at h ⊢
    obtain ⟨u, us', h1, h2, h3⟩ := h
    exact ⟨u, us', h1, vw0_ok hc _ _ h2, vwS_ok hc _ _ h3⟩
theorem vw1_ok {β : Bs} {c F a : Nat} (hc : ∀ i, β c i = none) (x : SV) (u : Value) (h : Ok β x u) : Ok (vwB β c F a) (vw1 c F a x) u := by
  cases x with
  | a l =>
    simp only [vw1, Ok] at h ⊢
    obtain ⟨xs, h1, h2⟩ := h
    exact ⟨xs, h1, vwS_ok hc _ _ h2⟩
  | _ => exact vw0_ok hc _ _ h
theorem vwL_ok {β : Bs} {c F a : Nat} (hc : ∀ i, β c i = none) : ∀ (l : List SV) (us : List Value), OkL β l us → OkL (vwB β c F a) (vwL c F a l) us
  | [], us, h => h
  | x :: l, us, h => by
    simp only [OkL, vwL] at h ⊢
    obtain ⟨u, us', h1, h2, h3⟩ := h
    exact ⟨u, us', h1, vw1_ok hc _ _ h2, vwL_ok hc _ _ h3⟩
theorem lwk_view {n0 : Nat} {l : List SV} {H : List Ob} (F a : Nat) (hv : canView (obAt H F) a) : Wk (α := List Value) n0 (fun β u => OkL β l u) (fun β u => OkL β (vwL H.length F a l) u) H (H ++ [vwO (obAt H F) a]) := by
  refine wk_of0 ?_
  intro β w hI hn0
  unfold canView at hv
  split at hv
  case h_2 => exact hv.elim
  rename_i sz N len cap f hct
  obtain ⟨hro, ha⟩ := hv
  have hgF := obAt_get (H := H) (j := F) (by rw [hct]; intro e; cases e)
  have hlF := (List.getElem?_eq_some_iff.1 hgF).1
  have hc : ∀ i, β H.length i = none := fun i => hI.out _ _ (Nat.le_refl _)
  have hle := vwB_le (F := F) (a := a) hc
  have hold : ∀ j i, j ≠ H.length → vwB β H.length F a j i = β j i := fun j i h => by simp [vwB, h]
  have hnew : vwB β H.length F a H.length 0 = β F a := by simp [vwB]
  have hvo : vwO (obAt H F) a = ⟨(obAt H F).ty, true, .row sz 1 (fun _ => len a) (fun _ => 0) (fun _ => f a)⟩ := by unfold vwO; rw [hct]
  have hF := hI.ob F _ hgF
  generalize hoF : obAt H F = oF at *
  obtain ⟨ty, ro, ct⟩ := oF
  simp only at hct hro
  subst hct hro
  have cs : ∀ j o, (H ++ [vwO ⟨ty, true, .row sz N len cap f⟩ a])[j]? = some o → (j < H.length ∧ H[j]? = some o) ∨ (j = H.length ∧ o = ⟨ty, true, .row sz 1 (fun _ => len a) (fun _ => 0) (fun _ => f a)⟩) := by
    intro j o h
    rcases Nat.lt_trichotomy j H.length with hl | hl | hl
    · exact .inl ⟨hl, by rwa [List.getElem?_append_left hl] at h⟩
    · subst hl
      rw [List.getElem?_append_right (Nat.le_refl _)] at h
      simp at h
      exact .inr ⟨rfl, by rw [← h, hvo]⟩
    · rw [List.getElem?_eq_none (by simp; omega)] at h; cases h
  have memF : ∀ (i : Nat) (o : Ob), o = ⟨ty, true, .row sz 1 (fun _ => len a) (fun _ => 0) (fun _ => f a)⟩ → o.mem i → i = 0 ∧ Ob.mem ⟨ty, true, .row sz N len cap f⟩ a := fun i o e h => by
    subst e
    simp only [Ob.mem] at h ⊢
    exact ⟨by omega, ha, h.2.1, fun h => by cases h⟩
  refine ⟨vwB β H.length F a, ⟨fun j o ho => ?_, fun j i hj => ?_, fun j i j' i' o o' g b b' ho ho' hw hm hb hb' => ?_, fun j o i ho hov => ?_⟩, fun u hu => vwL_ok hc _ _ hu, fun j i x hj hx => hle _ _ _ hx, fun g hg => ?_, fun g hg => ?_, by simp; omega⟩
  · rcases cs j o ho with ⟨hl, h⟩ | ⟨rfl, rfl⟩
    · exact (hI.ob j o h).same hle (fun i hi => by rw [hold _ _ (by omega)]; exact hi) (Nat.le_refl _) fun _ _ _ _ _ => rfl
    · intro i hi k hk
      obtain rfl : i = 0 := by omega
      obtain ⟨g, b, h1, h2, h3⟩ := hF a ha k hk
      refine ⟨g, b, by rw [hnew]; exact h1, h2, fun c x hx => ?_⟩
      obtain ⟨u, h4, h5⟩ := h3 c x hx
      exact ⟨u, h4, Ok.mono hle _ _ h5⟩
  · have : H.length + 1 ≤ j := by simpa using hj
    rw [hold _ _ (by omega)]
    exact hI.out _ _ (by omega)
  · rcases cs j o ho with ⟨hl, h⟩ | ⟨rfl, rfl⟩
    · rw [hold _ _ (by omega)] at hb
      rcases cs j' o' ho' with ⟨hl', h'⟩ | ⟨rfl, e'⟩
      · rw [hold _ _ (by omega)] at hb'
        exact hI.sep j i j' i' o o' g b b' h h' hw hm hb hb'
      · obtain ⟨rfl, hm2⟩ := memF i' o' e' hm
        rw [hnew] at hb'
        obtain ⟨rfl, rfl⟩ := hI.sep j i F a o _ g b b' h hgF hw hm2 hb hb'
        rw [h] at hgF
        simp only [Option.some.injEq] at hgF
        subst hgF
        exact absurd hw.2 (by simp)
    · exact absurd hw.2 (by simp)
  · rcases cs j o ho with ⟨hl, h⟩ | ⟨rfl, rfl⟩
    · rw [hold _ _ (by omega)]; exact hI.bey j o i h hov
    · have hov : 1 ≤ i := hov
      simp only [vwB, if_true]
      rw [if_neg (by omega)]
  · obtain ⟨j, i, o, b, ho, hw, hb⟩ := hg
    rcases cs j o ho with ⟨hl, h⟩ | ⟨rfl, rfl⟩
    · rw [hold _ _ (by omega)] at hb
      exact ⟨j, i, o, b, h, hw, hb⟩
    · exact absurd hw.2 (by simp)
  · obtain ⟨j, i, o, b, ho, hm, hb⟩ := hg
    rcases cs j o ho with ⟨hl, h⟩ | ⟨rfl, e⟩
    · rw [hold _ _ (by omega)] at hb
      exact ⟨j, i, o, b, h, hm, hb⟩
    · obtain ⟨rfl, hm2⟩ := memF i o e hm
      rw [hnew] at hb
      exact ⟨F, a, _, b, hgF, hm2, hb⟩
/-- A contract that only reads, for other words of the state before. -/
theorem pu_pre {P : Program} {f : FuncId} {args args' : List SV} {H H' : List Ob} {r : SV} {v : Value} (hw : Wk (α := List Value) 0 (fun β u => OkL β args u) (fun β u => OkL β args' u) H H') (hg : gnd r = some v) (h : Pu P f args' H' r) : Pu P f args H r := by
  refine ⟨h.1, fun β w vals hI ha => ?_⟩
  obtain ⟨β1, h1, h2, _⟩ := hw β w hI (Nat.zero_le _)
  refine (h.2 β1 w vals h1 (h2 _ ha)).mono fun e w' ⟨v', q1, q2, q3⟩ => ⟨v', q1, ?_, q3⟩
  have := gnd_ok hg q2
  subst this
  exact gnd_fit _ hg
/-- A contract for objects, at a member of a family. -/
theorem pu_member {P : Program} {f : FuncId} {args args' : List SV} {H H' : List Ob} {r : SV} {v : Value} (F a : Nat) (rl : List Nat) (hg : gnd r = some v) (hv : canView (obAt H F) a) (hm : mtL rl args' (vwL H.length F a args))
    (hk : (nodupB (liveL rl H') && Nat.beq rl.length H'.length) = true) (ho : obsM rl (H ++ [vwO (obAt H F) a]) rl H') (h : Pu P f args' H' r) : Pu P f args H r :=
  pu_pre ((lwk_view F a hv).trans (lwk_mt rl hm (by
    simp only [Bool.and_eq_true] at hk ⊢
    exact ⟨⟨by cases rl <;> simp [keepB], hk.1⟩, hk.2⟩) ho)) hg h
/- ===== maps that are sets ===== -/
attribute [push_cast] eqG_self
def gI (f : Int → Bool) : Value → Option Value
  | .int _ n => bif f n then some (.bool true) else none
  | _ => none
@[push_cast] theorem gI_get (f : Int → Bool) (q : IntKind) (n : Int) : (gI f (.int q n)).getD (.bool false) = .bool (f n) := by
  simp only [gI]; cases f n <;> rfl
@[push_cast] theorem gI_some (f : Int → Bool) (q : IntKind) (n : Int) : (gI f (.int q n)).isSome = f n := by
  simp only [gI]; cases f n <;> rfl
@[push_cast] theorem gI_n (f : Int → Bool) (q : IntKind) (n : Int) (m : Nat) : upN m (gI f (.int q n)) = bif f n then m else m + 1 := by
  simp only [gI]; cases f n <;> rfl
@[push_cast] theorem noG_n (k : Value) (m : Nat) : upN m (noG k) = m + 1 := rfl
@[push_cast] theorem noG_get (k z : Value) : (noG k).getD z = z := rfl
theorem gI_no {f : Int → Bool} (h : ∀ x, f x = false) (d : TypeDesc) : eqG d (gI f) noG := fun k _ => by
  unfold gI noG; split
  · rw [h]; rfl
  · rfl
theorem gI_up {f f' : Int → Bool} {q q' : IntKind} {a : Int} (h : ∀ x, f' x = (x == a || f x)) : eqG (.int q) (gI f') (upG (gI f) (.int q' a) (.bool true)) := fun k hk => by
  cases k <;> simp only [MapKept.IsKey] at hk
  rename_i k n
  simp only [gI, upG, kq, h]
  cases n == a <;> rfl
/- ===== strings that are the same ===== -/
@[push_cast] theorem str_beq (a b : ByteArray) : (a.toList == b.toList) = decide (a = b) := by
  rw [ByteArray.toList_eq, ByteArray.toList_eq]
  by_cases h : a = b
  · simp [h]
  · have : ¬ a.data = b.data := fun e => h (by obtain ⟨x⟩ := a; obtain ⟨y⟩ := b; simpa using e)
    simp [h, this]
/- ===== an object that takes a place in a family ===== -/
mutual
def pl1 (F N c : Nat) : SV → SV
  | .p j i o => bif j == c then .p F N o else bif (j == F && i == N) then .junk else .p j i o
  | .e j i k o sz => bif j == c then .e F N k o sz else bif (j == F && i == N) then .junk else .e j i k o sz
  | .s j i o len cap sz => bif j == c then .s F N o len cap sz else bif (j == F && i == N) then .junk else .s j i o len cap sz
  | .f fn fs cs => .f fn (plL F N c fs) (plL F N c cs)
  | .a l => .a (plL F N c l)
  | .t l => .t (plL F N c l)
  | .m j => bif (j == c || (j == F && 0 == N)) then .junk else .m j
  | .v x => .v x
  | .und => .und
  | .junk => .junk
def plL (F N c : Nat) : List SV → List SV
  | [] => []
  | x :: l => pl1 F N c x :: plL F N c l
end
def plC (F N c : Nat) : Ct → Ct
  | .st cs => .st (plL F N c cs)
  | .row sz n len cap f => .row sz n len cap (fun i k => plL F N c (f i k))
  | .mp d n get => .mp d n get
  | .dead => .dead
def plO (F N c : Nat) : List Ob → List Ob
  | [] => []
  | o :: l => ⟨o.ty, o.ro, plC F N c o.ct⟩ :: plO F N c l
def plSl (F N c : Nat) : Sl → Sl
  | [] => []
  | (d, x) :: l => (d, pl1 F N c x) :: plSl F N c l
/-- A family with one more. -/
def plF (N : Nat) (o : Ob) (o1 : Ob) : Ob :=
  match o.ct, o1.ct with
  | .row sz M len cap f, .row _ _ len1 cap1 f1 => ⟨o.ty, o.ro, .row sz M (fun i => bif i == N then len1 0 else len i) (fun i => bif i == N then cap1 0 else cap i) (fun i k => bif i == N then f1 0 k else f i k)⟩
  | _, _ => o
def plH (F N c : Nat) (H : List Ob) : List Ob := plO F N c ((H.set F (plF N (obAt H F) (obAt H c))).set c deadOb)
def canPlace (N : Nat) (o o1 : Ob) : Prop :=
  match o.ct, o1.ct with
  | .row sz M _ _ _, .row sz1 N1 _ _ _ => sz = sz1 ∧ N1 = 1 ∧ o1.ty = o.ty ∧ o1.ro = o.ro ∧ o.ro = false ∧ N < M
  | _, _ => False
def pb (β : Bs) (F N c : Nat) : Bs := fun j i => if j = c then none else if j = F ∧ i = N then β c 0 else β j i
section
variable {β : Bs} {F N c : Nat}
theorem pb_ne {j i : Nat} (hc : ∀ i, 1 ≤ i → β c i = none) (x : Nat × Nat) (h : β j i = some x) : (j = c → i = 0) ∧ (j ≠ c → ¬ (j = F ∧ i = N) → pb β F N c j i = some x) := by
  refine ⟨fun e => ?_, fun e e2 => ?_⟩
  · subst e
    rcases Nat.eq_zero_or_pos i with h0 | h0
    · exact h0
    · rw [hc i h0] at h; cases h
  · unfold pb
    rw [if_neg e, if_neg e2, h]
theorem pb_new (hFc : F ≠ c) : pb β F N c F N = β c 0 := by simp [pb, hFc]
mutual
theorem pl1_ok (hFc : F ≠ c) (hc : ∀ i, 1 ≤ i → β c i = none) : ∀ (x : SV) (u : Value), Ok β x u → Ok (pb β F N c) (pl1 F N c x) u
  | .m j, u, h => by
    simp only [Ok] at h
    obtain ⟨g, b, h1, h2⟩ := h
    obtain ⟨q1, q2⟩ := pb_ne (F := F) (N := N) hc _ h1
    simp only [pl1]
    by_cases e : j = c
    · subst e
      simp only [beq_self_eq_true, Bool.true_or, cond_true, Ok]
    · have : (j == c || (j == F && 0 == N)) = (j == F && 0 == N) := by simp [e]
      rw [this]
      by_cases e2 : j = F ∧ 0 = N
      · obtain ⟨rfl, rfl⟩ := e2
        simp only [beq_self_eq_true, Bool.and_self, cond_true, Ok]
      · have e3 : (j == F && 0 == N) = false := by simpa using e2
        simp only [e3, cond_false, Ok]
        exact ⟨g, b, q2 e e2, h2⟩
  | .p j i o, u, h => by
    simp only [Ok] at h
    obtain ⟨g, b, h1, h2⟩ := h
    obtain ⟨q1, q2⟩ := pb_ne (F := F) (N := N) hc _ h1
    simp only [pl1]
    by_cases e : j = c
    · have := q1 e; subst e this
      simp only [beq_self_eq_true, cond_true, Ok]
      exact ⟨g, b, by rw [pb_new hFc]; exact h1, h2⟩
    · have : (j == c) = false := by simpa using e
      simp only [this, cond_false]
      by_cases e2 : j = F ∧ i = N
      · obtain ⟨rfl, rfl⟩ := e2
        simp only [beq_self_eq_true, Bool.and_self, cond_true, Ok]
      · have e3 : (j == F && i == N) = false := by simpa using e2
        simp only [e3, cond_false, Ok]
        exact ⟨g, b, q2 e e2, h2⟩
  | .e j i k o sz, u, h => by
    simp only [Ok] at h
    obtain ⟨g, b, h1, h2⟩ := h
    obtain ⟨q1, q2⟩ := pb_ne (F := F) (N := N) hc _ h1
    simp only [pl1]
    by_cases e : j = c
    · have := q1 e; subst e this
      simp only [beq_self_eq_true, cond_true, Ok]
      exact ⟨g, b, by rw [pb_new hFc]; exact h1, h2⟩
    · have : (j == c) = false := by simpa using e
      simp only [this, cond_false]
      by_cases e2 : j = F ∧ i = N
      · obtain ⟨rfl, rfl⟩ := e2
        simp only [beq_self_eq_true, Bool.and_self, cond_true, Ok]
      · have e3 : (j == F && i == N) = false := by simpa using e2
        simp only [e3, cond_false, Ok]
        exact ⟨g, b, q2 e e2, h2⟩
  | .s j i o len cap sz, u, h => by
    simp only [Ok] at h
    obtain ⟨A, h1, h2, h3⟩ := h
    simp only [pl1]
    by_cases e : j = c
    · subst e
      simp only [beq_self_eq_true, cond_true, Ok]
      refine ⟨A, h1, h2, fun hp => ?_⟩
      obtain ⟨g, b, h4, h5⟩ := h3 hp
      have := (pb_ne (F := F) (N := N) hc _ h4).1 rfl
      subst this
      exact ⟨g, b, by rw [pb_new hFc]; exact h4, h5⟩
    · have : (j == c) = false := by simpa using e
      simp only [this, cond_false]
      by_cases e2 : j = F ∧ i = N
      · obtain ⟨rfl, rfl⟩ := e2
        simp only [beq_self_eq_true, Bool.and_self, cond_true, Ok]
      · have e3 : (j == F && i == N) = false := by simpa using e2
        simp only [e3, cond_false, Ok]
        refine ⟨A, h1, h2, fun hp => ?_⟩
        obtain ⟨g, b, h4, h5⟩ := h3 hp
        exact ⟨g, b, (pb_ne (F := F) (N := N) hc _ h4).2 e e2, h5⟩
  | .f fn fs cs, u, h => by
    simp only [Ok, pl1] at h ⊢
    obtain ⟨xs, ys, h1, h2, h3⟩ := h
    exact ⟨xs, ys, h1, plL_ok hFc hc _ _ h2, plL_ok hFc hc _ _ h3⟩
  | .a l, u, h => by
    simp only [Ok, pl1] at h ⊢
    obtain ⟨xs, h1, h2⟩ := h
    exact ⟨xs, h1, plL_ok hFc hc _ _ h2⟩
  | .t l, u, h => by
    simp only [Ok, pl1] at h ⊢
    obtain ⟨xs, h1, h2⟩ := h
    exact ⟨xs, h1, plL_ok hFc hc _ _ h2⟩
  | .v x, u, h => by simpa only [Ok, pl1] using h
  | .und, u, h => by simpa only [Ok, pl1] using h
  | .junk, u, h => by simp only [Ok, pl1]
theorem plL_ok (hFc : F ≠ c) (hc : ∀ i, 1 ≤ i → β c i = none) : ∀ (l : List SV) (us : List Value), OkL β l us → OkL (pb β F N c) (plL F N c l) us
  | [], _, h => by simpa only [OkL, plL] using h
  | x :: l, us, h => by
    simp only [OkL, plL] at h ⊢
    obtain ⟨u, us', h1, h2, h3⟩ := h
    exact ⟨u, us', h1, pl1_ok hFc hc _ _ h2, plL_ok hFc hc _ _ h3⟩
end
theorem plL_get : ∀ (l : List SV) (k : Nat), (plL F N c l)[k]? = (l[k]?).map (pl1 F N c)
  | [], k => by simp [plL]
  | x :: l, 0 => by simp [plL]
  | x :: l, k + 1 => by simpa [plL] using plL_get l k
theorem plL_len : ∀ (l : List SV), (plL F N c l).length = l.length
  | [] => rfl
  | x :: l => by simp [plL, plL_len l]
theorem plO_get : ∀ (H : List Ob) (j : Nat), (plO F N c H)[j]? = (H[j]?).map fun o => ⟨o.ty, o.ro, plC F N c o.ct⟩
  | [], j => by simp [plO]
  | o :: l, 0 => by simp [plO]
  | o :: l, j + 1 => by simpa [plO] using plO_get l j
theorem plO_len : ∀ (H : List Ob), (plO F N c H).length = H.length
  | [] => rfl
  | o :: l => by simp [plO, plO_len l]
theorem plS_ok (hFc : F ≠ c) (hc : ∀ i, 1 ≤ i → β c i = none) {a : Act} : ∀ {σ : Sl}, SlotsOk β σ a → SlotsOk (pb β F N c) (plSl F N c σ) a := by
  have key : ∀ (σ : Sl) d, look (plSl F N c σ) d = pl1 F N c (look σ d) := by
    intro σ d
    induction σ with
    | nil => simp [plSl, look, pl1]
    | cons p l ih =>
      obtain ⟨k, x⟩ := p
      simp only [plSl, look]
      cases (k == d)
      · simpa only [lk] using ih
      · simp only [lk]
  intro σ h d
  rw [key]
  exact pl1_ok hFc hc _ _ (h d)
end
theorem wk_place {α : Type} {n0 : Nat} {A A' : Bs → α → Prop} {H : List Ob} (F N c : Nat) (hn : n0 ≤ c) (hnF : n0 ≤ F) (hFc : F ≠ c) (hj : canPlace N (obAt H F) (obAt H c))
    (hA : ∀ β, (∀ i, 1 ≤ i → β c i = none) → ∀ u, A β u → A' (pb β F N c) u) : Wk n0 A A' H (plH F N c H) := by
  refine wk_of0 ?_
  intro β w hI hn0
  unfold canPlace at hj
  split at hj
  case h_2 => exact hj.elim
  rename_i sz M len cap f sz1 N1 len1 cap1 f1 hct hct1
  obtain ⟨rfl, rfl, hty, hro, hrF, hNM⟩ := hj
  have hgF := obAt_get (H := H) (j := F) (by rw [hct]; intro e; cases e)
  have hgc := obAt_get (H := H) (j := c) (by rw [hct1]; intro e; cases e)
  have hlF := (List.getElem?_eq_some_iff.1 hgF).1
  have hlc := (List.getElem?_eq_some_iff.1 hgc).1
  have hF : ∀ i, M ≤ i → β F i = none := fun i hi => hI.bey F _ i hgF (by unfold Ob.over; rw [hct]; exact hi)
  have hc : ∀ i, 1 ≤ i → β c i = none := fun i hi => hI.bey c _ i hgc (by unfold Ob.over; rw [hct1]; exact hi)
  have hother : ∀ j i, j ≠ c → j ≠ F → pb β F N c j i = β j i := fun j i h1 h2 => by simp [pb, h1, h2]
  have hold : ∀ i, i ≠ N → pb β F N c F i = β F i := fun i h => by simp [pb, hFc, h]
  have hcn : ∀ i, pb β F N c c i = none := fun i => by simp [pb]
  have elem : ∀ (l : List SV) (k : Nat) (x : SV), (plL F N c l)[k]? = some x → ∃ y, l[k]? = some y ∧ ∀ u, Ok β y u → Ok (pb β F N c) x u := fun l k x hx => by
    rw [plL_get] at hx
    cases hl : l[k]? with
    | none => rw [hl] at hx; cases hx
    | some y => rw [hl] at hx; simp at hx; subst hx; exact ⟨y, rfl, fun u hu => pl1_ok hFc hc _ _ hu⟩
  -- the objects
  have cases' : ∀ j o, (plH F N c H)[j]? = some o → (j = c ∧ o.ct = .dead) ∨ (j = F ∧ o = ⟨(obAt H F).ty, (obAt H F).ro, .row sz M (fun i => bif i == N then len1 0 else len i) (fun i => bif i == N then cap1 0 else cap i) (fun i k => plL F N c (bif i == N then f1 0 k else f i k))⟩) ∨ (j ≠ c ∧ j ≠ F ∧ ∃ p, H[j]? = some p ∧ o = ⟨p.ty, p.ro, plC F N c p.ct⟩) := by
    intro j o ho
    unfold plH at ho
    rw [plO_get] at ho
    by_cases e : j = c
    · subst e
      rw [List.getElem?_set_self (by simpa using hlc)] at ho
      simp at ho
      subst ho
      exact .inl ⟨rfl, rfl⟩
    · rw [List.getElem?_set_ne (Ne.symm e)] at ho
      by_cases e2 : j = F
      · subst e2
        rw [List.getElem?_set_self hlF] at ho
        simp only [Option.map_some, Option.some.injEq] at ho
        refine .inr (.inl ⟨rfl, ?_⟩)
        rw [← ho]
        simp only [plF, hct, hct1, plC]
      · rw [List.getElem?_set_ne (Ne.symm e2)] at ho
        cases hp : H[j]? with
        | none => rw [hp] at ho; cases ho
        | some p => rw [hp] at ho; simp at ho; exact .inr (.inr ⟨e, e2, p, rfl, ho.symm⟩)
  -- where a member came from
  have src : ∀ j o i g b, (plH F N c H)[j]? = some o → o.mem i → pb β F N c j i = some (g, b) → ∃ j0 i0 p, H[j0]? = some p ∧ p.mem i0 ∧ β j0 i0 = some (g, b) ∧ (o.own i → p.own i0) ∧ ((j = F ∧ i = N ∧ j0 = c ∧ i0 = 0) ∨ (j0 = j ∧ i0 = i ∧ j ≠ c ∧ ¬ (j = F ∧ i = N))) := by
    intro j o i g b ho hm hb
    rcases cases' j o ho with ⟨rfl, hd⟩ | ⟨rfl, rfl⟩ | ⟨h1, h2, p, hp, rfl⟩
    · rw [hcn] at hb; cases hb
    · by_cases e : i = N
      · subst e
        rw [pb_new hFc] at hb
        refine ⟨c, 0, _, hgc, ?_, hb, fun ho => ?_, .inl ⟨rfl, rfl, rfl, rfl⟩⟩
        · unfold Ob.mem at hm ⊢
          rw [hct1]
          refine ⟨Nat.one_pos, fun hr => ?_, fun hr => ?_⟩
          · have := hm.2.1 (by rw [← hro]; exact hr)
            simpa using this
          · have := hm.2.2 (by rw [← hro]; exact hr)
            simpa using this
        · unfold Ob.own at ho ⊢
          rw [hct1]
          exact ⟨Nat.one_pos, by rw [hro]; exact ho.2.1, by simpa using ho.2.2⟩
      · rw [hold i e] at hb
        have hi : i < M := hm.1
        have eb : (i == N) = false := by simpa using e
        refine ⟨j, i, _, hgF, ?_, hb, fun ho => ?_, .inr ⟨rfl, rfl, hFc, fun h => e h.2⟩⟩
        · unfold Ob.mem at hm ⊢
          rw [hct]
          refine ⟨hi, fun hr => ?_, fun hr => ?_⟩
          · have := hm.2.1 hr
            simpa [eb] using this
          · have := hm.2.2 hr
            simpa [eb] using this
        · unfold Ob.own at ho ⊢
          rw [hct]
          exact ⟨hi, ho.2.1, by simpa [eb] using ho.2.2⟩
    · rw [hother j i h1 h2] at hb
      refine ⟨j, i, p, hp, ?_, hb, fun ho => ?_, .inr ⟨rfl, rfl, h1, fun h => h2 h.1⟩⟩
      · unfold Ob.mem at hm ⊢
        cases hpc : p.ct <;> rw [hpc] at hm <;> first | exact hm | simpa only [plC] using hm
      · unfold Ob.own at ho ⊢
        cases hpc : p.ct <;> rw [hpc] at ho <;> first | exact ho | simpa only [plC] using ho
  refine ⟨pb β F N c, ⟨fun j o ho => ?_, fun j i hj => ?_, fun j i j' i' o o' g b b' ho ho' hw hm hb hb' => ?_, fun j o i ho hv => ?_⟩, hA β hc, fun j i x hj hx => (pb_ne (F := F) (N := N) hc x hx).2 (by omega) (by omega), fun g hg => ?_, fun g hg => ?_, by simpa [plH, plO_len] using hn0⟩
  · rcases cases' j o ho with ⟨rfl, hd⟩ | ⟨rfl, rfl⟩ | ⟨h1, h2, p, hp, rfl⟩
    · unfold ObOk; rw [hd]; trivial
    · have oF := hI.ob _ _ hgF
      have oc := hI.ob _ _ hgc
      unfold ObOk at oF oc ⊢
      rw [hct] at oF
      rw [hct1] at oc
      simp only at oF oc ⊢
      rw [hro] at oc
      cases hr : (obAt H j).ro with
      | true => rw [hrF] at hr; cases hr
      | false =>
        rw [hr] at oF oc
        simp only [Bool.false_eq_true, if_false] at oF oc ⊢
        intro i hi
        by_cases e : i = N
        · subst e
          simp only [beq_self_eq_true, cond_true]
          rw [pb_new hFc]
          rcases oc 0 Nat.one_pos with h | ⟨g, cur, q1, q2, q3, q4, q5, q6⟩
          · exact .inl h
          · refine .inr ⟨g, cur, q1, by rw [← hty]; exact q2, q3, q4, q5, fun k hk => ⟨by rw [plL_len]; exact (q6 k hk).1, fun c' x hx => ?_⟩⟩
            obtain ⟨y, r1, r2⟩ := elem _ _ _ hx
            obtain ⟨u, u1, u2⟩ := (q6 k hk).2 c' y r1
            exact ⟨u, u1, r2 u u2⟩
        · have eb : (i == N) = false := by simpa using e
          simp only [eb, cond_false]
          rw [hold i e]
          rcases oF i (by omega) with h | ⟨g, cur, q1, q2, q3, q4, q5, q6⟩
          · exact .inl h
          · refine .inr ⟨g, cur, q1, q2, q3, q4, q5, fun k hk => ⟨by rw [plL_len]; exact (q6 k hk).1, fun c' x hx => ?_⟩⟩
            obtain ⟨y, r1, r2⟩ := elem _ _ _ hx
            obtain ⟨u, u1, u2⟩ := (q6 k hk).2 c' y r1
            exact ⟨u, u1, r2 u u2⟩
    · have op := hI.ob j p hp
      have hb : ∀ i, pb β F N c j i = β j i := fun i => hother j i h1 h2
      unfold ObOk at op ⊢
      cases hpc : p.ct with
      | st cs =>
        rw [hpc] at op
        obtain ⟨g, cur, q1, q2, q3⟩ := op
        exact ⟨g, cur, (hb 0).trans q1, q2, plL_ok hFc hc _ _ q3⟩
      | mp d n get =>
        rw [hpc] at op
        obtain ⟨g, es, clk, q1, q2, q3⟩ := op
        exact ⟨g, es, clk, (hb 0).trans q1, q2, q3⟩
      | row sz2 N2 len2 cap2 f2 =>
        rw [hpc] at op
        simp only [plC] at op ⊢
        cases hr : p.ro with
        | true =>
          rw [hr] at op
          simp only [if_true] at op ⊢
          intro i hi k hk
          obtain ⟨g, b, q1, q2, q3⟩ := op i hi k hk
          refine ⟨g, b, (hb i).trans q1, q2, fun c' x hx => ?_⟩
          obtain ⟨y, r1, r2⟩ := elem _ _ _ hx
          obtain ⟨u, u1, u2⟩ := q3 c' y r1
          exact ⟨u, u1, r2 u u2⟩
        | false =>
          rw [hr] at op
          simp only [Bool.false_eq_true, if_false] at op ⊢
          intro i hi
          rw [hb i]
          rcases op i hi with h | ⟨g, cur, q1, q2, q3, q4, q5, q6⟩
          · exact .inl h
          · refine .inr ⟨g, cur, q1, q2, q3, q4, q5, fun k hk => ⟨by rw [plL_len]; exact (q6 k hk).1, fun c' x hx => ?_⟩⟩
            obtain ⟨y, r1, r2⟩ := elem _ _ _ hx
            obtain ⟨u, u1, u2⟩ := (q6 k hk).2 c' y r1
            exact ⟨u, u1, r2 u u2⟩
      | dead => simp only [plC]
  · have hj' : H.length ≤ j := by simpa [plH, plO_len] using hj
    rw [hother j i (by omega) (by omega)]
    exact hI.out j i hj'
  · obtain ⟨j0, i0, p, q1, q2, q3, q4, q5⟩ := src j o i g b ho (Ob.own_mem hw) hb
    obtain ⟨j1, i1, p', r1, r2, r3, r4, r5⟩ := src j' o' i' g b' ho' hm hb'
    obtain ⟨e1, e2⟩ := hI.sep j0 i0 j1 i1 p p' g b b' q1 r1 (q4 hw) r2 q3 r3
    rcases q5 with ⟨a1, a2, a3, a4⟩ | ⟨a1, a2, a3, a4⟩ <;> rcases r5 with ⟨b1, b2, b3, b4⟩ | ⟨b1, b2, b3, b4⟩
    · exact ⟨a1.trans b1.symm, a2.trans b2.symm⟩
    · exact absurd (b1.symm.trans (e1.symm.trans a3)) b3
    · exact absurd (a1.symm.trans (e1.trans b3)) a3
    · exact ⟨a1.symm.trans (e1.trans b1), a2.symm.trans (e2.trans b2)⟩
  · rcases cases' j o ho with ⟨rfl, hd⟩ | ⟨rfl, rfl⟩ | ⟨h1, h2, p, hp, rfl⟩
    · exact hcn i
    · have hv : M ≤ i := hv
      rw [hold i (by omega)]
      exact hF i hv
    · rw [hother j i h1 h2]
      refine hI.bey j p i hp ?_
      unfold Ob.over at hv ⊢
      cases hpc : p.ct <;> rw [hpc] at hv <;> first | exact hv | simpa only [plC] using hv
  · obtain ⟨j, i, o, b, h1, h2, h3⟩ := hg
    obtain ⟨j0, i0, p, q1, q2, q3, q4, q5⟩ := src j o i g b h1 (Ob.own_mem h2) h3
    exact ⟨j0, i0, p, b, q1, q4 h2, q3⟩
  · obtain ⟨j, i, o, b, h1, h2, h3⟩ := hg
    obtain ⟨j0, i0, p, q1, q2, q3, q4, q5⟩ := src j o i g b h1 h2 h3
    exact ⟨j0, i0, p, b, q1, q2, q3⟩
theorem swk_place {n0 : Nat} {σ : Sl} {H : List Ob} (F N c : Nat) (hn : n0 ≤ c) (hnF : n0 ≤ F) (hFc : F ≠ c) (hj : canPlace N (obAt H F) (obAt H c)) : SWk n0 σ H (plSl F N c σ) (plH F N c H) :=
  wk_place F N c hn hnF hFc hj fun _ h2 _ ha => plS_ok hFc h2 ha
attribute [push_cast] pl1 plL plC plO plSl plF plH canPlace
@[push_cast] theorem appB_two {ty : TypeId} {ro : Bool} {sz' N : Nat} {ln cp : Nat → Nat} {f : Nat → Nat → List SV} {j e sz len cap n by_ : Nat} {new : Nat → List SV} {H : List Ob} {K : SV → List Ob → Prop} : appB ⟨ty, ro, .row sz' (N + 2) ln cp f⟩ j e sz len cap n by_ new H K = False := rfl
@[push_cast] theorem appM_one {ty : TypeId} {ro : Bool} {sz' : Nat} {ln cp : Nat → Nat} {f : Nat → Nat → List SV} {j i o s1 e sz len cap n by_ : Nat} {new : Nat → List SV} {H : List Ob} {K : SV → List Ob → Prop} : appM ⟨ty, ro, .row sz' 1 ln cp f⟩ j i o s1 e sz len cap n by_ new H K = False := rfl
@[push_cast] theorem appM_dead {j i o s1 e sz len cap n by_ : Nat} {new : Nat → List SV} {H : List Ob} {K : SV → List Ob → Prop} : appM deadOb j i o s1 e sz len cap n by_ new H K = False := rfl
/-- As many members as a family may ever have. -/
def big : Nat := 1000000
theorem big_eq : big = 1000000 := rfl
/- ===== the code from a cut on, shown once for several states ===== -/
end Go.Proofs.YtolioflblegneaaGreat
