/- Rounds of a range over a function: the executor in a round's frame. No program in sight. A range over a function: the state between rounds, one round, the statement. No program in sight. The region in which an iterator calls yield with two values. No program in sight. An iterator's body, piece by piece: pieces without yield, loops round by round. No program in sight. -/
import Derived.Test.YtolioflblegneaaGreatSx
import Derived.RangeFuncIn
import Derived.RangeFuncRecord
import Derived.RangeFuncLeaves
import Derived.RangeFuncCalls
import Derived.OrdersIn
set_option maxRecDepth 100000
set_option linter.unusedSimpArgs false
set_option linter.unusedVariables false
namespace Go.Proofs.YtolioflblegneaaGreat
open Go.RowKit
/-- The fence that lets all in, in a round. -/
abbrev RF (l : Nat) : Fence := Fence.wide.inRound l
def isDefer (o : Op) : Bool :=
  match o with
  | .defer _ => true
  | _ => false
theorem upon_in {P : Program} {o : Oper} {a : Act} {l n : Nat} {next : Act → World → Prop} {Q : Exit → Act → World → Prop} {x : Result Next} (h : o.upon P a next Q x) : o.uponIn (RF l) n P a next Q x := by
  cases x with
  | ok v w =>
    cases v with
    | value v => exact h
    | skip => exact h
    | defer d => exact h
    | enter f args => exact ⟨fun e => by simp [Fence.wide] at e, (callsIn_wide.2 h).inRound l⟩
    | row row args =>
      refine ⟨fun e => by simp [Fence.wide] at e, fun c cs _ => ?_⟩
      obtain ⟨v, w', h1, h2⟩ := h c cs
      exact ⟨v, w', h1, stepsIn_wide.2 h2⟩
    | _ => exact h.elim
  | halt e w =>
    cases e with
    | panic v => exact h
    | _ => exact h.elim
theorem oper_in {P : Program} {o : Oper} {a : Act} {w : World} {l n : Nat} {next : Act → World → Prop} {Q : Exit → Act → World → Prop} (hd : isDefer o.op = false) (h : o.wp P a w next Q) : o.wpIn (RF l) n P a w next Q := by
  refine ⟨fun _ _ => trivial, ?_⟩
  rw [Oper.semAt_eq _ _ _ (fun c hc => by rw [hc] at hd; cases hd)]
  exact upon_in h
theorem oper_in_mono {P : Program} {o : Oper} {a : Act} {w : World} {l n : Nat} {next next' : Act → World → Prop} {Q : Exit → Act → World → Prop} (hn : ∀ a w, next a w → next' a w) (h : o.wpIn (RF l) n P a w next Q) : o.wpIn (RF l) n P a w next' Q := Oper.wpIn_mono hn h
theorem ops_in {P : Program} {ops : Array Oper} {l n : Nat} {Q : Exit → Act → World → Prop} (hQ : ¬ LetsOut Q) (hd : ∀ (i : Nat) (o : Oper), ops[i]? = some o → isDefer o.op = false) : ∀ (is : List Nat) (a : Act) (w : World), wpOps P ops Q is a w → wpOpsIn (RF l) n P ops Q is a w
  | [], _, _, h => h
  | i :: is, a, w, h => by
    unfold wpOps at h
    unfold wpOpsIn
    split at h
    · rename_i ho
      simp only [ho]
      exact ops_in hQ hd is a w h
    · rename_i o ho
      simp only [ho]
      split at h
      · rename_i hw
        rw [if_pos hw]
        rcases h with h | h
        · exact oper_in_mono (fun a w => ops_in hQ hd is a w) (oper_in (hd i o ho) h)
        · exact absurd h.2 hQ
      · rename_i hw
        rw [if_neg hw]
        exact ⟨fun _ _ => trivial, ops_in hQ hd is _ w h⟩
def okRnd (nt : Nat) (pl : List (Nat × Plan)) : Code → Bool
  | .region id ops draw => okReg nt (findP pl id) ops.toList draw && ops.toList.all (fun o => !isDefer o.op)
  | .seq a b => okRnd nt pl a && (!isCut pl b && okRnd nt pl b)
  | .cond _ t e => okRnd nt pl t && okRnd nt pl e
  | .block _ c => okRnd nt pl c
  | .skip => true
  | .label _ => true
  | .exit _ => true
  | .ret => true
  | _ => false
/-- Where a piece of code ends. -/
def EndQ (E : Env) (K : Kt) (β0 : Bs) (H0 : List Ob) (w0 : World) (e : Exit) (a' : Act) (w' : World) : Prop := ∃ β' σ' H', K e σ' H' ∧ St E β0 H0 w0 β' σ' H' a' w'
theorem any_in {P : Program} {ops : Array Oper} {l n id : Nat} {Q : Exit → Act → World → Prop} {a : Act} {w : World} (hm : P.follows .mixedOrders = true) (hQ : ¬ LetsOut Q) (hd : ∀ (i : Nat) (o : Oper), ops[i]? = some o → isDefer o.op = false)
    (h : wpAny P .any ops Q ops.size (Array.replicate ops.size false) a { w with drawn := w.drawn + 1 }) : (Code.region id ops true).wpIn (RF l) n P Q a w :=
  wpIn_region_draw fun t => by
    simp only [Region.schedule, hm, Bool.true_or, if_true]
    exact ops_in hQ hd _ a _ (wpAny_sound ops.size t _ a _ h)
theorem list_in {P : Program} {ops : Array Oper} {l n id : Nat} {Q : Exit → Act → World → Prop} {a : Act} {w : World} (hQ : ¬ LetsOut Q) (hd : ∀ (i : Nat) (o : Oper), ops[i]? = some o → isDefer o.op = false)
    (h : wpList P ops Q ops.toList a w) : (Code.region id ops false).wpIn (RF l) n P Q a w :=
  wpIn_region (ops_in hQ hd _ a w (by rw [List.range_eq_range', ← Array.length_toList, wpOps_eq_wpList ops.toList 0 (by simp)]; exact h))
/-- The executor in a round's frame. -/
theorem exR_sound {E : Env} {l n : Nat} (hm : E.P.follows .mixedOrders = true) : ∀ (c : Code) (σ : Sl) (H : List Ob) (K : Kt), okRnd E.nt E.pl c = true → ex E c σ H K → ∀ β0 H0 w0 β a w, St E β0 H0 w0 β σ H a w → c.wpIn (RF l) n E.P (EndQ E K β0 H0 w0) a w
  | .skip, σ, H, K, _, h => fun β0 H0 w0 β a w hs => wpIn_skip ⟨β, σ, H, by simpa only [ex] using h, hs⟩
  | .label _, σ, H, K, _, h => fun β0 H0 w0 β a w hs => wpIn_label ⟨β, σ, H, by simpa only [ex] using h, hs⟩
  | .exit id, σ, H, K, _, h => fun β0 H0 w0 β a w hs => wpIn_exit ⟨β, σ, H, by simpa only [ex] using h, hs⟩
  | .ret, σ, H, K, _, h => fun β0 H0 w0 β a w hs => wpIn_ret ⟨β, σ, H, by simpa only [ex] using h, hs⟩
  | .seq x y, σ, H, K, hok, h => fun β0 H0 w0 β a w hs => by
    simp only [okRnd, Bool.and_eq_true, Bool.not_eq_true'] at hok
    simp only [ex, cutG, hok.2.1] at h
    refine wpIn_seq (wpIn_mono (exR_sound hm x σ H _ hok.1 h β0 H0 w0 β a w hs) ?_)
    rintro e a' w' ⟨β', σ', H', hk, hs'⟩
    cases e with
    | normal =>
      simp only [seqK] at hk
      exact exR_sound hm y σ' H' K hok.2.2 hk β0 H0 w0 β' a' w' hs'
    | _ => exact ⟨β', σ', H', hk, hs'⟩
  | .cond c t e, σ, H, K, hok, h => fun β0 H0 w0 β a w hs => by
    simp only [okRnd, Bool.and_eq_true] at hok
    simp only [ex] at h
    unfold condK at h
    split at h
    · rename_i b hb
      have hv := ev_ok hs.slots c
      rw [hb] at hv
      have hv := ok_v hv
      have hlit : St E β0 H0 w0 β (litC c b σ) H a w := by
        cases c with
        | tmp d => exact st_look hs (by simp only [Ok]; exact hv)
        | _ => exact hs
      cases b with
      | true =>
        simp only [branch_true, sidK] at h
        exact wpIn_cond_true hv (exR_sound hm t _ H K hok.1 h β0 H0 w0 β a w hlit)
      | false =>
        simp only [branch_false, sidK] at h
        exact wpIn_cond_false hv (exR_sound hm e _ H K hok.2 h β0 H0 w0 β a w hlit)
    · exact h.elim
  | .block id c, σ, H, K, hok, h => fun β0 H0 w0 β a w hs => by
    simp only [okRnd] at hok
    simp only [ex] at h
    refine wpIn_block (wpIn_mono (exR_sound hm c σ H _ hok h β0 H0 w0 β a w hs) ?_)
    rintro e a' w' ⟨β', σ', H', hk, hs'⟩
    cases e with
    | exit i =>
      simp only [blkK] at hk
      simp only [Exit.inBlock]
      by_cases e1 : i = id
      · subst e1
        simp only [beq_self_eq_true, swK, nrmK] at hk
        rw [if_pos rfl]
        exact ⟨β', σ', H', hk, hs'⟩
      · have : (i == id) = false := by simpa using e1
        rw [this] at hk
        simp only [swK, outK] at hk
        rw [if_neg e1]
        exact ⟨β', σ', H', hk, hs'⟩
    | _ => exact ⟨β', σ', H', hk, hs'⟩
  | .region id ops draw, σ, H, K, hok0, h => fun β0 H0 w0 β a w hs => by
    simp only [okRnd, Bool.and_eq_true] at hok0
    obtain ⟨hok, hdf⟩ := hok0
    have hdf : ∀ (i : Nat) (o : Oper), ops[i]? = some o → isDefer o.op = false := fun i o ho => by
      have := List.all_eq_true.1 hdf o (by rw [Array.mem_toList_iff]; exact Array.mem_of_getElem? ho)
      simpa using this
    simp only [okReg, Bool.and_eq_true, List.all_eq_true] at hok
    simp only [ex] at h
    have hK : ∀ β σ H a w, St E β0 H0 w0 β σ H a w → regK K σ H → (fun e a' w' => e = .normal ∧ EndQ E K β0 H0 w0 e a' w') .normal a w := fun β σ H a w hs h => ⟨rfl, β, σ, H, h, hs⟩
    have hQ : ¬ LetsOut (fun e a' w' => e = .normal ∧ EndQ E K β0 H0 w0 e a' w') := by
      rintro ⟨a, w, h, _⟩
      cases h
    have hops : ∀ o ∈ ops.toList, dstOk E.nt o = true ∧ gdOk E.nt ops.toList o = true := fun o ho => hok.1 o ho
    refine wpIn_mono (Q := fun e a' w' => e = .normal ∧ EndQ E K β0 H0 w0 e a' w') ?_ fun e a' w' h => h.2
    cases draw with
    | false =>
      simp only [swK, drN] at h
      have := exN_sound (Q := fun e a' w' => e = .normal ∧ EndQ E K β0 H0 w0 e a' w') (ops := ops.toList) hK ops.toList β σ H a w hops hs h
      exact list_in hQ hdf (by simpa using this)
    | true =>
      simp only [swK] at h
      have hd := hok.2
      simp only [Bool.not_true, Bool.false_or] at hd
      cases hpl : findP E.pl id with
      | none =>
        simp only [hpl, drX] at h
        simp only [hpl, okDraw] at hd
        have := exQ_sound (Q := fun e a' w' => e = .normal ∧ EndQ E K β0 H0 w0 e a' w') (ops := ops.toList) (w := w) (β := β) (H := H) hK ops.toList σ a hops hs h
        refine any_in hm hQ hdf ?_
        rw [show ops = ops.toList.toArray by simp]
        cases hq : Nat.beq (qn ops.toList) ops.toList.length with
        | true =>
          have hq' : qn ops.toList = ops.toList.length := Nat.eq_of_beq_eq_true hq
          rw [hq] at hd
          simp only [cond_true] at hd
          rw [hq'] at this
          simp only [List.take_length, List.drop_length] at this
          exact any_calm hd this
        | false =>
          rw [hq] at hd
          simp only [cond_false] at hd
          exact any_calm_tail _ hd this
      | some p =>
        simp only [hpl, drX] at h
        simp only [hpl, okDraw, Bool.and_eq_true] at hd
        have h : ∃ K2 : Sl → List Ob → Prop, exT E (unJ p) ops.toList σ H K2 ∧ ∀ β σ H a w, St E β0 H0 w0 β σ H a w → K2 σ H → ∃ β' σ' H', K .normal σ' H' ∧ St E β0 H0 w0 β' σ' H' a w := by
          cases p with
          | jn p =>
            obtain ⟨σ', H', h1, h2⟩ := h
            refine ⟨_, h1, fun β σ H a w hs hw => ?_⟩
            obtain ⟨β', hs'⟩ := st_wk hs hw
            exact ⟨β', σ', H', h2, hs'⟩
          | jx p =>
            obtain ⟨X, σ', H', R, h1, h2⟩ := h
            refine ⟨_, h1, fun β σ H a w hs ⟨x, hx, hw⟩ => ?_⟩
            obtain ⟨β', hs'⟩ := st_wk hs hw
            exact ⟨β', σ' x, H' x, h2 x hx, hs'⟩
          | _ => exact ⟨_, h, fun β σ H a w hs hk => ⟨β, σ, H, hk, hs⟩⟩
        obtain ⟨K2, h, hK2⟩ := h
        have hdr : Below w.heap.size w { w with drawn := w.drawn + 1 } := (Below.refl _ _).drew
        have := exT_sound (Q := fun e a' w' => e = .normal ∧ EndQ E K β0 H0 w0 e a' w') (ops := ops.toList) (fun c a w h => by cases h.1) (fun β σ H a w hs h => ⟨rfl, hK2 β σ H a w hs h⟩) hd.1 hops (unJ p) β σ H a { w with drawn := w.drawn + 1 } hd.2 ⟨hs.inv.below hdr, hs.slots, hs.size, hs.defers.fr (Fr.below (n0 := 0) hdr), hs.fr.trans (Fr.below hdr), hs.n0⟩ h
        have e1 : ops.toList.toArray = ops := by simp
        have e2 : ops.toList.length = ops.size := by simp
        rw [e1, e2] at this
        exact any_in hm hQ hdf this
end Go.Proofs.YtolioflblegneaaGreat
namespace Go.Proofs.YtolioflblegneaaGreat
open Go.RowKit
mutual
/-- A value that names objects below N alone. -/
def refB (N : Nat) : SV → Bool
  | .p j _ _ => decide (j < N)
  | .e j _ _ _ _ => decide (j < N)
  | .s j _ _ _ _ _ => decide (j < N)
  | .f _ fs cs => refL N fs && refL N cs
  | .a l => refL N l
  | .t l => refL N l
  | .v _ => true
  | .m j => decide (j < N)
  | .und => true
  | .junk => true
def refL (N : Nat) : List SV → Bool
  | [] => true
  | x :: l => refB N x && refL N l
end
def refS (N : Nat) : Sl → Bool
  | [] => true
  | (_, x) :: l => refB N x && refS N l
/-- The places of the objects below N stay. -/
def BKeep (N : Nat) (β β' : Bs) : Prop := ∀ j i x, j < N → β j i = some x → β' j i = some x
theorem BKeep.refl (N : Nat) (β : Bs) : BKeep N β β := fun _ _ _ _ h => h
theorem BKeep.trans {N : Nat} {β β1 β2 : Bs} (h : BKeep N β β1) (h' : BKeep N β1 β2) : BKeep N β β2 := fun j i x hj hx => h' j i x hj (h j i x hj hx)
theorem BKeep.mono {N M : Nat} {β β' : Bs} (h : BKeep N β β') (hm : M ≤ N) : BKeep M β β' := fun j i x hj hx => h j i x (by omega) hx
mutual
theorem ok_keep {N : Nat} {β β' : Bs} (hb : BKeep N β β') : ∀ (x : SV) (u : Value), refB N x = true → Ok β x u → Ok β' x u
  | .v _, _, _, h => h
  | .p j i c, u, hr, h => by
    simp only [refB, decide_eq_true_eq] at hr
    simp only [Ok] at h ⊢
    obtain ⟨g, b, h1, h2⟩ := h
    exact ⟨g, b, hb _ _ _ hr h1, h2⟩
  | .e j i k c sz, u, hr, h => by
    simp only [refB, decide_eq_true_eq] at hr
    simp only [Ok] at h ⊢
    obtain ⟨g, b, h1, h2⟩ := h
    exact ⟨g, b, hb _ _ _ hr h1, h2⟩
  | .s j i o len cap sz, u, hr, h => by
    simp only [refB, decide_eq_true_eq] at hr
    simp only [Ok] at h ⊢
    obtain ⟨A, h1, h0, h2⟩ := h
    exact ⟨A, h1, h0, fun hc => let ⟨g, b, h3, h4⟩ := h2 hc; ⟨g, b, hb _ _ _ hr h3, h4⟩⟩
  | .f fn fs cs, u, hr, h => by
    simp only [refB, Bool.and_eq_true] at hr
    simp only [Ok] at h ⊢
    obtain ⟨xs, ys, h1, h2, h3⟩ := h
    exact ⟨xs, ys, h1, okL_keep hb _ _ hr.1 h2, okL_keep hb _ _ hr.2 h3⟩
  | .a l, u, hr, h => by
    simp only [refB] at hr
    simp only [Ok] at h ⊢
    obtain ⟨xs, h1, h2⟩ := h
    exact ⟨xs, h1, okL_keep hb _ _ hr h2⟩
  | .t l, u, hr, h => by
    simp only [refB] at hr
    simp only [Ok] at h ⊢
    obtain ⟨xs, h1, h2⟩ := h
    exact ⟨xs, h1, okL_keep hb _ _ hr h2⟩
  | .m j, u, hr, h => by
    simp only [refB, decide_eq_true_eq] at hr
    simp only [Ok] at h ⊢
    obtain ⟨g, b, h1, h2⟩ := h
    exact ⟨g, b, hb _ _ _ hr h1, h2⟩
  | .und, _, _, h => h
  | .junk, _, _, _ => by simp only [Ok]
theorem okL_keep {N : Nat} {β β' : Bs} (hb : BKeep N β β') : ∀ (l : List SV) (us : List Value), refL N l = true → OkL β l us → OkL β' l us
  | [], _, _, h => h
  | x :: l, us, hr, h => by
    simp only [refL, Bool.and_eq_true] at hr
    simp only [OkL] at h ⊢
    obtain ⟨u, us', h1, h2, h3⟩ := h
    exact ⟨u, us', h1, ok_keep hb _ _ hr.1 h2, okL_keep hb _ _ hr.2 h3⟩
end
theorem refS_look {N : Nat} : ∀ {σ : Sl} (d : Nat), refS N σ = true → refB N (look σ d) = true
  | [], d, _ => rfl
  | (k, x) :: l, d, h => by
    simp only [refS, Bool.and_eq_true] at h
    simp only [look]
    cases (k == d) with
    | true => exact h.1
    | false => exact refS_look d h.2
theorem slots_keep {N : Nat} {β β' : Bs} {σ : Sl} {a : Act} (hb : BKeep N β β') (hr : refS N σ = true) (h : SlotsOk β σ a) : SlotsOk β' σ a := fun d => ok_keep hb _ _ (refS_look d hr) (h d)
/-- Between rounds: the memory as the objects say it; the record at D + 1; the block for deferred calls at D. -/
structure Rg (N D : Nat) (r : Loop) (β1 : Bs) (H1 : List Ob) (w1 : World) (β : Bs) (H : List Ob) (w : World) : Prop where
  inv : Inv β H w
  fr : Fr N β1 H1 w1 β H w
  len : N ≤ H.length
  rc : w.heap[D + 1]? = some (.loop r)
  bl : w.heap[D]? = some (.deferred (some []))
  nr : ¬ MemB β H (D + 1)
  nb : ¬ MemB β H D
  old : w1.heap.size ≤ D
theorem Rg.step {N D : Nat} {r : Loop} {β1 β β' : Bs} {H1 H H' : List Ob} {w1 w w' : World} (h : Rg N D r β1 H1 w1 β H w) (hI : Inv β' H' w') (hf : Fr N β H w β' H' w') (hl : N ≤ H'.length) : Rg N D r β1 H1 w1 β' H' w' where
  inv := hI
  fr := h.fr.trans hf
  len := hl
  rc := (hf.block _ (heap_lt h.rc) fun ho => h.nr (own_memB ho)).trans h.rc
  bl := (hf.block _ (heap_lt h.bl) fun ho => h.nb (own_memB ho)).trans h.bl
  nr := fun hm => h.nr (hf.mem _ (heap_lt h.rc) hm)
  nb := fun hm => h.nb (hf.mem _ (heap_lt h.bl) hm)
  old := h.old
theorem inv_putL {β : Bs} {H : List Ob} {w : World} {D : Nat} {o : Obj} (h : Inv β H w) (hn : ¬ MemB β H D) (hd : ∃ x, w.heap[D]? = some (.loop x)) : Inv β H (w.putObj D o) := by
  refine ⟨⟨fun j ob ho => (h.ob j ob ho).same (BLe.refl β) (fun _ h => h) (Nat.le_of_eq World.putObj_size.symm) (fun i g b hm hg => World.putObj_heap_other fun e => hn ⟨j, i, ob, b, ho, hm, e ▸ hg⟩), h.out, h.sep, h.bey⟩, fun x hx => ?_⟩
  obtain ⟨h1, h2, h3, h4⟩ := h.gl x hx
  have hne : x.1 ≠ D := fun e => by
    obtain ⟨y, hy⟩ := hd
    have := h3 0 _ (List.getElem?_eq_getElem h2)
    rw [e] at this
    simp [World.cell?, hy] at this
  exact ⟨by rw [World.putObj_size]; exact h1, h2, fun k v hv => (World.cell?_of_block (w := w) (a := ⟨x.1, k, none⟩) (World.putObj_heap_other hne)).trans (h3 k v hv), h4⟩
theorem Rg.put {N D : Nat} {r r' : Loop} {β1 β : Bs} {H1 H : List Ob} {w1 w : World} (h : Rg N D r β1 H1 w1 β H w) : Rg N D r' β1 H1 w1 β H (w.putObj (D + 1) (.loop r')) where
  inv := inv_putL h.inv h.nr ⟨_, h.rc⟩
  fr := fr_put h.fr (by have := h.old; omega)
  len := h.len
  rc := World.putObj_heap_same (heap_lt h.rc)
  bl := (World.putObj_heap_other (by omega)).trans h.bl
  nr := h.nr
  nb := h.nb
  old := h.old
/-- How a round may end. -/
def rndK (N : Nat) (KN KR : List Ob → Prop) (e : Exit) (σ : Sl) (H : List Ob) : Prop :=
  match e with
  | .normal => ∃ H', SWk N σ H [] H' ∧ KN H'
  | .ret => ∃ H', SWk N σ H [] H' ∧ KR H'
  | _ => False
def asgK (E : Env) (body : Code) (K : Kt) (e : Exit) (σ : Sl) (H : List Ob) : Prop :=
  match e with
  | .normal => ex E body σ H K
  | _ => False
def rcd2 (fn : FuncId) (tmps : Array Value) (t u : Tmp) (assign body : Code) (D : Nat) (st : LoopState) (pe : Option Code) : Loop := { state := st, pending := pe, fn, tmps, params := #[t, u], assign, body, defers := D }
/-- **One round, two values.** -/
theorem round_ok2 {E : Env} (hm : E.P.follows .mixedOrders = true) {N M D n t u : Nat} {fn : FuncId} {a : Act} {assign body : Code} {β1 β : Bs} {H1 H : List Ob} {w1 w : World} {σ : Sl} {v v' : Value} {x y : SV} {KN KR : List Ob → Prop}
    (hR : Rg N D (rcd2 fn a.tmps t u assign body D .ready none) β1 H1 w1 β H w) (hNM : N ≤ M) (hMH : M ≤ H.length) (hN1 : N ≤ H1.length) (hσ : SlotsOk β σ a) (hn : a.tmps.size = E.nt) (ht : t < E.nt) (hu : u < E.nt) (hv : Ok β x v) (hv' : Ok β y v') (ha : okRnd E.nt E.pl assign = true) (hb : okRnd E.nt E.pl body = true)
    (hx : ex { E with n0 := M, it := true } assign ((u, y) :: (t, x) :: σ) H (asgK { E with n0 := M, it := true } body (rndK M KN KR))) :
    RoundIn Fence.wide n E.P (D + 1) fn ((a.tmps.setIfInBounds t v).setIfInBounds u v') assign body w fun e w' => ∃ β' H', BKeep M β β' ∧
      ((e = .returned (.bool true) ∧ Rg N D (rcd2 fn a.tmps t u assign body D .ready none) β1 H1 w1 β' H' w' ∧ KN H') ∨
       (e = .returned (.bool false) ∧ Rg N D (rcd2 fn a.tmps t u assign body D .done (some .ret)) β1 H1 w1 β' H' w' ∧ KR H')) := by
  refine roundIn_of_wpIn trivial ?_
  have hs1 : SlotsOk β ((t, x) :: σ) { tmps := a.tmps.setIfInBounds t v, defers := [] } := look_put hσ hv (by omega)
  have hs : St { E with n0 := M, it := true } β H w β ((u, y) :: (t, x) :: σ) H { tmps := (a.tmps.setIfInBounds t v).setIfInBounds u v', defers := [] } w :=
    ⟨hR.inv, look_put hs1 hv' (by simp; omega), by simp [hn], .nil, Fr.refl _ _ _ _, hMH⟩
  refine wpIn_mono (exR_sound (E := { E with n0 := M, it := true }) hm assign _ H _ ha hx β H w β _ w hs) ?_
  rintro e a2 w2 ⟨β2, σ2, H2, hk, hs2⟩
  cases e with
  | normal =>
    have hR2 := hR.step hs2.inv (hs2.fr.mono hNM hMH) (Nat.le_trans hNM hs2.n0)
    refine ⟨_, run_beginRound hR2.rc rfl, ?_⟩
    have hR3 : Rg N D (rcd2 fn a.tmps t u assign body D .busy none) β1 H1 w1 β2 H2 (w2.putObj (D + 1) (.loop (rcd2 fn a.tmps t u assign body D .busy none))) := hR2.put
    have hdf : a2.defers = [] := hs2.defers.no rfl
    have hs3 : St { E with n0 := M, it := true } β2 H2 (w2.putObj (D + 1) (.loop (rcd2 fn a.tmps t u assign body D .busy none))) β2 σ2 H2 a2 (w2.putObj (D + 1) (.loop (rcd2 fn a.tmps t u assign body D .busy none))) :=
      ⟨hR3.inv, hs2.slots, hs2.size, by rw [hdf]; exact .nil, Fr.refl _ _ _ _, hs2.n0⟩
    refine wpIn_mono (exR_sound (E := { E with n0 := M, it := true }) hm body _ H2 _ hb hk β2 H2 _ β2 a2 _ hs3) ?_
    rintro e a4 w4 ⟨β4, σ4, H4, hk4, hs4⟩
    cases e with
    | normal =>
      obtain ⟨H5, hw5, hk5⟩ := hk4
      obtain ⟨β5, hs5⟩ := st_wk hs4 hw5
      have hR5 := hR3.step hs5.inv (hs5.fr.mono hNM hs2.n0) (Nat.le_trans hNM hs5.n0)
      exact ⟨_, _, run_endRound none hR5.rc, β5, H5, BKeep.trans hs2.fr.le hs5.fr.le, .inl ⟨rfl, hR5.put, hk5⟩⟩
    | ret =>
      obtain ⟨H5, hw5, hk5⟩ := hk4
      obtain ⟨β5, hs5⟩ := st_wk hs4 hw5
      have hR5 := hR3.step hs5.inv (hs5.fr.mono hNM hs2.n0) (Nat.le_trans hNM hs5.n0)
      exact ⟨_, _, run_endRound (some .ret) hR5.rc, β5, H5, BKeep.trans hs2.fr.le hs5.fr.le, .inr ⟨rfl, hR5.put, hk5⟩⟩
    | _ => exact hk4.elim
  | _ => exact hk.elim
/-- What a function that is ranged over does: it calls yield in turn with the values of a list, the memory then being known; while yield says so and leaves the memory as it is. -/
def IterO (P : Program) (g : FuncId) (cs : List SV) (T : List Ob) (ys : List (List Ob × SV × SV)) : Prop :=
  ∀ (l : Nat) (tmps : Array Value) (fn : FuncId) (t u : Nat) (assign body : Code) (W : Nat → List Ob → Bs → World → Prop) (Z : World → Prop),
    (∀ d X β w, W d X β w → Inv β (T ++ X) w ∧ (∀ v v', (Instr.yield l #[v, v']).run P w = .ok (.round l fn ((tmps.setIfInBounds t v).setIfInBounds u v') assign body) w)) →
    (∀ d X X' β β' w w', W d X β w → Inv β' (T ++ X') w' → Fr (T ++ X).length β (T ++ X) w β' (T ++ X') w' → X.length ≤ X'.length → W d X' β' w') →
    (∀ d X x y β w v v', ys[d]? = some (X, x, y) → W d X β w → Ok β x v → Ok β y v' → RoundIn Fence.wide 0 P l fn ((tmps.setIfInBounds t v).setIfInBounds u v') assign body w fun e w' =>
      (e = .returned (.bool true) ∧ ∃ β', BKeep (T ++ X).length β β' ∧ W (d + 1) X β' w') ∨ (e = .returned (.bool false) ∧ Z w')) →
    ∀ β w us, W 0 [] β w → OkL β cs us → CallsIn Fence.wide 0 P g (#[.func (.yield l) #[] #[]] ++ us.toArray) w fun e w' => ∃ v, e = .returned v ∧ ((∃ X β', W ys.length X β' w') ∨ Z w')
/-- **The statement.** -/
theorem tr_range2 {E : Env} {g : Operand} {t u : Nat} {assign body : Code} {σ : Sl} {T : List Ob} {K : Kt} {gf : FuncId} {cs : List SV} {ys : List (List Ob × SV × SV)} (C : Nat → Prop)
    (hm : E.P.follows .mixedOrders = true) (hit : IterO E.P gf cs T ys) (hg : ev σ g = .f (.func gf) [] cs) (hcall : ∀ args w, (callFunc gf args).run E.P w = .ok (.enter gf args) w)
    (hok : (decide (E.n0 ≤ T.length) && refS T.length σ && !E.it && decide (t < E.nt) && decide (u < E.nt) && okRnd E.nt E.pl assign && okRnd E.nt E.pl body) = true) (h0 : C 0)
    (hround : ∀ d X x y, ys[d]? = some (X, x, y) → C d → ex { E with n0 := (T ++ X).length, it := true } assign ((u, y) :: (t, x) :: σ) (T ++ X) (asgK { E with n0 := (T ++ X).length, it := true } body (rndK (T ++ X).length (fun H' => H' = T ++ X ∧ C (d + 1)) (fun H' => K .ret σ H'))))
    (hdone : ∀ X, C ys.length → K .normal σ (T ++ X)) : Tr E (.rangeFunc g #[t, u] assign body) σ T K := by
  simp only [Bool.and_eq_true, decide_eq_true_eq, Bool.not_eq_true'] at hok
  obtain ⟨⟨⟨⟨⟨⟨hN, hr⟩, hE⟩, ht⟩, hu⟩, hka⟩, hkb⟩ := hok
  intro β0 H0 w0 β a w hs
  refine (wpIn_wide (n := 0)).1 (wpIn_rangeFunc ?_)
  intro fn hfn
  have hgv := ev_ok hs.slots g
  rw [hg] at hgv
  simp only [Ok] at hgv
  obtain ⟨xs, ys', hgv, hxs, hys⟩ := hgv
  have hxs : xs = #[] := by simp only [OkL] at hxs; exact Array.toList_eq_nil_iff.1 hxs
  subst hxs
  obtain ⟨D, hD⟩ : ∃ D, D = w.heap.size := ⟨_, rfl⟩
  obtain ⟨W1, hW1⟩ : ∃ W1, (w.alloc (.deferred (some []))).alloc (.loop (rcd2 fn a.tmps t u assign body D .ready none)) = W1 := ⟨_, rfl⟩
  have hL1 : W1.heap[D + 1]? = some (.loop (rcd2 fn a.tmps t u assign body D .ready none)) := by
    rw [← hW1, hD]; have := World.alloc_heap_new (w.alloc (.deferred (some []))) (.loop (rcd2 fn a.tmps t u assign body w.heap.size .ready none)); rwa [World.size_alloc] at this
  have hK1 : W1.heap[D]? = some (.deferred (some [])) := by
    rw [← hW1, hD]; exact (Below.heap_alloc _ _ _ (by simp)).trans (World.alloc_heap_new w _)
  have hbel : Below w.heap.size w W1 := by
    rw [← hW1]; exact ((Below.refl _ w).alloc (Nat.le_refl _) _).alloc (by simp) _
  have hnot : ∀ g, w.heap.size ≤ g → ¬ MemB β T g := fun g hg ⟨j, i, o, b, h1, h2, h3⟩ => by
    have := (hs.inv.ob j o h1).block h2 h3
    omega
  have hR1 : Rg T.length D (rcd2 fn a.tmps t u assign body D .ready none) β T w β T W1 :=
    ⟨hs.inv.below hbel, Fr.below hbel, Nat.le_refl _, hL1, hK1, hnot _ (by omega), hnot _ (by omega), by omega⟩
  have hmark : ∀ {β' : Bs} {H' : List Ob} {w' : World} {r : Loop}, Rg T.length D r β T w β' H' w' → St E β0 H0 w0 β' σ H' { a with defers := [{ target := .collected D, args := #[] }] ++ a.defers } w' := fun {β' H' w' r} h => by
    refine ⟨h.inv, slots_keep (N := T.length) h.fr.le hr hs.slots, hs.size, ⟨fun d hd => ?_, ?_, fun e => by rw [hE] at e; cases e⟩, hs.fr.trans (h.fr.mono hN (Nat.le_refl _)), Nat.le_trans hN h.len⟩
    · simp only [List.singleton_append, List.mem_cons] at hd
      rcases hd with rfl | hd
      · exact ⟨D, rfl, by have := hs.fr.size; omega, h.bl, h.nb⟩
      · exact (hs.defers.fr h.fr).one d hd
    · simp only [List.singleton_append, List.pairwise_cons]
      refine ⟨fun d hd D' hD' hd' => ?_, hs.defers.nd⟩
      obtain ⟨D2, rfl, k2, k3, k4⟩ := hs.defers.one d hd
      simp only [Target.collected.injEq] at hD' hd'
      have := heap_lt k3
      omega
  refine ⟨D + 1, [{ target := .collected D, args := #[] }], W1, { target := .fn (.func gf) ys', args := #[.func (.yield (D + 1)) #[] #[]] }, W1, gf,
    #[.func (.yield (D + 1)) #[] #[]] ++ ys', W1, ?_, ?_, ?_, ?_, fun e => by simp [Fence.wide] at e, ?_⟩
  · rw [← hW1, hD]; exact run_enterLoop_outer _ _ _ _ _
  · simp only [resolve, hgv]
    simp [go_sem]
  · intro f' hf'; trivial
  · simp [invoke, go_sem, hcall]
  · have hW := hit (D + 1) a.tmps fn t u assign body (fun d X β' w' => Rg T.length D (rcd2 fn a.tmps t u assign body D .ready none) β T w β' (T ++ X) w' ∧ C d) (fun w' => ∃ β' H', Rg T.length D (rcd2 fn a.tmps t u assign body D .done (some .ret)) β T w β' H' w' ∧ K .ret σ H')
      (fun d X β' w' ⟨h, _⟩ => ⟨h.inv, fun v v' => by have := run_yield (P := E.P) (args := #[v, v']) h.rc rfl; simpa [rcd2] using this⟩)
      (fun d X X' β' β2 w' w2 ⟨h, hC⟩ hI hf hl => ⟨h.step hI (hf.mono h.len (Nat.le_refl _)) (by have := h.len; simp only [List.length_append] at this ⊢; omega), hC⟩)
      (fun d X x y β' w' v v' hv ⟨h, hC⟩ hx hy => by
        refine (round_ok2 hm h h.len (Nat.le_refl _) (Nat.le_refl _) (slots_keep (N := T.length) h.fr.le hr hs.slots) hs.size ht hu (x := x) (v := v) hx hy hka hkb (hround d X x y hv hC)).mono ?_
        rintro e w2 ⟨β2, H2, hk, (⟨rfl, h2, rfl, hC2⟩ | ⟨rfl, h2, hC2⟩)⟩
        · exact .inl ⟨rfl, β2, hk, h2, hC2⟩
        · exact .inr ⟨rfl, β2, H2, h2, hC2⟩)
      β W1 ys'.toList ⟨by rw [List.append_nil]; exact hR1, h0⟩ hys
    have e1 : ys'.toList.toArray = ys' := by simp
    rw [e1] at hW
    refine hW.mono ?_
    rintro e w2 ⟨v, rfl, (⟨X, β2, h2, hC2⟩ | ⟨β2, H2, h2, hK2⟩)⟩
    · exact ⟨none, _, run_endLoop h2.rc (by simp [rcd2]), β2, σ, _, hdone X hC2, hmark h2.put⟩
    · exact ⟨some .ret, _, run_endLoop h2.rc (by simp [rcd2]), wpIn_ret ⟨β2, σ, H2, hK2, hmark h2.put⟩⟩
end Go.Proofs.YtolioflblegneaaGreat
namespace Go.Proofs.YtolioflblegneaaGreat
open Go.RowKit
theorem getD_set_same {a : Array Value} {i : Nat} {v : Value} (h : i < a.size) : (a.setIfInBounds i v).getD i undef = v := by simp [h]
theorem getD_set_other {a : Array Value} {i j : Nat} {v : Value} (h : i ≠ j) : (a.setIfInBounds i v).getD j undef = a.getD j undef := by simp [Array.getD_eq_getD_getElem?, h]
theorem yield_ops2 {P : Program} {id : Nat} {a : Act} {w : World} {Q : Exit → Act → World → Prop} {l : Nat} {v v' : Value} {d0 d1 e1 d2 d3 s0 s1 r1 : Nat} {ty0 ty1 tz1 ty2 ty3 : TypeId} {p0 p1 q1 p2 p3 : String} {af0 af1 ag1 af2 af3} {ats : Array TypeId} {tu : TypeId} {fn : FuncId} {tmps : Array Value} {assign body : Code}
    (h0 : a.tmps.getD s0 undef = .func (.yield l) #[] #[]) (h1 : a.tmps.getD s1 undef = v) (h1' : a.tmps.getD r1 undef = v') (hd0 : d0 < a.tmps.size) (hd1 : d1 < a.tmps.size) (he1 : e1 < a.tmps.size) (hd2 : d2 < a.tmps.size)
    (n1 : d0 ≠ s1) (n2 : d1 ≠ d0) (n3 : e1 ≠ d0) (n4 : e1 ≠ d1) (n5 : d0 ≠ r1) (n6 : d1 ≠ r1)
    (hy : (Instr.yield l #[v, v']).run P w = .ok (.round l fn tmps assign body) w)
    (hr : RoundIn Fence.wide 0 P l fn tmps assign body w fun e w' => ∃ b, e = .returned (.bool b) ∧ Q .normal (((((a.put (some d0) (.func (.yield l) #[] #[])).put (some d1) v).put (some e1) v').put (some d2) (.bool b)).put (some d3) (.bool !b)) w') :
    ∀ ops : Array Oper, ops.size = 5 → ops[0]? = some ⟨some d0, .move (.tmp s0), ty0, p0, af0, none⟩ → ops[1]? = some ⟨some d1, .move (.tmp s1), ty1, p1, af1, none⟩ → ops[2]? = some ⟨some e1, .move (.tmp r1), tz1, q1, ag1, none⟩ → ops[3]? = some ⟨some d2, .call ⟨.value (.tmp d0), #[.tmp d1, .tmp e1], ats⟩, ty2, p2, af2, none⟩ → ops[4]? = some ⟨some d3, .unOp .not tu (.tmp d2), ty3, p3, af3, none⟩ → (Code.region id ops false).wpIn Fence.wide 0 P Q a w := by
  intro ops s5 g0 g1 g2 g3 g4
  refine wpIn_region ?_
  rw [s5, show List.range 5 = [0, 1, 2, 3, 4] from rfl]
  have e0 : (a.put (some d0) (.func (.yield l) #[] #[])).tmps.getD s1 undef = v := by
    simp only [Act.put]
    rw [getD_set_other n1]
    exact h1
  have e0' : ((a.put (some d0) (.func (.yield l) #[] #[])).put (some d1) v).tmps.getD r1 undef = v' := by
    simp only [Act.put]
    rw [getD_set_other n6, getD_set_other n5]
    exact h1'
  have c0 : (((a.put (some d0) (.func (.yield l) #[] #[])).put (some d1) v).put (some e1) v').tmps.getD d0 undef = .func (.yield l) #[] #[] := by
    simp only [Act.put]
    rw [getD_set_other n3, getD_set_other n2]
    exact getD_set_same hd0
  have c1 : (((a.put (some d0) (.func (.yield l) #[] #[])).put (some d1) v).put (some e1) v').tmps.getD d1 undef = v := by
    simp only [Act.put]
    rw [getD_set_other n4]
    exact getD_set_same (by simpa using hd1)
  have c2 : (((a.put (some d0) (.func (.yield l) #[] #[])).put (some d1) v).put (some e1) v').tmps.getD e1 undef = v' := by
    simp only [Act.put]
    exact getD_set_same (by simpa using he1)
  have c3 : ∀ b, (((((a.put (some d0) (.func (.yield l) #[] #[])).put (some d1) v).put (some e1) v').put (some d2) (.bool b))).tmps.getD d2 undef = .bool b := by
    intro b
    simp only [Act.put]
    exact getD_set_same (by simpa using hd2)
  have m0 : ∀ (a : Act) (w : World) (next : Act → World → Prop) (d s : Nat) ty p af, next (a.put (some d) (a.tmps.getD s undef)) w → (Oper.wpIn Fence.wide 0 P ⟨some d, .move (.tmp s), ty, p, af, none⟩ a w next Q) := by
    intro a w next d s ty p af h
    refine ⟨fun _ _ => trivial, ?_⟩
    rw [Oper.semAt_eq _ _ _ (fun c hc => by cases hc)]
    exact h
  simp only [wpOpsIn]
  simp only [g0, g1, g2, g3, g4]
  simp only [Region.wanted, if_true]
  refine m0 _ _ _ _ _ _ _ _ ?_
  rw [h0]
  refine m0 _ _ _ _ _ _ _ _ ?_
  rw [e0]
  refine m0 _ _ _ _ _ _ _ _ ?_
  rw [e0']
  refine ⟨fun _ _ => trivial, ?_⟩
  rw [Oper.semAt_eq _ _ _ (fun c hc => by cases hc)]
  have hcall : (execOp (((a.put (some d0) (.func (.yield l) #[] #[])).put (some d1) v).put (some e1) v').eval ⟨some d2, .call ⟨.value (.tmp d0), #[.tmp d1, .tmp e1], ats⟩, ty2, p2, af2, none⟩).run P w = .ok (.round l fn tmps assign body) w := by
    have e1' : (((a.put (some d0) (.func (.yield l) #[] #[])).put (some d1) v).put (some e1) v').eval (.tmp d0) = .func (.yield l) #[] #[] := c0
    have e2' : (((a.put (some d0) (.func (.yield l) #[] #[])).put (some d1) v).put (some e1) v').eval (.tmp d1) = v := c1
    have e3' : (((a.put (some d0) (.func (.yield l) #[] #[])).put (some d1) v).put (some e1) v').eval (.tmp e1) = v' := c2
    simp [execOp, resolve, e1', e2', e3', Deferred.ofValue, invoke, Sem.run_bind, Sem.run_pure, Result.andThen, hy]
  rw [hcall, Oper.uponIn_round]
  refine ⟨fun e => by simp [Fence.wide] at e, hr.mono ?_⟩
  rintro e w' ⟨b, rfl, hq⟩
  simp only
  refine ⟨fun _ _ => trivial, ?_⟩
  rw [Oper.semAt_eq _ _ _ (fun c hc => by cases hc)]
  have hnot : (execOp ((((a.put (some d0) (.func (.yield l) #[] #[])).put (some d1) v).put (some e1) v').put (some d2) (.bool b)).eval ⟨some d3, .unOp .not tu (.tmp d2), ty3, p3, af3, none⟩).run P w' = .ok (.value (.bool !b)) w' := by
    have e3' : ((((a.put (some d0) (.func (.yield l) #[] #[])).put (some d1) v).put (some e1) v').put (some d2) (.bool b)).eval (.tmp d2) = .bool b := c3 b
    simp [execOp, e3', Op.unary, asBool, Sem.run_bind, Sem.run_pure, Result.andThen]
  rw [hnot]
  exact hq
end Go.Proofs.YtolioflblegneaaGreat
namespace Go.Proofs.YtolioflblegneaaGreat
open Go.RowKit
/-- A loop that is under way, in an iterator's body. -/
def LoopIn (F : Fence) (n : Nat) (P : Program) (c : Code) (Q : Exit → Act → World → Prop) (a : Act) (w : World) : Prop :=
  ∀ (b : Frame) (k : List Item) (cs : List Frame), b.roundOf = F.round → F.fn b.fn → F.room (cs.length + 1 + n) → ∃ e a' w', Q e a' w' ∧ ArrivesIn (Machine.fenced P F) P (lone (b.atR a (.code c :: .inLoop c :: k)) cs w) b k cs e a' w'
theorem loopIn_un {F : Fence} {n : Nat} {P : Program} {c : Code} {Q : Exit → Act → World → Prop} {a : Act} {w : World} (h : c.wpIn F n P (Exit.then (LoopIn F n P c Q) Q) a w) : LoopIn F n P c Q a w := by
  intro b k cs hro hb hr
  obtain ⟨e, a₁, w₁, hq, harr⟩ := h b (.inLoop c :: k) cs hro hb hr
  cases e with
  | normal =>
    obtain ⟨e₂, a₂, w₂, hq₂, harr₂⟩ := hq b k cs hro hb hr
    exact ⟨e₂, a₂, w₂, hq₂, .of_steps (StepsIn.trans harr (.one (fenced_calm hb hr rfl) stepR_inLoop)) harr₂⟩
  | exit id => exact ⟨_, a₁, w₁, hq, .pass (x := .inLoop c) rfl (fun _ _ => .inl (by simp)) harr⟩
  | goto l => exact ⟨_, a₁, w₁, hq, .pass (x := .inLoop c) rfl (fun _ _ => .inl (by simp)) harr⟩
  | ret => exact ⟨_, a₁, w₁, hq, .pass (x := .inLoop c) rfl (fun _ _ => .inl (by simp)) harr⟩
  | panic ch => exact ⟨_, a₁, w₁, hq, .pass (x := .inLoop c) rfl (fun _ _ => .inl (by simp)) harr⟩
  | outgrown => exact ⟨_, a₁, w₁, hq, .pass (x := .inLoop c) rfl (fun _ _ => .inl (by simp)) harr⟩
theorem wpIn_un {F : Fence} {n : Nat} {P : Program} {c : Code} {Q : Exit → Act → World → Prop} {a : Act} {w : World} (h : LoopIn F n P c Q a w) : (Code.loop c).wpIn F n P Q a w := by
  intro b k cs hro hb hr
  obtain ⟨e, a', w', hq, harr⟩ := h b k cs hro hb hr
  exact ⟨e, a', w', hq, .of_steps (.one (fenced_calm hb hr rfl) stepR_loop) harr⟩
/-- Where an iterator stands. -/
structure IS (W : Nat → List Ob → Bs → World → Prop) (nt d : Nat) (X : List Ob) (σ : Sl) (a : Act) (w : World) : Prop where
  ex : ∃ β, W d X β w ∧ SlotsOk β σ a
  size : a.tmps.size = nt
  df : a.defers = []
theorem pieceI {P : Program} {T X HL : List Ob} {W : Nat → List Ob → Bs → World → Prop} {nt d N : Nat} {pl : List (Nat × Plan)} {c : Code} {σ : Sl} {a : Act} {w : World} {Q : Exit → Act → World → Prop} {Y : Type} (R : Y → Prop) (e0 : Exit) (σ2 : Y → Sl) (X2 : Y → List Ob) (hm : P.follows .mixedOrders = true) (hok : okCode nt pl c = true)
    (hW1 : ∀ d X β w, W d X β w → Inv β (T ++ X) w)
    (hW2 : ∀ d X X' β β' w w', W d X β w → Inv β' (T ++ X') w' → Fr (T ++ X).length β (T ++ X) w β' (T ++ X') w' → X.length ≤ X'.length → W d X' β' w')
    (hs : IS W nt d X σ a w) (hH : T ++ X = HL) (hN : HL.length = N) (hl : ∀ y, X.length ≤ (X2 y).length)
    (hx : ex ⟨P, true, N, nt, pl, true, false⟩ c σ HL (fun e σ' H' => ∃ y, R y ∧ e = e0 ∧ SWk N σ' H' (σ2 y) (T ++ X2 y)))
    (hQ : ∀ y a' w', R y → IS W nt d (X2 y) (σ2 y) a' w' → Q e0 a' w') : c.wpIn Fence.wide 0 P Q a w := by
  obtain ⟨⟨β, hW, hσ⟩, hz, hd⟩ := hs
  have hI := hW1 _ _ _ _ hW
  subst hN
  rw [hH] at hI
  have hst : St ⟨P, true, HL.length, nt, pl, true, false⟩ β HL w β σ HL a w := ⟨hI, hσ, hz, by rw [hd]; exact .nil, Fr.refl _ _ _ _, Nat.le_refl _⟩
  refine wpIn_wide.2 (wp_mono (ex_sound (E := ⟨P, true, HL.length, nt, pl, true, false⟩) hm c σ HL _ hok hx β HL w β a w hst) ?_)
  rintro e a' w' ⟨β', σ', H', ⟨y, hy, rfl, hw⟩, hs'⟩
  obtain ⟨β2, hs2⟩ := st_wk hs' hw
  refine hQ y a' w' hy ⟨⟨β2, hW2 _ _ _ _ _ _ _ hW hs2.inv ?_ (hl y), hs2.slots⟩, hs2.size, hs2.defers.no rfl⟩
  rw [hH]
  exact hs2.fr
theorem entry_slots {nt : Nat} {β : Bs} {args : List SV} {vals : List Value} (ha : OkL β args vals) (hn : args.length ≤ nt) : SlotsOk β (parS 0 args) { tmps := vals.toArray ++ Array.replicate (nt - vals.toArray.size) undef, defers := [] } ∧ (vals.toArray ++ Array.replicate (nt - vals.toArray.size) undef).size = nt := by
  have hl := okL_length ha
  constructor
  · exact fun d => parS_ok ha 0 (fun d => (vals.toArray ++ Array.replicate (nt - vals.toArray.size) undef).getD d undef) (fun i u hu => by
      have hlt := (List.getElem?_eq_some_iff.1 hu).1
      simp only [Nat.zero_add, Array.getD_eq_getD_getElem?]
      rw [Array.getElem?_append_left (by simpa using hlt)]
      simp [hu]) d
  · simp
    omega
theorem results_nil {P : Program} {fn : Func} {tmps : Array Value} {w : World} (h : fn.results = #[]) : ∃ v, (results fn tmps).run P w = .ok v w := by
  unfold results
  rw [h]
  exact ⟨_, by simp [Sem.run_bind, Sem.run_pure, Result.andThen]; rfl⟩
/-- The iterator calls yield. -/
theorem yieldI {P : Program} {T X : List Ob} {W : Nat → List Ob → Bs → World → Prop} {Z : World → Prop} {nt d l id : Nat} {tmps : Array Value} {fn : FuncId} {t u : Nat} {assign body : Code} {ys : List (List Ob × SV × SV)} {σ : Sl} {a : Act} {w : World} {x y : SV} {Q : Exit → Act → World → Prop}
    (hW1 : ∀ d X β w, W d X β w → Inv β (T ++ X) w ∧ (∀ v v', (Instr.yield l #[v, v']).run P w = .ok (.round l fn ((tmps.setIfInBounds t v).setIfInBounds u v') assign body) w))
    (hW3 : ∀ d X x y β w v v', ys[d]? = some (X, x, y) → W d X β w → Ok β x v → Ok β y v' → RoundIn Fence.wide 0 P l fn ((tmps.setIfInBounds t v).setIfInBounds u v') assign body w fun e w' =>
      (e = .returned (.bool true) ∧ ∃ β', BKeep (T ++ X).length β β' ∧ W (d + 1) X β' w') ∨ (e = .returned (.bool false) ∧ Z w'))
    (hs : IS W nt d X σ a w) (hy : ys[d]? = some (X, x, y)) {s0 s1 r1 d0 d1 e1 d2 d3 : Nat} (h0 : look σ s0 = .f (.yield l) [] []) (hx : look σ s1 = x) (hyy : look σ r1 = y) (hr : refS (T ++ X).length σ = true)
    (hd0 : d0 < nt) (hd1 : d1 < nt) (he1 : e1 < nt) (hd2 : d2 < nt) (hd3 : d3 < nt) (n1 : d0 ≠ s1) (n2 : d1 ≠ d0) (n3 : e1 ≠ d0) (n4 : e1 ≠ d1) (n5 : d0 ≠ r1) (n6 : d1 ≠ r1)
    (hT : ∀ a' w', IS W nt (d + 1) X ((d3, .v (.bool false)) :: (d2, .junk) :: (e1, .junk) :: (d1, .junk) :: (d0, .junk) :: σ) a' w' → Q .normal a' w')
    (hF : ∀ a' w', Z w' → a'.defers = [] → a'.tmps.size = nt → a'.tmps.getD d3 undef = .bool true → Q .normal a' w')
    {ty0 ty1 tz1 ty2 ty3 : TypeId} {p0 p1 q1 p2 p3 : String} {af0 af1 ag1 af2 af3} {ats : Array TypeId} {tu : TypeId} :
    ∀ ops : Array Oper, ops.size = 5 → ops[0]? = some ⟨some d0, .move (.tmp s0), ty0, p0, af0, none⟩ → ops[1]? = some ⟨some d1, .move (.tmp s1), ty1, p1, af1, none⟩ → ops[2]? = some ⟨some e1, .move (.tmp r1), tz1, q1, ag1, none⟩ → ops[3]? = some ⟨some d2, .call ⟨.value (.tmp d0), #[.tmp d1, .tmp e1], ats⟩, ty2, p2, af2, none⟩ → ops[4]? = some ⟨some d3, .unOp .not tu (.tmp d2), ty3, p3, af3, none⟩ → (Code.region id ops false).wpIn Fence.wide 0 P Q a w := by
  obtain ⟨⟨β, hW, hσ⟩, hz, hd⟩ := hs
  have t0 : a.tmps.getD s0 undef = .func (.yield l) #[] #[] := by
    have := hσ s0
    rw [h0] at this
    simp only [Ok] at this
    obtain ⟨xs, ys, h1, h2, h3⟩ := this
    simp only [OkL] at h2 h3
    rw [h1, Array.toList_eq_nil_iff.1 h2, Array.toList_eq_nil_iff.1 h3]
  have o1 := hσ s1
  rw [hx] at o1
  have o2 := hσ r1
  rw [hyy] at o2
  refine yield_ops2 t0 rfl rfl (by omega) (by omega) (by omega) (by omega) n1 n2 n3 n4 n5 n6 ((hW1 _ _ _ _ hW).2 _ _) ((hW3 _ _ _ _ _ _ _ _ hy hW o1 o2).mono ?_)
  rintro e w5 (⟨rfl, β5, hk5, hW5⟩ | ⟨rfl, hZ⟩)
  · refine ⟨true, rfl, hT _ _ ⟨⟨β5, hW5, ?_⟩, by simp [Act.put, hz], by simp [put_defers, hd]⟩⟩
    have hs5 := slots_keep hk5 hr hσ
    exact look_put (look_put (look_put (look_put (look_put hs5 (by simp only [Ok]) (by omega)) (by simp only [Ok]) (by simp [Act.put]; omega)) (by simp only [Ok]) (by simp [Act.put]; omega)) (by simp only [Ok]) (by simp [Act.put]; omega)) (by simp only [Ok]; rfl) (by simp [Act.put]; omega)
  · refine ⟨false, rfl, hF _ _ hZ (by simp [put_defers, hd]) (by simp [Act.put, hz]) ?_⟩
    simp only [Act.put]
    exact getD_set_same (by simp; omega)
end Go.Proofs.YtolioflblegneaaGreat
