/- Rounds of a range over a function: the executor in a round's frame. No program in sight. -/
import Derived.Test.YtekokeiajgcfkaaSx
import Derived.RangeFuncIn
import Derived.RangeFuncRecord
import Derived.RangeFuncLeaves
import Derived.RangeFuncCalls
import Derived.OrdersIn
set_option maxRecDepth 100000
set_option linter.unusedSimpArgs false
set_option linter.unusedVariables false
namespace Go.Proofs.Ytekokeiajgcfkaa
open Go.RowKit
/-- The fence that lets all in, in a round. -/
abbrev RF (l : Nat) : Fence := Fence.wide.inRound l
def isDefer (o : Op) : Bool :=
  match o with
  | .defer _ => true
  | _ => false
theorem upon_in {P : Program} {o : Oper} {a : Act} {l n : Nat} {next : Act → World → Prop} {Q : Exit → Act → World → Prop} {x : Result Next} (h : o.upon P a next Q x) : o.uponIn (RF l) n P a next Q x := by
  cases x with
  | ok v w =>
    cases v with
    | value v => exact h
    | skip => exact h
    | defer d => exact h
    | enter f args => exact ⟨fun e => by simp [Fence.wide] at e, (callsIn_wide.2 h).inRound l⟩
    | row row args =>
      refine ⟨fun e => by simp [Fence.wide] at e, fun c cs _ => ?_⟩
      obtain ⟨v, w', h1, h2⟩ := h c cs
      exact ⟨v, w', h1, stepsIn_wide.2 h2⟩
    | _ => exact h.elim
  | halt e w =>
    cases e with
    | panic v => exact h
    | _ => exact h.elim
theorem oper_in {P : Program} {o : Oper} {a : Act} {w : World} {l n : Nat} {next : Act → World → Prop} {Q : Exit → Act → World → Prop} (hd : isDefer o.op = false) (h : o.wp P a w next Q) : o.wpIn (RF l) n P a w next Q := by
  refine ⟨fun _ _ => trivial, ?_⟩
  rw [Oper.semAt_eq _ _ _ (fun c hc => by rw [hc] at hd; cases hd)]
  exact upon_in h
theorem oper_in_mono {P : Program} {o : Oper} {a : Act} {w : World} {l n : Nat} {next next' : Act → World → Prop} {Q : Exit → Act → World → Prop} (hn : ∀ a w, next a w → next' a w) (h : o.wpIn (RF l) n P a w next Q) : o.wpIn (RF l) n P a w next' Q := Oper.wpIn_mono hn h
theorem ops_in {P : Program} {ops : Array Oper} {l n : Nat} {Q : Exit → Act → World → Prop} (hQ : ¬ LetsOut Q) (hd : ∀ (i : Nat) (o : Oper), ops[i]? = some o → isDefer o.op = false) : ∀ (is : List Nat) (a : Act) (w : World), wpOps P ops Q is a w → wpOpsIn (RF l) n P ops Q is a w
  | [], _, _, h => h
  | i :: is, a, w, h => by
    unfold wpOps at h
    unfold wpOpsIn
    split at h
    · rename_i ho
      simp only [ho]
      exact ops_in hQ hd is a w h
    · rename_i o ho
      simp only [ho]
      split at h
      · rename_i hw
        rw [if_pos hw]
        rcases h with h | h
        · exact oper_in_mono (fun a w => ops_in hQ hd is a w) (oper_in (hd i o ho) h)
        · exact absurd h.2 hQ
      · rename_i hw
        rw [if_neg hw]
        exact ⟨fun _ _ => trivial, ops_in hQ hd is _ w h⟩
def okRnd (nt : Nat) (pl : List (Nat × Plan)) : Code → Bool
  | .region id ops draw => okReg nt (findP pl id) ops.toList draw && ops.toList.all (fun o => !isDefer o.op)
  | .seq a b => okRnd nt pl a && okRnd nt pl b
  | .cond _ t e => okRnd nt pl t && okRnd nt pl e
  | .block _ c => okRnd nt pl c
  | .skip => true
  | .label _ => true
  | .exit _ => true
  | .ret => true
  | _ => false
/-- Where a piece of code ends. -/
def EndQ (E : Env) (K : Kt) (β0 : Bs) (H0 : List Ob) (w0 : World) (e : Exit) (a' : Act) (w' : World) : Prop := ∃ β' σ' H', K e σ' H' ∧ St E β0 H0 w0 β' σ' H' a' w'
theorem any_in {P : Program} {ops : Array Oper} {l n id : Nat} {Q : Exit → Act → World → Prop} {a : Act} {w : World} (hm : P.follows .mixedOrders = true) (hQ : ¬ LetsOut Q) (hd : ∀ (i : Nat) (o : Oper), ops[i]? = some o → isDefer o.op = false)
    (h : wpAny P .any ops Q ops.size (Array.replicate ops.size false) a { w with drawn := w.drawn + 1 }) : (Code.region id ops true).wpIn (RF l) n P Q a w :=
  wpIn_region_draw fun t => by
    simp only [Region.schedule, hm, Bool.true_or, if_true]
    exact ops_in hQ hd _ a _ (wpAny_sound ops.size t _ a _ h)
theorem list_in {P : Program} {ops : Array Oper} {l n id : Nat} {Q : Exit → Act → World → Prop} {a : Act} {w : World} (hQ : ¬ LetsOut Q) (hd : ∀ (i : Nat) (o : Oper), ops[i]? = some o → isDefer o.op = false)
    (h : wpList P ops Q ops.toList a w) : (Code.region id ops false).wpIn (RF l) n P Q a w :=
  wpIn_region (ops_in hQ hd _ a w (by rw [List.range_eq_range', ← Array.length_toList, wpOps_eq_wpList ops.toList 0 (by simp)]; exact h))
/-- The executor in a round's frame. -/
theorem exR_sound {E : Env} {l n : Nat} (hm : E.P.follows .mixedOrders = true) : ∀ (c : Code) (σ : Sl) (H : List Ob) (K : Kt), okRnd E.nt E.pl c = true → ex E c σ H K → ∀ β0 H0 w0 β a w, St E β0 H0 w0 β σ H a w → c.wpIn (RF l) n E.P (EndQ E K β0 H0 w0) a w
  | .skip, σ, H, K, _, h => fun β0 H0 w0 β a w hs => wpIn_skip ⟨β, σ, H, by simpa only [ex] using h, hs⟩
  | .label _, σ, H, K, _, h => fun β0 H0 w0 β a w hs => wpIn_label ⟨β, σ, H, by simpa only [ex] using h, hs⟩
  | .exit id, σ, H, K, _, h => fun β0 H0 w0 β a w hs => wpIn_exit ⟨β, σ, H, by simpa only [ex] using h, hs⟩
  | .ret, σ, H, K, _, h => fun β0 H0 w0 β a w hs => wpIn_ret ⟨β, σ, H, by simpa only [ex] using h, hs⟩
  | .seq x y, σ, H, K, hok, h => fun β0 H0 w0 β a w hs => by
    simp only [okRnd, Bool.and_eq_true] at hok
    simp only [ex] at h
    refine wpIn_seq (wpIn_mono (exR_sound hm x σ H _ hok.1 h β0 H0 w0 β a w hs) ?_)
    rintro e a' w' ⟨β', σ', H', hk, hs'⟩
    cases e with
    | normal =>
      simp only [seqK] at hk
      exact exR_sound hm y σ' H' K hok.2 hk β0 H0 w0 β' a' w' hs'
    | _ => exact ⟨β', σ', H', hk, hs'⟩
  | .cond c t e, σ, H, K, hok, h => fun β0 H0 w0 β a w hs => by
    simp only [okRnd, Bool.and_eq_true] at hok
    simp only [ex] at h
    unfold condK at h
    split at h
    · rename_i b hb
      have hv := ev_ok hs.slots c
      rw [hb] at hv
      have hv := ok_v hv
      have hlit : St E β0 H0 w0 β (litC c b σ) H a w := by
        cases c with
        | tmp d => exact st_look hs (by simp only [Ok]; exact hv)
        | _ => exact hs
      cases b with
      | true =>
        simp only [branch_true, sidK] at h
        exact wpIn_cond_true hv (exR_sound hm t _ H K hok.1 h β0 H0 w0 β a w hlit)
      | false =>
        simp only [branch_false, sidK] at h
        exact wpIn_cond_false hv (exR_sound hm e _ H K hok.2 h β0 H0 w0 β a w hlit)
    · exact h.elim
  | .block id c, σ, H, K, hok, h => fun β0 H0 w0 β a w hs => by
    simp only [okRnd] at hok
    simp only [ex] at h
    refine wpIn_block (wpIn_mono (exR_sound hm c σ H _ hok h β0 H0 w0 β a w hs) ?_)
    rintro e a' w' ⟨β', σ', H', hk, hs'⟩
    cases e with
    | exit i =>
      simp only [blkK] at hk
      simp only [Exit.inBlock]
      by_cases e1 : i = id
      · subst e1
        simp only [beq_self_eq_true, swK, nrmK] at hk
        rw [if_pos rfl]
        exact ⟨β', σ', H', hk, hs'⟩
      · have : (i == id) = false := by simpa using e1
        rw [this] at hk
        simp only [swK, outK] at hk
        rw [if_neg e1]
        exact ⟨β', σ', H', hk, hs'⟩
    | _ => exact ⟨β', σ', H', hk, hs'⟩
  | .region id ops draw, σ, H, K, hok0, h => fun β0 H0 w0 β a w hs => by
    simp only [okRnd, Bool.and_eq_true] at hok0
    obtain ⟨hok, hdf⟩ := hok0
    have hdf : ∀ (i : Nat) (o : Oper), ops[i]? = some o → isDefer o.op = false := fun i o ho => by
      have := List.all_eq_true.1 hdf o (by rw [Array.mem_toList_iff]; exact Array.mem_of_getElem? ho)
      simpa using this
    simp only [okReg, Bool.and_eq_true, List.all_eq_true] at hok
    simp only [ex] at h
    have hK : ∀ β σ H a w, St E β0 H0 w0 β σ H a w → regK K σ H → (fun e a' w' => e = .normal ∧ EndQ E K β0 H0 w0 e a' w') .normal a w := fun β σ H a w hs h => ⟨rfl, β, σ, H, h, hs⟩
    have hQ : ¬ LetsOut (fun e a' w' => e = .normal ∧ EndQ E K β0 H0 w0 e a' w') := by
      rintro ⟨a, w, h, _⟩
      cases h
    have hops : ∀ o ∈ ops.toList, dstOk E.nt o = true ∧ gdOk E.nt ops.toList o = true := fun o ho => hok.1 o ho
    refine wpIn_mono (Q := fun e a' w' => e = .normal ∧ EndQ E K β0 H0 w0 e a' w') ?_ fun e a' w' h => h.2
    cases draw with
    | false =>
      simp only [swK, drN] at h
      have := exN_sound (Q := fun e a' w' => e = .normal ∧ EndQ E K β0 H0 w0 e a' w') (ops := ops.toList) hK ops.toList β σ H a w hops hs h
      exact list_in hQ hdf (by simpa using this)
    | true =>
      simp only [swK] at h
      have hd := hok.2
      simp only [Bool.not_true, Bool.false_or] at hd
      cases hpl : findP E.pl id with
      | none =>
        simp only [hpl, drX] at h
        simp only [hpl, okDraw] at hd
        have := exQ_sound (Q := fun e a' w' => e = .normal ∧ EndQ E K β0 H0 w0 e a' w') (ops := ops.toList) (w := w) (β := β) (H := H) hK ops.toList σ a hops hs h
        refine any_in hm hQ hdf ?_
        rw [show ops = ops.toList.toArray by simp]
        cases hq : Nat.beq (qn ops.toList) ops.toList.length with
        | true =>
          have hq' : qn ops.toList = ops.toList.length := Nat.eq_of_beq_eq_true hq
          rw [hq] at hd
          simp only [cond_true] at hd
          rw [hq'] at this
          simp only [List.take_length, List.drop_length] at this
          exact any_calm hd this
        | false =>
          rw [hq] at hd
          simp only [cond_false] at hd
          exact any_calm_tail _ hd this
      | some p =>
        simp only [hpl, drX] at h
        simp only [hpl, okDraw, Bool.and_eq_true] at hd
        have h : ∃ K2 : Sl → List Ob → Prop, exT E (unJ p) ops.toList σ H K2 ∧ ∀ β σ H a w, St E β0 H0 w0 β σ H a w → K2 σ H → ∃ β' σ' H', K .normal σ' H' ∧ St E β0 H0 w0 β' σ' H' a w := by
          cases p with
          | jn p =>
            obtain ⟨σ', H', h1, h2⟩ := h
            refine ⟨_, h1, fun β σ H a w hs hw => ?_⟩
            obtain ⟨β', hs'⟩ := st_wk hs hw
            exact ⟨β', σ', H', h2, hs'⟩
          | jx p =>
            obtain ⟨σ', H', R, h1, h2⟩ := h
            refine ⟨_, h1, fun β σ H a w hs ⟨x, hx, hw⟩ => ?_⟩
            obtain ⟨β', hs'⟩ := st_wk hs hw
            exact ⟨β', σ' x, H' x, h2 x hx, hs'⟩
          | _ => exact ⟨_, h, fun β σ H a w hs hk => ⟨β, σ, H, hk, hs⟩⟩
        obtain ⟨K2, h, hK2⟩ := h
        have hdr : Below w.heap.size w { w with drawn := w.drawn + 1 } := (Below.refl _ _).drew
        have := exT_sound (Q := fun e a' w' => e = .normal ∧ EndQ E K β0 H0 w0 e a' w') (ops := ops.toList) (fun c a w h => by cases h.1) (fun β σ H a w hs h => ⟨rfl, hK2 β σ H a w hs h⟩) hd.1 hops (unJ p) β σ H a { w with drawn := w.drawn + 1 } hd.2 ⟨hs.inv.below hdr, hs.slots, hs.size, hs.defers.fr (Fr.below (n0 := 0) hdr), hs.fr.trans (Fr.below hdr), hs.n0⟩ h
        have e1 : ops.toList.toArray = ops := by simp
        have e2 : ops.toList.length = ops.size := by simp
        rw [e1, e2] at this
        exact any_in hm hQ hdf this
end Go.Proofs.Ytekokeiajgcfkaa
