/- A range over a function: the state between rounds, one round, the statement. No program in sight. -/
import Derived.Test.YtekokeiajgcfkaaRF
set_option maxRecDepth 100000
set_option linter.unusedSimpArgs false
set_option linter.unusedVariables false
namespace Go.Proofs.Ytekokeiajgcfkaa
open Go.RowKit
mutual
/-- A value that names objects below N alone. -/
def refB (N : Nat) : SV → Bool
  | .p j _ _ => decide (j < N)
  | .e j _ _ _ _ => decide (j < N)
  | .s j _ _ _ _ _ => decide (j < N)
  | .f _ fs cs => refL N fs && refL N cs
  | .a l => refL N l
  | .t l => refL N l
  | .v _ => true
  | .m j => decide (j < N)
  | .und => true
  | .junk => true
def refL (N : Nat) : List SV → Bool
  | [] => true
  | x :: l => refB N x && refL N l
end
def refS (N : Nat) : Sl → Bool
  | [] => true
  | (_, x) :: l => refB N x && refS N l
/-- The places of the objects below N stay. -/
def BKeep (N : Nat) (β β' : Bs) : Prop := ∀ j i x, j < N → β j i = some x → β' j i = some x
theorem BKeep.refl (N : Nat) (β : Bs) : BKeep N β β := fun _ _ _ _ h => h
theorem BKeep.trans {N : Nat} {β β1 β2 : Bs} (h : BKeep N β β1) (h' : BKeep N β1 β2) : BKeep N β β2 := fun j i x hj hx => h' j i x hj (h j i x hj hx)
theorem BKeep.mono {N M : Nat} {β β' : Bs} (h : BKeep N β β') (hm : M ≤ N) : BKeep M β β' := fun j i x hj hx => h j i x (by omega) hx
mutual
theorem ok_keep {N : Nat} {β β' : Bs} (hb : BKeep N β β') : ∀ (x : SV) (u : Value), refB N x = true → Ok β x u → Ok β' x u
  | .v _, _, _, h => h
  | .p j i c, u, hr, h => by
    simp only [refB, decide_eq_true_eq] at hr
    simp only [Ok] at h ⊢
    obtain ⟨g, b, h1, h2⟩ := h
    exact ⟨g, b, hb _ _ _ hr h1, h2⟩
  | .e j i k c sz, u, hr, h => by
    simp only [refB, decide_eq_true_eq] at hr
    simp only [Ok] at h ⊢
    obtain ⟨g, b, h1, h2⟩ := h
    exact ⟨g, b, hb _ _ _ hr h1, h2⟩
  | .s j i o len cap sz, u, hr, h => by
    simp only [refB, decide_eq_true_eq] at hr
    simp only [Ok] at h ⊢
    obtain ⟨A, h1, h0, h2⟩ := h
    exact ⟨A, h1, h0, fun hc => let ⟨g, b, h3, h4⟩ := h2 hc; ⟨g, b, hb _ _ _ hr h3, h4⟩⟩
  | .f fn fs cs, u, hr, h => by
    simp only [refB, Bool.and_eq_true] at hr
    simp only [Ok] at h ⊢
    obtain ⟨xs, ys, h1, h2, h3⟩ := h
    exact ⟨xs, ys, h1, okL_keep hb _ _ hr.1 h2, okL_keep hb _ _ hr.2 h3⟩
  | .a l, u, hr, h => by
    simp only [refB] at hr
    simp only [Ok] at h ⊢
    obtain ⟨xs, h1, h2⟩ := h
    exact ⟨xs, h1, okL_keep hb _ _ hr h2⟩
  | .t l, u, hr, h => by
    simp only [refB] at hr
    simp only [Ok] at h ⊢
    obtain ⟨xs, h1, h2⟩ := h
    exact ⟨xs, h1, okL_keep hb _ _ hr h2⟩
  | .m j, u, hr, h => by
    simp only [refB, decide_eq_true_eq] at hr
    simp only [Ok] at h ⊢
    obtain ⟨g, b, h1, h2⟩ := h
    exact ⟨g, b, hb _ _ _ hr h1, h2⟩
  | .und, _, _, h => h
  | .junk, _, _, _ => by simp only [Ok]
theorem okL_keep {N : Nat} {β β' : Bs} (hb : BKeep N β β') : ∀ (l : List SV) (us : List Value), refL N l = true → OkL β l us → OkL β' l us
  | [], _, _, h => h
  | x :: l, us, hr, h => by
    simp only [refL, Bool.and_eq_true] at hr
    simp only [OkL] at h ⊢
    obtain ⟨u, us', h1, h2, h3⟩ := h
    exact ⟨u, us', h1, ok_keep hb _ _ hr.1 h2, okL_keep hb _ _ hr.2 h3⟩
end
theorem refS_look {N : Nat} : ∀ {σ : Sl} (d : Nat), refS N σ = true → refB N (look σ d) = true
  | [], d, _ => rfl
  | (k, x) :: l, d, h => by
    simp only [refS, Bool.and_eq_true] at h
    simp only [look]
    cases (k == d) with
    | true => exact h.1
    | false => exact refS_look d h.2
theorem slots_keep {N : Nat} {β β' : Bs} {σ : Sl} {a : Act} (hb : BKeep N β β') (hr : refS N σ = true) (h : SlotsOk β σ a) : SlotsOk β' σ a := fun d => ok_keep hb _ _ (refS_look d hr) (h d)
/-- Between rounds: the memory as the objects say it; the record at D + 1; the block for deferred calls at D. -/
structure Rg (N D : Nat) (r : Loop) (β1 : Bs) (H1 : List Ob) (w1 : World) (β : Bs) (H : List Ob) (w : World) : Prop where
  inv : Inv β H w
  fr : Fr N β1 H1 w1 β H w
  len : N ≤ H.length
  rc : w.heap[D + 1]? = some (.loop r)
  bl : w.heap[D]? = some (.deferred (some []))
  nr : ¬ MemB β H (D + 1)
  nb : ¬ MemB β H D
  old : w1.heap.size ≤ D
theorem Rg.step {N D : Nat} {r : Loop} {β1 β β' : Bs} {H1 H H' : List Ob} {w1 w w' : World} (h : Rg N D r β1 H1 w1 β H w) (hI : Inv β' H' w') (hf : Fr N β H w β' H' w') (hl : N ≤ H'.length) : Rg N D r β1 H1 w1 β' H' w' where
  inv := hI
  fr := h.fr.trans hf
  len := hl
  rc := (hf.block _ (heap_lt h.rc) fun ho => h.nr (own_memB ho)).trans h.rc
  bl := (hf.block _ (heap_lt h.bl) fun ho => h.nb (own_memB ho)).trans h.bl
  nr := fun hm => h.nr (hf.mem _ (heap_lt h.rc) hm)
  nb := fun hm => h.nb (hf.mem _ (heap_lt h.bl) hm)
  old := h.old
theorem inv_putL {β : Bs} {H : List Ob} {w : World} {D : Nat} {o : Obj} (h : Inv β H w) (hn : ¬ MemB β H D) (hd : ∃ x, w.heap[D]? = some (.loop x)) : Inv β H (w.putObj D o) := by
  refine ⟨⟨fun j ob ho => (h.ob j ob ho).same (BLe.refl β) (fun _ h => h) (Nat.le_of_eq World.putObj_size.symm) (fun i g b hm hg => World.putObj_heap_other fun e => hn ⟨j, i, ob, b, ho, hm, e ▸ hg⟩), h.out, h.sep, h.bey⟩, fun x hx => ?_⟩
  obtain ⟨h1, h2, h3, h4⟩ := h.gl x hx
  have hne : x.1 ≠ D := fun e => by
    obtain ⟨y, hy⟩ := hd
    have := h3 0 _ (List.getElem?_eq_getElem h2)
    rw [e] at this
    simp [World.cell?, hy] at this
  exact ⟨by rw [World.putObj_size]; exact h1, h2, fun k v hv => (World.cell?_of_block (w := w) (a := ⟨x.1, k, none⟩) (World.putObj_heap_other hne)).trans (h3 k v hv), h4⟩
theorem Rg.put {N D : Nat} {r r' : Loop} {β1 β : Bs} {H1 H : List Ob} {w1 w : World} (h : Rg N D r β1 H1 w1 β H w) : Rg N D r' β1 H1 w1 β H (w.putObj (D + 1) (.loop r')) where
  inv := inv_putL h.inv h.nr ⟨_, h.rc⟩
  fr := fr_put h.fr (by have := h.old; omega)
  len := h.len
  rc := World.putObj_heap_same (heap_lt h.rc)
  bl := (World.putObj_heap_other (by omega)).trans h.bl
  nr := h.nr
  nb := h.nb
  old := h.old
/-- How a round may end. -/
def rndK (N : Nat) (KN KR : List Ob → Prop) (e : Exit) (σ : Sl) (H : List Ob) : Prop :=
  match e with
  | .normal => ∃ H', SWk N σ H [] H' ∧ KN H'
  | .ret => ∃ H', SWk N σ H [] H' ∧ KR H'
  | _ => False
def asgK (E : Env) (body : Code) (K : Kt) (e : Exit) (σ : Sl) (H : List Ob) : Prop :=
  match e with
  | .normal => ex E body σ H K
  | _ => False
def rcd (fn : FuncId) (tmps : Array Value) (ps : Array Tmp) (assign body : Code) (D : Nat) (st : LoopState) (pe : Option Code) : Loop := { state := st, pending := pe, fn, tmps, params := ps, assign, body, defers := D }
/-- **One round.** -/
theorem round_ok {E : Env} (hm : E.P.follows .mixedOrders = true) {N D n t : Nat} {fn : FuncId} {a : Act} {assign body : Code} {ps : Array Tmp} {β1 β : Bs} {H1 H : List Ob} {w1 w : World} {σ : Sl} {v : Value} {x : SV} {KN KR : List Ob → Prop}
    (hR : Rg N D (rcd fn a.tmps ps assign body D .ready none) β1 H1 w1 β H w) (hσ : SlotsOk β σ a) (hn : a.tmps.size = E.nt) (ht : t < E.nt) (hv : Ok β x v) (ha : okRnd E.nt E.pl assign = true) (hb : okRnd E.nt E.pl body = true)
    (hx : ex { E with n0 := N, it := true } assign ((t, x) :: σ) H (asgK { E with n0 := N, it := true } body (rndK N KN KR))) :
    RoundIn Fence.wide n E.P (D + 1) fn (a.tmps.setIfInBounds t v) assign body w fun e w' => ∃ β' H', BKeep N β β' ∧
      ((e = .returned (.bool true) ∧ Rg N D (rcd fn a.tmps ps assign body D .ready none) β1 H1 w1 β' H' w' ∧ KN H') ∨
       (e = .returned (.bool false) ∧ Rg N D (rcd fn a.tmps ps assign body D .done (some .ret)) β1 H1 w1 β' H' w' ∧ KR H')) := by
  refine roundIn_of_wpIn trivial ?_
  have hs : St { E with n0 := N, it := true } β H w β ((t, x) :: σ) H { tmps := a.tmps.setIfInBounds t v, defers := [] } w :=
    ⟨hR.inv, look_put hσ hv (by omega), by simp [hn], .nil, Fr.refl _ _ _ _, hR.len⟩
  refine wpIn_mono (exR_sound (E := { E with n0 := N, it := true }) hm assign _ H _ ha hx β H w β _ w hs) ?_
  rintro e a2 w2 ⟨β2, σ2, H2, hk, hs2⟩
  cases e with
  | normal =>
    have hR2 := hR.step hs2.inv hs2.fr hs2.n0
    refine ⟨_, run_beginRound hR2.rc rfl, ?_⟩
    have hR3 : Rg N D (rcd fn a.tmps ps assign body D .busy none) β1 H1 w1 β2 H2 (w2.putObj (D + 1) (.loop (rcd fn a.tmps ps assign body D .busy none))) := hR2.put
    have hdf : a2.defers = [] := hs2.defers.no rfl
    have hs3 : St { E with n0 := N, it := true } β2 H2 (w2.putObj (D + 1) (.loop (rcd fn a.tmps ps assign body D .busy none))) β2 σ2 H2 a2 (w2.putObj (D + 1) (.loop (rcd fn a.tmps ps assign body D .busy none))) :=
      ⟨hR3.inv, hs2.slots, hs2.size, by rw [hdf]; exact .nil, Fr.refl _ _ _ _, hs2.n0⟩
    refine wpIn_mono (exR_sound (E := { E with n0 := N, it := true }) hm body _ H2 _ hb hk β2 H2 _ β2 a2 _ hs3) ?_
    rintro e a4 w4 ⟨β4, σ4, H4, hk4, hs4⟩
    cases e with
    | normal =>
      obtain ⟨H5, hw5, hk5⟩ := hk4
      obtain ⟨β5, hs5⟩ := st_wk hs4 hw5
      have hR5 := hR3.step hs5.inv hs5.fr hs5.n0
      exact ⟨_, _, run_endRound none hR5.rc, β5, H5, BKeep.trans hs2.fr.le hs5.fr.le, .inl ⟨rfl, hR5.put, hk5⟩⟩
    | ret =>
      obtain ⟨H5, hw5, hk5⟩ := hk4
      obtain ⟨β5, hs5⟩ := st_wk hs4 hw5
      have hR5 := hR3.step hs5.inv hs5.fr hs5.n0
      exact ⟨_, _, run_endRound (some .ret) hR5.rc, β5, H5, BKeep.trans hs2.fr.le hs5.fr.le, .inr ⟨rfl, hR5.put, hk5⟩⟩
    | _ => exact hk4.elim
  | _ => exact hk.elim
/-- What a function that is ranged over does: it calls yield at each of its values in turn, as long as yield says so; between the calls it turns its own objects 'B s' alone. -/
def Iter (P : Program) (g : FuncId) (cs : List SV) (m : Nat) {S : Type} (B : S → List Ob) (s0 : S) (vals : List Value) : Prop :=
  ∀ (l : Nat) (tmps : Array Value) (fn : FuncId) (t : Nat) (assign body : Code) (W : List Value → S → Bs → List Ob → World → Prop) (Z : World → Prop),
    (∀ d s β T w, W d s β T w → Inv β (B s ++ T) w ∧ (∀ v, (Instr.yield l #[v]).run P w = .ok (.round l fn (tmps.setIfInBounds t v) assign body) w)) →
    (∀ d s s' β β' T w w', W d s β T w → Inv β' (B s' ++ T) w' → Fr (B s ++ T).length β (B s ++ T) w β' (B s' ++ T) w' → (B s').length = (B s).length → W d s' β' T w') →
    (∀ d v rest s β T w, vals = d ++ v :: rest → W d s β T w → RoundIn Fence.wide 0 P l fn (tmps.setIfInBounds t v) assign body w fun e w' =>
      (e = .returned (.bool true) ∧ ∃ β' T', BKeep m β β' ∧ W (d ++ [v]) s β' T' w') ∨ (e = .returned (.bool false) ∧ Z w')) →
    ∀ β T w us, W [] s0 β T w → OkL β cs us → CallsIn Fence.wide 0 P g (#[.func (.yield l) #[] #[]] ++ us.toArray) w fun e w' => ∃ v, e = .returned v ∧ ((∃ s β' T', W vals s β' T' w') ∨ Z w')
/-- **The statement.** -/
theorem tr_range {E : Env} {g : Operand} {t : Nat} {assign body : Code} {σ : Sl} {H : List Ob} {K : Kt} {gf : FuncId} {cs : List SV} {m : Nat} {S : Type} {B : S → List Ob} {s0 : S} {vals : List Value} (N : Nat) (C : List Value → List Ob → Prop)
    (hm : E.P.follows .mixedOrders = true) (hit : Iter E.P gf cs m B s0 vals) (hB : ∀ s s', (B s').length = (B s).length) (hg : ev σ g = .f (.func gf) [] cs) (hcall : ∀ args w, (callFunc gf args).run E.P w = .ok (.enter gf args) w)
    (hok : (decide (E.n0 ≤ N) && decide (m ≤ N) && refS N σ && !E.it && decide (t < E.nt) && okRnd E.nt E.pl assign && okRnd E.nt E.pl body) = true) {T0 : List Ob} (hH : H = B s0 ++ T0) (hNH : N ≤ H.length) (h0 : C [] T0)
    (hround : ∀ d v rest s T, vals = d ++ v :: rest → C d T → ex { E with n0 := N, it := true } assign ((t, .v v) :: σ) (B s ++ T) (asgK { E with n0 := N, it := true } body (rndK N (fun H' => ∃ T', H' = B s ++ T' ∧ C (d ++ [v]) T') (fun H' => K .ret σ H'))))
    (hdone : ∀ s T, C vals T → K .normal σ (B s ++ T)) : Tr E (.rangeFunc g #[t] assign body) σ H K := by
  simp only [Bool.and_eq_true, decide_eq_true_eq, Bool.not_eq_true'] at hok
  obtain ⟨⟨⟨⟨⟨⟨hN, hmN⟩, hr⟩, hE⟩, ht⟩, hka⟩, hkb⟩ := hok
  intro β0 H0 w0 β a w hs
  refine (wpIn_wide (n := 0)).1 (wpIn_rangeFunc ?_)
  intro fn hfn
  have hgv := ev_ok hs.slots g
  rw [hg] at hgv
  simp only [Ok] at hgv
  obtain ⟨xs, ys, hgv, hxs, hys⟩ := hgv
  have hxs : xs = #[] := by simp only [OkL] at hxs; exact Array.toList_eq_nil_iff.1 hxs
  subst hxs
  obtain ⟨D, hD⟩ : ∃ D, D = w.heap.size := ⟨_, rfl⟩
  obtain ⟨W1, hW1⟩ : ∃ W1, (w.alloc (.deferred (some []))).alloc (.loop (rcd fn a.tmps #[t] assign body D .ready none)) = W1 := ⟨_, rfl⟩
  have hL1 : W1.heap[D + 1]? = some (.loop (rcd fn a.tmps #[t] assign body D .ready none)) := by
    rw [← hW1, hD]; have := World.alloc_heap_new (w.alloc (.deferred (some []))) (.loop (rcd fn a.tmps #[t] assign body w.heap.size .ready none)); rwa [World.size_alloc] at this
  have hK1 : W1.heap[D]? = some (.deferred (some [])) := by
    rw [← hW1, hD]; exact (Below.heap_alloc _ _ _ (by simp)).trans (World.alloc_heap_new w _)
  have hbel : Below w.heap.size w W1 := by
    rw [← hW1]; exact ((Below.refl _ w).alloc (Nat.le_refl _) _).alloc (by simp) _
  have hnot : ∀ g, w.heap.size ≤ g → ¬ MemB β H g := fun g hg ⟨j, i, o, b, h1, h2, h3⟩ => by
    have := (hs.inv.ob j o h1).block h2 h3
    omega
  have hR1 : Rg N D (rcd fn a.tmps #[t] assign body D .ready none) β H w β H W1 :=
    ⟨hs.inv.below hbel, Fr.below hbel, hNH, hL1, hK1, hnot _ (by omega), hnot _ (by omega), by omega⟩
  have hmark : ∀ {β' : Bs} {H' : List Ob} {w' : World} {r : Loop}, Rg N D r β H w β' H' w' → St E β0 H0 w0 β' σ H' { a with defers := [{ target := .collected D, args := #[] }] ++ a.defers } w' := fun {β' H' w' r} h => by
    refine ⟨h.inv, slots_keep (N := N) h.fr.le hr hs.slots, hs.size, ⟨fun d hd => ?_, ?_, fun e => by rw [hE] at e; cases e⟩, hs.fr.trans (h.fr.mono hN hNH), Nat.le_trans hN h.len⟩
    · simp only [List.singleton_append, List.mem_cons] at hd
      rcases hd with rfl | hd
      · exact ⟨D, rfl, by have := hs.fr.size; omega, h.bl, h.nb⟩
      · exact (hs.defers.fr h.fr).one d hd
    · simp only [List.singleton_append, List.pairwise_cons]
      refine ⟨fun d hd D' hD' hd' => ?_, hs.defers.nd⟩
      obtain ⟨D2, rfl, k2, k3, k4⟩ := hs.defers.one d hd
      simp only [Target.collected.injEq] at hD' hd'
      have := heap_lt k3
      omega
  refine ⟨D + 1, [{ target := .collected D, args := #[] }], W1, { target := .fn (.func gf) ys, args := #[.func (.yield (D + 1)) #[] #[]] }, W1, gf,
    #[.func (.yield (D + 1)) #[] #[]] ++ ys, W1, ?_, ?_, ?_, ?_, fun e => by simp [Fence.wide] at e, ?_⟩
  · rw [← hW1, hD]; exact run_enterLoop_outer _ _ _ _ _
  · simp only [resolve, hgv]
    simp [go_sem]
  · intro f' hf'; trivial
  · simp [invoke, go_sem, hcall]
  · have hW := hit (D + 1) a.tmps fn t assign body (fun d s β' T w' => Rg N D (rcd fn a.tmps #[t] assign body D .ready none) β H w β' (B s ++ T) w' ∧ C d T) (fun w' => ∃ β' H', Rg N D (rcd fn a.tmps #[t] assign body D .done (some .ret)) β H w β' H' w' ∧ K .ret σ H')
      (fun d s β' T w' ⟨h, _⟩ => ⟨h.inv, fun v => by have := run_yield (P := E.P) (args := #[v]) h.rc rfl; simpa [rcd] using this⟩)
      (fun d s s' β' β2 T w' w2 ⟨h, hC⟩ hI hf hl => ⟨h.step hI (hf.mono h.len (Nat.le_refl _)) (by have := h.len; simp only [List.length_append] at this ⊢; omega), hC⟩)
      (fun d v rest s β' T w' hv ⟨h, hC⟩ => by
        refine (round_ok hm h (slots_keep (N := N) h.fr.le hr hs.slots) hs.size ht (x := .v v) (v := v) (by simp only [Ok]) hka hkb (hround d v rest s T hv hC)).mono ?_
        rintro e w2 ⟨β2, H2, hk, (⟨rfl, h2, T2, rfl, hC2⟩ | ⟨rfl, h2, hC2⟩)⟩
        · exact .inl ⟨rfl, β2, T2, hk.mono (by omega), h2, hC2⟩
        · exact .inr ⟨rfl, β2, H2, h2, hC2⟩)
      β T0 W1 ys.toList ⟨hH ▸ hR1, h0⟩ hys
    have e1 : ys.toList.toArray = ys := by simp
    rw [e1] at hW
    refine hW.mono ?_
    rintro e w2 ⟨v, rfl, (⟨s, β2, T2, h2, hC2⟩ | ⟨β2, H2, h2, hK2⟩)⟩
    · exact ⟨none, _, run_endLoop h2.rc (by simp [rcd]), β2, σ, _, hdone s T2 hC2, hmark h2.put⟩
    · exact ⟨some .ret, _, run_endLoop h2.rc (by simp [rcd]), wpIn_ret ⟨β2, σ, H2, hK2, hmark h2.put⟩⟩
end Go.Proofs.Ytekokeiajgcfkaa
