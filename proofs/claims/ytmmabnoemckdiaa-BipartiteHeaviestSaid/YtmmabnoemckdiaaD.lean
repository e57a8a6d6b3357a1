/- Contract: the search of a greatest matching. -/
import Derived.Test.YtmmabnoemckdiaaC
import Derived.Test.YtmmabnoemckdiaaKB
set_option maxRecDepth 100000
set_option linter.unusedSimpArgs false
set_option linter.unusedVariables false
namespace Go.Proofs.Ytmmabnoemckdiaa
open Go.RowKit Bip
/-- Ints of its own: by their function. -/
def oI (n cap : Nat) (f : Nat → Int) : Ob := ⟨3, false, .row 1 1 (fun _ => n) (fun _ => cap) (fun _ k => [.v (.int .i64 (f k))])⟩
/-- Lists of neighbours that are only read, and what is in them. -/
def oNe (F N : Nat) (near : Nat → List Int) (cp : Nat → Nat) : Ob := ⟨25, true, .row 1 1 (fun _ => N) (fun _ => 0) (fun _ k => [.s F k 0 (near k).length (cp k) 1])⟩
def oNf (N : Nat) (near : Nat → List Int) : Ob := ⟨3, true, .row 1 N (fun k => (near k).length) (fun _ => 0) (fun k q => [.v (.int .i64 (ix (near k) q))])⟩
attribute [push_cast] oI oNe oNf
/-- What the search has at hand. -/
def hG (N m c sc pc : Nat) (near : Nat → List Int) (cp : Nat → Nat) (st : Sg) : List Ob :=
  [⟨22, false, .st [.s 1 0 0 N c 1]⟩, oNe 2 N near cp, oNf N near, ⟨71, false, .st [.s 4 0 0 m sc 1]⟩, oB m sc st.sn, ⟨25, false, .st [.s 6 0 0 m pc 1]⟩, oI m pc st.pt, ⟨63, false, .st [.f (.func 71) [] [.p 0 0 0, .p 3 0 0, .p 5 0 0, .p 7 0 0]]⟩]
attribute [push_cast] hG
theorem upB {k j i : Nat} {x y : Bool} {rl : List Nat} (hi : i < 1) : Value.bool (bif k == j then x else y) = Value.bool (bif i == 0 && k == j then x else y) ∧ mtL rl [] (bif i == 0 && k == j then [] else []) := by
  obtain rfl : i = 0 := by omega
  cases k == j <;> exact ⟨rfl, trivial⟩
theorem upI {k j i : Nat} {x y : Int} {rl : List Nat} (hi : i < 1) : Value.int IntKind.i64 (bif k == j then x else y) = Value.int IntKind.i64 (bif i == 0 && k == j then x else y) ∧ mtL rl [] (bif i == 0 && k == j then [] else []) := by
  obtain rfl : i = 0 := by omega
  cases k == j <;> exact ⟨rfl, trivial⟩
structure Nbr (N m : Nat) (near : Nat → List Int) : Prop where
  nn : ∀ i, ∀ x ∈ near i, 0 ≤ x ∧ x < (m : Int)
  len : ∀ i, (near i).length ≤ 1000000
def Bnd (N m : Nat) (st : Sg) : Prop := ∀ j, j < m → st.pt j < (N : Int)
theorem try_bnd {N m : Nat} {rec : Nat → Sg → Bool × Sg} (hr : ∀ k s, k < N → Bnd N m s → Bnd N m (rec k s).2) {i : Nat} (hi : i < N) : ∀ (l : List Int) (st : Sg), (∀ x ∈ l, x.toNat < m) → Bnd N m st → Bnd N m (tryL rec i l st).2
  | [], _, _, h => h
  | x :: js, st, hl, h => by
    have hx := hl x List.mem_cons_self
    have hl2 : ∀ y ∈ js, y.toNat < m := fun y hy => hl y (List.mem_cons_of_mem _ hy)
    rw [tryL]
    cases hs : st.sn x.toNat with
    | true => exact try_bnd hr hi js st hl2 h
    | false =>
      simp only [cond_false]
      have up : ∀ s : Sg, Bnd N m s → ∀ j, j < m → upd s.pt x.toNat (i : Int) j < (N : Int) := fun s hs j hj => by
        by_cases e : j = x.toNat
        · subst e; rw [upd_same]; omega
        · rw [upd_ne _ _ e]; exact hs j hj
      cases hp : decide (st.pt x.toNat < 0) with
      | true => exact up st h
      | false =>
        simp only [cond_false]
        simp at hp
        have h1 := hr (st.pt x.toNat).toNat ⟨st.pt, upd st.sn x.toNat true⟩ (by have := h _ hx; omega) h
        split
        · rename_i st2 e
          rw [e] at h1
          exact up st2 h1
        · rename_i st2 e
          rw [e] at h1
          exact try_bnd hr hi js st2 hl2 h1
theorem grow_bnd {N m : Nat} {near : Nat → List Int} (hn : ∀ i, ∀ x ∈ near i, x.toNat < m) : ∀ (f i : Nat) (st : Sg), i < N → Bnd N m st → Bnd N m (growF near f i st).2
  | 0, _, _, _, h => h
  | f + 1, i, st, hi, h => try_bnd (fun k s h1 h2 => grow_bnd hn f k s h1 h2) hi (near i) st (hn i) h
theorem Nbr.lt {N m : Nat} {near : Nat → List Int} (h : Nbr N m near) : ∀ i, ∀ x ∈ near i, x.toNat < m := fun i x hx => by have := h.nn i x hx; omega
theorem try_drop {rec : Nat → Sg → Bool × Sg} {i k : Nat} {l : List Int} {st : Sg} (hk : k < l.length) : tryL rec i (l.drop k) st =
    bif st.sn (ix l k).toNat then tryL rec i (l.drop (k + 1)) st else
    bif decide (st.pt (ix l k).toNat < 0) then (true, ⟨upd st.pt (ix l k).toNat i, upd st.sn (ix l k).toNat true⟩) else
    match rec (st.pt (ix l k).toNat).toNat ⟨st.pt, upd st.sn (ix l k).toNat true⟩ with
    | (true, st2) => (true, ⟨upd st2.pt (ix l k).toNat i, st2.sn⟩)
    | (false, st2) => tryL rec i (l.drop (k + 1)) st2 := by
  rw [List.drop_eq_getElem_cons hk, ← ix_eq hk, tryL]
  rfl
set_option maxHeartbeats 4000000 in
theorem grow_sp {N m : Nat} {near : Nat → List Int} (c sc pc : Nat) (cp : Nat → Nat) (hN : N ≤ 1000000) (hm : m ≤ 1000000) (hb : Nbr N m near) : ∀ (f i : Nat) (st : Sg), unseen m st < f → i < N → Bnd N m st →
    Sp Try.prog 71 [.v (.int .i64 i), .p 0 0 0, .p 3 0 0, .p 5 0 0, .p 7 0 0] (hG N m c sc pc near cp st) (fun r H => r = .v (.bool (growF near f i st).1) ∧ H = hG N m c sc pc near cp (growF near f i st).2)
  | 0, _, _, hu, _, _ => by omega
  | f + 1, i, st0, hu, hi, hbd => by
    have hlen := hb.len i
    refine sp_weak ?_
    refine sp_of_ex true [(6, .jn (.one 1 (.one 0 (.one 2 (.one 3 (.one 4 (.one 5 (.one 8 (.alt [(6, .one 7 (.one 9 (.one 10 (.one 11 (.one 12 .fin))))), (7, .one 9 (.alt [(6, .one 10 (.one 11 (.one 12 .fin))), (10, .one 6 (.one 11 (.one 12 .fin)))]))])))))))))] mixed Try.call71 Try.func71 rfl Try.ntmps71 Try.results71 (by decide +kernel) rfl ?_
    simp only [push_cast, ↓branch_true, ↓branch_false, Nat.reduceBEq, Nat.reduceAdd, Nat.reduceMul, Nat.reduceSub, Int.reduceToNat, reduceCtorEq, branch_decide, branch_not, branch_beq, branch_bne, Int.reduceAdd, Int.reduceEq, Int.reduceLE, Int.reduceLT, Nat.reduceLT, Nat.reduceLeDiff, false_imp_iff, true_imp_iff]
    repeat (with_reducible refine And.intro (by omega) ?_)
    refine tr_loop mixed (by kernel_rfl) (fun (x : Nat × Sg) => [(14, .v (.int .i64 x.1)), (13, .v (.int .i64 (near i).length)), (12, .s 2 i 0 (near i).length (cp i) 1), (0, .v (.int .i64 i)), (1, .p 0 0 0), (2, .p 3 0 0), (3, .p 5 0 0), (4, .p 7 0 0)])
      (fun x => hG N m c sc pc near cp x.2) (fun x => x.1 ≤ (near i).length ∧ tryL (growF near f) i ((near i).drop x.1) x.2 = growF near (f + 1) i st0 ∧ Bnd N m x.2 ∧ unseen m x.2 ≤ unseen m st0) (fun x => (near i).length - x.1) (0, st0) ⟨Nat.zero_le _, rfl, hbd, Nat.le_refl _⟩ (Mt.wk (rl := [0, 1, 2, 3, 4, 5, 6, 7]) ⟨by kernel_rfl, ?_, ?_⟩) ?_
    · simp only [push_cast, ↓branch_true, ↓branch_false, Nat.reduceBEq, Nat.reduceAdd, Nat.reduceMul, Nat.reduceSub, Int.reduceToNat, reduceCtorEq, branch_decide, branch_not, branch_beq, branch_bne, Int.reduceAdd, Int.reduceEq, Int.reduceLE, Int.reduceLT, Nat.reduceLT, Nat.reduceLeDiff, false_imp_iff, true_imp_iff]
      try trivial
    · simp only [push_cast, ↓branch_true, ↓branch_false, Nat.reduceBEq, Nat.reduceAdd, Nat.reduceMul, Nat.reduceSub, Int.reduceToNat, reduceCtorEq, branch_decide, branch_not, branch_beq, branch_bne, Int.reduceAdd, Int.reduceEq, Int.reduceLE, Int.reduceLT, Nat.reduceLT, Nat.reduceLeDiff, false_imp_iff, true_imp_iff]
      try trivial
    rintro ⟨k, st⟩ ⟨h1, h2, h3, h4⟩
    simp only at h1 h2 h3 h4
    simp only [push_cast, ↓branch_true, ↓branch_false, Nat.reduceBEq, Nat.reduceAdd, Nat.reduceMul, Nat.reduceSub, Int.reduceToNat, reduceCtorEq, branch_decide, branch_not, branch_beq, branch_bne, Int.reduceAdd, Int.reduceEq, Int.reduceLE, Int.reduceLT, Nat.reduceLT, Nat.reduceLeDiff, false_imp_iff, true_imp_iff]
    refine ⟨fun h0 => ?_, fun h0 => ?_⟩
    · have hk : k < (near i).length := by omega
      have hx := hb.nn i _ (ix_mem hk)
      rw [try_drop hk] at h2
      repeat (with_reducible refine And.intro (by omega) ?_)
      generalize hxx : ix (near i) k = x at *
      cases hs : st.sn x.toNat with
      | true =>
        rw [hs, cond_true] at h2
        simp only [push_cast, ↓branch_true, ↓branch_false, Nat.reduceBEq, Nat.reduceAdd, Nat.reduceMul, Nat.reduceSub, Int.reduceToNat, reduceCtorEq, branch_decide, branch_not, branch_beq, branch_bne, Int.reduceAdd, Int.reduceEq, Int.reduceLE, Int.reduceLT, Nat.reduceLT, Nat.reduceLeDiff, false_imp_iff, true_imp_iff]
        repeat (with_reducible refine And.intro (by omega) ?_)
        refine lpK_normal (k + 1, st) [0, 1, 2, 3, 4, 5, 6, 7] ⟨by simp only; omega, h2, h3, h4⟩ (by simp only; omega) (by kernel_rfl) ?_ ?_
        · simp only [push_cast, ↓branch_true, ↓branch_false, Nat.reduceBEq, Nat.reduceAdd, Nat.reduceMul, Nat.reduceSub, Int.reduceToNat, reduceCtorEq, branch_decide, branch_not, branch_beq, branch_bne, Int.reduceAdd, Int.reduceEq, Int.reduceLE, Int.reduceLT, Nat.reduceLT, Nat.reduceLeDiff, false_imp_iff, true_imp_iff]
        · simp only [push_cast, ↓branch_true, ↓branch_false, Nat.reduceBEq, Nat.reduceAdd, Nat.reduceMul, Nat.reduceSub, Int.reduceToNat, reduceCtorEq, branch_decide, branch_not, branch_beq, branch_bne, Int.reduceAdd, Int.reduceEq, Int.reduceLE, Int.reduceLT, Nat.reduceLT, Nat.reduceLeDiff, false_imp_iff, true_imp_iff]
      | false =>
        rw [hs, cond_false] at h2
        have hm1 := unseen_mark (m := m) (st := st) (j := x.toNat) (by omega) hs
        simp only [push_cast, ↓branch_true, ↓branch_false, Nat.reduceBEq, Nat.reduceAdd, Nat.reduceMul, Nat.reduceSub, Int.reduceToNat, reduceCtorEq, branch_decide, branch_not, branch_beq, branch_bne, Int.reduceAdd, Int.reduceEq, Int.reduceLE, Int.reduceLT, Nat.reduceLT, Nat.reduceLeDiff, false_imp_iff, true_imp_iff]
        repeat (with_reducible refine And.intro (by omega) ?_)
        by_cases hp : st.pt x.toNat < 0
        · rw [decide_eq_true hp, cond_true] at h2
          refine ⟨[(37, .v (.bool true)), (14, .v (.int .i64 k)), (13, .v (.int .i64 (near i).length)), (12, .s 2 i 0 (near i).length (cp i) 1), (8, .v (.int .i64 x)), (0, .v (.int .i64 i)), (1, .p 0 0 0), (2, .p 3 0 0), (3, .p 5 0 0), (4, .p 7 0 0)], hG N m c sc pc near cp ⟨st.pt, upd st.sn x.toNat true⟩, ?_, ?_⟩
          · repeat' (first | (with_reducible apply And.intro) | omega | (with_reducible intro _))
            all_goals first
              | omega
              | (refine Mt.wk (rl := [0, 1, 2, 3, 4, 5, 6, 7]) ⟨by kernel_rfl, ?_, ?_⟩
                 · simp only [push_cast, ↓branch_true, ↓branch_false, Nat.reduceBEq, Nat.reduceAdd, Nat.reduceMul, Nat.reduceSub, Int.reduceToNat, reduceCtorEq, branch_decide, branch_not, branch_beq, branch_bne, Int.reduceAdd, Int.reduceEq, Int.reduceLE, Int.reduceLT, Nat.reduceLT, Nat.reduceLeDiff, false_imp_iff, true_imp_iff]
                   try trivial
                 · simp only [push_cast, ↓branch_true, ↓branch_false, Nat.reduceBEq, Nat.reduceAdd, Nat.reduceMul, Nat.reduceSub, Int.reduceToNat, reduceCtorEq, branch_decide, branch_not, branch_beq, branch_bne, Int.reduceAdd, Int.reduceEq, Int.reduceLE, Int.reduceLT, Nat.reduceLT, Nat.reduceLeDiff, false_imp_iff, true_imp_iff, upd]
                   exact fun _ hi q _ => upB hi
                 )
          simp only [push_cast, ↓branch_true, ↓branch_false, Nat.reduceBEq, Nat.reduceAdd, Nat.reduceMul, Nat.reduceSub, Int.reduceToNat, reduceCtorEq, branch_decide, branch_not, branch_beq, branch_bne, Int.reduceAdd, Int.reduceEq, Int.reduceLE, Int.reduceLT, Nat.reduceLT, Nat.reduceLeDiff, false_imp_iff, true_imp_iff, jnK]
          repeat (with_reducible refine And.intro (by omega) ?_)
          rw [← h2]
          refine ⟨_, _, [0, 1, 2, 3, 4, 5, 6, 7], ?_, by kernel_rfl, ?_, rfl, rfl⟩
          · simp only [push_cast, ↓branch_true, ↓branch_false, Nat.reduceBEq, Nat.reduceAdd, Nat.reduceMul, Nat.reduceSub, Int.reduceToNat, reduceCtorEq, branch_decide, branch_not, branch_beq, branch_bne, Int.reduceAdd, Int.reduceEq, Int.reduceLE, Int.reduceLT, Nat.reduceLT, Nat.reduceLeDiff, false_imp_iff, true_imp_iff]
          · simp only [push_cast, ↓branch_true, ↓branch_false, Nat.reduceBEq, Nat.reduceAdd, Nat.reduceMul, Nat.reduceSub, Int.reduceToNat, reduceCtorEq, branch_decide, branch_not, branch_beq, branch_bne, Int.reduceAdd, Int.reduceEq, Int.reduceLE, Int.reduceLT, Nat.reduceLT, Nat.reduceLeDiff, false_imp_iff, true_imp_iff, upd]
            exact fun _ hi q _ => upI hi
        · rw [decide_eq_false hp, cond_false] at h2
          have hpN := h3 x.toNat (by omega)
          have hr := grow_sp c sc pc cp hN hm hb f (st.pt x.toNat).toNat ⟨st.pt, upd st.sn x.toNat true⟩ (by omega) (by omega) h3
          have hbr := grow_bnd hb.lt f (st.pt x.toNat).toNat ⟨st.pt, upd st.sn x.toNat true⟩ (by omega) h3
          have hkr := grow_keeps near f (st.pt x.toNat).toNat ⟨st.pt, upd st.sn x.toNat true⟩
          rw [show (((st.pt x.toNat).toNat : Nat) : Int) = st.pt x.toNat by omega] at hr
          generalize hgr : growF near f (st.pt x.toNat).toNat ⟨st.pt, upd st.sn x.toNat true⟩ = gr at *
          obtain ⟨b, st2⟩ := gr
          simp only at h2 hbr hkr hr
          refine ⟨[(37, .v (.bool b)), (14, .v (.int .i64 k)), (13, .v (.int .i64 (near i).length)), (12, .s 2 i 0 (near i).length (cp i) 1), (8, .v (.int .i64 x)), (0, .v (.int .i64 i)), (1, .p 0 0 0), (2, .p 3 0 0), (3, .p 5 0 0), (4, .p 7 0 0)], hG N m c sc pc near cp st2, ?_, ?_⟩
          · repeat' (first | (with_reducible apply And.intro) | omega | (with_reducible intro _))
            all_goals first
              | omega
              | (refine sp_at hr [0, 1, 2, 3, 4, 5, 6, 7] rfl ?_ ?_ ?_
                 · simp only [push_cast, ↓branch_true, ↓branch_false, Nat.reduceBEq, Nat.reduceAdd, Nat.reduceMul, Nat.reduceSub, Int.reduceToNat, reduceCtorEq, branch_decide, branch_not, branch_beq, branch_bne, Int.reduceAdd, Int.reduceEq, Int.reduceLE, Int.reduceLT, Nat.reduceLT, Nat.reduceLeDiff, false_imp_iff, true_imp_iff]
                   try trivial
                 · simp only [push_cast, ↓branch_true, ↓branch_false, Nat.reduceBEq, Nat.reduceAdd, Nat.reduceMul, Nat.reduceSub, Int.reduceToNat, reduceCtorEq, branch_decide, branch_not, branch_beq, branch_bne, Int.reduceAdd, Int.reduceEq, Int.reduceLE, Int.reduceLT, Nat.reduceLT, Nat.reduceLeDiff, false_imp_iff, true_imp_iff, upd]
                   exact fun _ hi q _ => upB hi
                 rintro _ _ ⟨rfl, rfl⟩
                 simp only [push_cast, ↓branch_true, ↓branch_false, Nat.reduceBEq, Nat.reduceAdd, Nat.reduceMul, Nat.reduceSub, Int.reduceToNat, reduceCtorEq, branch_decide, branch_not, branch_beq, branch_bne, Int.reduceAdd, Int.reduceEq, Int.reduceLE, Int.reduceLT, Nat.reduceLT, Nat.reduceLeDiff, false_imp_iff, true_imp_iff]
                 refine Mt.wk (rl := [0, 1, 2, 3, 4, 5, 6, 7]) ⟨by kernel_rfl, ?_, ?_⟩
                 · simp only [push_cast, ↓branch_true, ↓branch_false, Nat.reduceBEq, Nat.reduceAdd, Nat.reduceMul, Nat.reduceSub, Int.reduceToNat, reduceCtorEq, branch_decide, branch_not, branch_beq, branch_bne, Int.reduceAdd, Int.reduceEq, Int.reduceLE, Int.reduceLT, Nat.reduceLT, Nat.reduceLeDiff, false_imp_iff, true_imp_iff]
                   try trivial
                 · simp only [push_cast, ↓branch_true, ↓branch_false, Nat.reduceBEq, Nat.reduceAdd, Nat.reduceMul, Nat.reduceSub, Int.reduceToNat, reduceCtorEq, branch_decide, branch_not, branch_beq, branch_bne, Int.reduceAdd, Int.reduceEq, Int.reduceLE, Int.reduceLT, Nat.reduceLT, Nat.reduceLeDiff, false_imp_iff, true_imp_iff]
                   try trivial
                 )
          simp only [push_cast, ↓branch_true, ↓branch_false, Nat.reduceBEq, Nat.reduceAdd, Nat.reduceMul, Nat.reduceSub, Int.reduceToNat, reduceCtorEq, branch_decide, branch_not, branch_beq, branch_bne, Int.reduceAdd, Int.reduceEq, Int.reduceLE, Int.reduceLT, Nat.reduceLT, Nat.reduceLeDiff, false_imp_iff, true_imp_iff, jnK]
          cases b with
          | true =>
            simp only at h2
            simp only [push_cast, ↓branch_true, ↓branch_false, Nat.reduceBEq, Nat.reduceAdd, Nat.reduceMul, Nat.reduceSub, Int.reduceToNat, reduceCtorEq, branch_decide, branch_not, branch_beq, branch_bne, Int.reduceAdd, Int.reduceEq, Int.reduceLE, Int.reduceLT, Nat.reduceLT, Nat.reduceLeDiff, false_imp_iff, true_imp_iff]
            repeat (with_reducible refine And.intro (by omega) ?_)
            rw [← h2]
            refine ⟨_, _, [0, 1, 2, 3, 4, 5, 6, 7], ?_, by kernel_rfl, ?_, rfl, rfl⟩
            · simp only [push_cast, ↓branch_true, ↓branch_false, Nat.reduceBEq, Nat.reduceAdd, Nat.reduceMul, Nat.reduceSub, Int.reduceToNat, reduceCtorEq, branch_decide, branch_not, branch_beq, branch_bne, Int.reduceAdd, Int.reduceEq, Int.reduceLE, Int.reduceLT, Nat.reduceLT, Nat.reduceLeDiff, false_imp_iff, true_imp_iff]
            · simp only [push_cast, ↓branch_true, ↓branch_false, Nat.reduceBEq, Nat.reduceAdd, Nat.reduceMul, Nat.reduceSub, Int.reduceToNat, reduceCtorEq, branch_decide, branch_not, branch_beq, branch_bne, Int.reduceAdd, Int.reduceEq, Int.reduceLE, Int.reduceLT, Nat.reduceLT, Nat.reduceLeDiff, false_imp_iff, true_imp_iff, upd]
              exact fun _ hi q _ => upI hi
          | false =>
            simp only at h2
            simp only [push_cast, ↓branch_true, ↓branch_false, Nat.reduceBEq, Nat.reduceAdd, Nat.reduceMul, Nat.reduceSub, Int.reduceToNat, reduceCtorEq, branch_decide, branch_not, branch_beq, branch_bne, Int.reduceAdd, Int.reduceEq, Int.reduceLE, Int.reduceLT, Nat.reduceLT, Nat.reduceLeDiff, false_imp_iff, true_imp_iff]
            repeat (with_reducible refine And.intro (by omega) ?_)
            have hu2 : unseen m st2 ≤ unseen m ⟨st.pt, upd st.sn x.toNat true⟩ := unseen_le fun j hj => (hkr.seen j hj).1
            refine lpK_normal (k + 1, st2) [0, 1, 2, 3, 4, 5, 6, 7] ⟨by simp only; omega, h2, hbr, by simp only; omega⟩ (by simp only; omega) (by kernel_rfl) ?_ ?_
            · simp only [push_cast, ↓branch_true, ↓branch_false, Nat.reduceBEq, Nat.reduceAdd, Nat.reduceMul, Nat.reduceSub, Int.reduceToNat, reduceCtorEq, branch_decide, branch_not, branch_beq, branch_bne, Int.reduceAdd, Int.reduceEq, Int.reduceLE, Int.reduceLT, Nat.reduceLT, Nat.reduceLeDiff, false_imp_iff, true_imp_iff]
            · simp only [push_cast, ↓branch_true, ↓branch_false, Nat.reduceBEq, Nat.reduceAdd, Nat.reduceMul, Nat.reduceSub, Int.reduceToNat, reduceCtorEq, branch_decide, branch_not, branch_beq, branch_bne, Int.reduceAdd, Int.reduceEq, Int.reduceLE, Int.reduceLT, Nat.reduceLT, Nat.reduceLeDiff, false_imp_iff, true_imp_iff]
    · obtain rfl : k = (near i).length := by omega
      rw [List.drop_length] at h2
      rw [← h2]
      refine ⟨_, _, [0, 1, 2, 3, 4, 5, 6, 7], ?_, by kernel_rfl, ?_, rfl, rfl⟩
      · simp only [push_cast, ↓branch_true, ↓branch_false, Nat.reduceBEq, Nat.reduceAdd, Nat.reduceMul, Nat.reduceSub, Int.reduceToNat, reduceCtorEq, branch_decide, branch_not, branch_beq, branch_bne, Int.reduceAdd, Int.reduceEq, Int.reduceLE, Int.reduceLT, Nat.reduceLT, Nat.reduceLeDiff, false_imp_iff, true_imp_iff, tryL]
      · simp only [push_cast, ↓branch_true, ↓branch_false, Nat.reduceBEq, Nat.reduceAdd, Nat.reduceMul, Nat.reduceSub, Int.reduceToNat, reduceCtorEq, branch_decide, branch_not, branch_beq, branch_bne, Int.reduceAdd, Int.reduceEq, Int.reduceLE, Int.reduceLT, Nat.reduceLT, Nat.reduceLeDiff, false_imp_iff, true_imp_iff, tryL]
end Go.Proofs.Ytmmabnoemckdiaa
