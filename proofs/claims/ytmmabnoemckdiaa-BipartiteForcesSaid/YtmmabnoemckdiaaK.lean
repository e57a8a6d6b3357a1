/- Contract: the reference's search. -/
import Derived.Test.YtmmabnoemckdiaaJ
set_option maxRecDepth 100000
set_option linter.unusedSimpArgs false
set_option linter.unusedVariables false
namespace Go.Proofs.Ytmmabnoemckdiaa
open Go.RowKit Bip
/-- A table of bools that is only read. -/
def oTb (F N M : Nat) (cp : Nat → Nat) : Ob := ⟨71, true, .row 1 1 (fun _ => N) (fun _ => 0) (fun _ k => [.s F k 0 M (cp k) 1])⟩
def oTf (N M : Nat) (E : Nat → Nat → Bool) : Ob := ⟨4, true, .row 1 N (fun _ => M) (fun _ => 0) (fun i k => [.v (.bool (E i k))])⟩
attribute [push_cast] oTb oTf
def hR (N M c pc sc : Nat) (E : Nat → Nat → Bool) (cp : Nat → Nat) (st : Sg) : List Ob :=
  [⟨92, false, .st [.s 1 0 0 N c 1, .s 3 0 0 M pc 1, .s 4 0 0 M sc 1]⟩, oTb 2 N M cp, oTf N M E, oI M pc st.pt, oB M sc st.sn]
attribute [push_cast] hR
def nearFrom (E : Nat → Nat → Bool) (M i k : Nat) : List Int := (((List.range M).drop k).filter (E i)).map Int.ofNat
theorem nearFrom_zero (E : Nat → Nat → Bool) (M i : Nat) : nearFrom E M i 0 = nearT E M i := rfl
theorem nearFrom_end (E : Nat → Nat → Bool) (M i : Nat) : nearFrom E M i M = [] := by
  unfold nearFrom
  rw [List.drop_eq_nil_of_le (by simp)]
  rfl
theorem nearFrom_step {E : Nat → Nat → Bool} {M i k : Nat} (hk : k < M) : nearFrom E M i k = bif E i k then (k : Int) :: nearFrom E M i (k + 1) else nearFrom E M i (k + 1) := by
  unfold nearFrom
  rw [List.drop_eq_getElem_cons (by simpa using hk), List.filter_cons]
  simp only [List.getElem_range]
  cases E i k <;> rfl
theorem nbrT (E : Nat → Nat → Bool) (N M : Nat) (hm : M ≤ 1000000) : Nbr N M (nearT E M) := ⟨fun i x hx => by
  obtain ⟨j, rfl, h1, _⟩ := nearT_mem.1 hx
  omega, fun i => by
  unfold nearT
  have := List.length_filter_le (E i) (List.range M)
  simp at this ⊢
  omega⟩
set_option maxHeartbeats 4000000 in
theorem rgrow_sp {N M : Nat} {E : Nat → Nat → Bool} (c pc sc : Nat) (cp : Nat → Nat) (hN : N ≤ 1000000) (hM : M ≤ 1000000) : ∀ (f i : Nat) (st : Sg), unseen M st < f → i < N → Bnd N M st →
    Sp Try.prog 72 [.p 0 0 0, .v (.int .i64 i)] (hR N M c pc sc E cp st) (fun r H => r = .v (.bool (growF (nearT E M) f i st).1) ∧ H = hR N M c pc sc E cp (growF (nearT E M) f i st).2)
  | 0, _, _, hu, _, _ => by omega
  | f + 1, i, st0, hu, hi, hbd => by
    have hb := nbrT E N M hM
    refine sp_weak ?_
    refine sp_of_ex true [] mixed Try.call72 Try.func72 rfl Try.ntmps72 Try.results72 (by decide +kernel) rfl ?_
    simp only [push_cast, ↓branch_true, ↓branch_false, Nat.reduceBEq, Nat.reduceAdd, Nat.reduceMul, Nat.reduceSub, Int.reduceToNat, reduceCtorEq, branch_decide, branch_not, branch_beq, branch_bne, Int.reduceAdd, Int.reduceEq, Int.reduceLE, Int.reduceLT, Nat.reduceLT, Nat.reduceLeDiff, false_imp_iff, true_imp_iff]
    refine tr_loop mixed (by kernel_rfl) (fun (x : Nat × Sg) => [(5, .v (.int .i64 x.1)), (0, .p 0 0 0), (1, .v (.int .i64 i))])
      (fun x => hR N M c pc sc E cp x.2) (fun x => x.1 ≤ M ∧ tryL (growF (nearT E M) f) i (nearFrom E M i x.1) x.2 = growF (nearT E M) (f + 1) i st0 ∧ Bnd N M x.2 ∧ unseen M x.2 ≤ unseen M st0) (fun x => M - x.1) (0, st0) ⟨Nat.zero_le _, rfl, hbd, Nat.le_refl _⟩ (Mt.wk (rl := [0, 1, 2, 3, 4]) ⟨by kernel_rfl, ?_, ?_⟩) ?_
    · simp only [push_cast, ↓branch_true, ↓branch_false, Nat.reduceBEq, Nat.reduceAdd, Nat.reduceMul, Nat.reduceSub, Int.reduceToNat, reduceCtorEq, branch_decide, branch_not, branch_beq, branch_bne, Int.reduceAdd, Int.reduceEq, Int.reduceLE, Int.reduceLT, Nat.reduceLT, Nat.reduceLeDiff, false_imp_iff, true_imp_iff]
      try trivial
    · simp only [push_cast, ↓branch_true, ↓branch_false, Nat.reduceBEq, Nat.reduceAdd, Nat.reduceMul, Nat.reduceSub, Int.reduceToNat, reduceCtorEq, branch_decide, branch_not, branch_beq, branch_bne, Int.reduceAdd, Int.reduceEq, Int.reduceLE, Int.reduceLT, Nat.reduceLT, Nat.reduceLeDiff, false_imp_iff, true_imp_iff]
      try trivial
    rintro ⟨k, st⟩ ⟨h1, h2, h3, h4⟩
    simp only at h1 h2 h3 h4
    simp only [push_cast, ↓branch_true, ↓branch_false, Nat.reduceBEq, Nat.reduceAdd, Nat.reduceMul, Nat.reduceSub, Int.reduceToNat, reduceCtorEq, branch_decide, branch_not, branch_beq, branch_bne, Int.reduceAdd, Int.reduceEq, Int.reduceLE, Int.reduceLT, Nat.reduceLT, Nat.reduceLeDiff, false_imp_iff, true_imp_iff]
    refine ⟨fun h0 => ?_, fun h0 => ?_⟩
    · have hk : k < M := by omega
      rw [nearFrom_step hk] at h2
      repeat (with_reducible refine And.intro (by omega) ?_)
      cases hE : E i k with
      | false =>
        rw [hE, cond_false] at h2
        simp only [push_cast, ↓branch_true, ↓branch_false, Nat.reduceBEq, Nat.reduceAdd, Nat.reduceMul, Nat.reduceSub, Int.reduceToNat, reduceCtorEq, branch_decide, branch_not, branch_beq, branch_bne, Int.reduceAdd, Int.reduceEq, Int.reduceLE, Int.reduceLT, Nat.reduceLT, Nat.reduceLeDiff, false_imp_iff, true_imp_iff]
        repeat (with_reducible refine And.intro (by omega) ?_)
        refine lpK_normal (k + 1, st) [0, 1, 2, 3, 4] ⟨by simp only; omega, h2, h3, h4⟩ (by simp only; omega) (by kernel_rfl) ?_ ?_
        · simp only [push_cast, ↓branch_true, ↓branch_false, Nat.reduceBEq, Nat.reduceAdd, Nat.reduceMul, Nat.reduceSub, Int.reduceToNat, reduceCtorEq, branch_decide, branch_not, branch_beq, branch_bne, Int.reduceAdd, Int.reduceEq, Int.reduceLE, Int.reduceLT, Nat.reduceLT, Nat.reduceLeDiff, false_imp_iff, true_imp_iff]
        · simp only [push_cast, ↓branch_true, ↓branch_false, Nat.reduceBEq, Nat.reduceAdd, Nat.reduceMul, Nat.reduceSub, Int.reduceToNat, reduceCtorEq, branch_decide, branch_not, branch_beq, branch_bne, Int.reduceAdd, Int.reduceEq, Int.reduceLE, Int.reduceLT, Nat.reduceLT, Nat.reduceLeDiff, false_imp_iff, true_imp_iff]
      | true =>
        rw [hE, cond_true, tryL] at h2
        simp only [Int.toNat_natCast] at h2
        simp only [push_cast, ↓branch_true, ↓branch_false, Nat.reduceBEq, Nat.reduceAdd, Nat.reduceMul, Nat.reduceSub, Int.reduceToNat, reduceCtorEq, branch_decide, branch_not, branch_beq, branch_bne, Int.reduceAdd, Int.reduceEq, Int.reduceLE, Int.reduceLT, Nat.reduceLT, Nat.reduceLeDiff, false_imp_iff, true_imp_iff]
        repeat (with_reducible refine And.intro (by omega) ?_)
        cases hs : st.sn k with
        | true =>
          rw [hs, cond_true] at h2
          simp only [push_cast, ↓branch_true, ↓branch_false, Nat.reduceBEq, Nat.reduceAdd, Nat.reduceMul, Nat.reduceSub, Int.reduceToNat, reduceCtorEq, branch_decide, branch_not, branch_beq, branch_bne, Int.reduceAdd, Int.reduceEq, Int.reduceLE, Int.reduceLT, Nat.reduceLT, Nat.reduceLeDiff, false_imp_iff, true_imp_iff]
          repeat (with_reducible refine And.intro (by omega) ?_)
          refine lpK_normal (k + 1, st) [0, 1, 2, 3, 4] ⟨by simp only; omega, h2, h3, h4⟩ (by simp only; omega) (by kernel_rfl) ?_ ?_
          · simp only [push_cast, ↓branch_true, ↓branch_false, Nat.reduceBEq, Nat.reduceAdd, Nat.reduceMul, Nat.reduceSub, Int.reduceToNat, reduceCtorEq, branch_decide, branch_not, branch_beq, branch_bne, Int.reduceAdd, Int.reduceEq, Int.reduceLE, Int.reduceLT, Nat.reduceLT, Nat.reduceLeDiff, false_imp_iff, true_imp_iff]
          · simp only [push_cast, ↓branch_true, ↓branch_false, Nat.reduceBEq, Nat.reduceAdd, Nat.reduceMul, Nat.reduceSub, Int.reduceToNat, reduceCtorEq, branch_decide, branch_not, branch_beq, branch_bne, Int.reduceAdd, Int.reduceEq, Int.reduceLE, Int.reduceLT, Nat.reduceLT, Nat.reduceLeDiff, false_imp_iff, true_imp_iff]
        | false =>
          rw [hs, cond_false] at h2
          have hm1 := unseen_mark (m := M) (st := st) (j := k) hk hs
          simp only [push_cast, ↓branch_true, ↓branch_false, Nat.reduceBEq, Nat.reduceAdd, Nat.reduceMul, Nat.reduceSub, Int.reduceToNat, reduceCtorEq, branch_decide, branch_not, branch_beq, branch_bne, Int.reduceAdd, Int.reduceEq, Int.reduceLE, Int.reduceLT, Nat.reduceLT, Nat.reduceLeDiff, false_imp_iff, true_imp_iff]
          repeat (with_reducible refine And.intro (by omega) ?_)
          refine ⟨fun hp => ?_, fun hp => ?_⟩
          · rw [decide_eq_true hp, cond_true] at h2
            repeat (with_reducible refine And.intro (by omega) ?_)
            rw [← h2]
            refine ⟨_, _, [0, 1, 2, 3, 4], ?_, by kernel_rfl, ?_, rfl, rfl⟩
            · simp only [push_cast, ↓branch_true, ↓branch_false, Nat.reduceBEq, Nat.reduceAdd, Nat.reduceMul, Nat.reduceSub, Int.reduceToNat, reduceCtorEq, branch_decide, branch_not, branch_beq, branch_bne, Int.reduceAdd, Int.reduceEq, Int.reduceLE, Int.reduceLT, Nat.reduceLT, Nat.reduceLeDiff, false_imp_iff, true_imp_iff]
            · simp only [push_cast, ↓branch_true, ↓branch_false, Nat.reduceBEq, Nat.reduceAdd, Nat.reduceMul, Nat.reduceSub, Int.reduceToNat, reduceCtorEq, branch_decide, branch_not, branch_beq, branch_bne, Int.reduceAdd, Int.reduceEq, Int.reduceLE, Int.reduceLT, Nat.reduceLT, Nat.reduceLeDiff, false_imp_iff, true_imp_iff, upd]
              exact ⟨fun _ hi q _ => upI hi, fun _ hi q _ => upB hi⟩
          · rw [decide_eq_false hp, cond_false] at h2
            have hpN := h3 k hk
            have hr := rgrow_sp (E := E) c pc sc cp hN hM f (st.pt k).toNat ⟨st.pt, upd st.sn k true⟩ (by omega) (by omega) h3
            have hbr := grow_bnd hb.lt f (st.pt k).toNat ⟨st.pt, upd st.sn k true⟩ (by omega) h3
            have hkr := grow_keeps (nearT E M) f (st.pt k).toNat ⟨st.pt, upd st.sn k true⟩
            rw [show (((st.pt k).toNat : Nat) : Int) = st.pt k by omega] at hr
            generalize hgr : growF (nearT E M) f (st.pt k).toNat ⟨st.pt, upd st.sn k true⟩ = gr at *
            obtain ⟨b, st2⟩ := gr
            simp only at h2 hbr hkr hr
            repeat (with_reducible refine And.intro (by omega) ?_)
            refine sp_at hr [0, 1, 2, 3, 4] rfl ?_ ?_ ?_
            · simp only [push_cast, ↓branch_true, ↓branch_false, Nat.reduceBEq, Nat.reduceAdd, Nat.reduceMul, Nat.reduceSub, Int.reduceToNat, reduceCtorEq, branch_decide, branch_not, branch_beq, branch_bne, Int.reduceAdd, Int.reduceEq, Int.reduceLE, Int.reduceLT, Nat.reduceLT, Nat.reduceLeDiff, false_imp_iff, true_imp_iff]
              try trivial
            · simp only [push_cast, ↓branch_true, ↓branch_false, Nat.reduceBEq, Nat.reduceAdd, Nat.reduceMul, Nat.reduceSub, Int.reduceToNat, reduceCtorEq, branch_decide, branch_not, branch_beq, branch_bne, Int.reduceAdd, Int.reduceEq, Int.reduceLE, Int.reduceLT, Nat.reduceLT, Nat.reduceLeDiff, false_imp_iff, true_imp_iff, upd]
              exact fun _ hi q _ => upB hi
            rintro _ _ ⟨rfl, rfl⟩
            cases b with
            | true =>
              simp only at h2
              simp only [push_cast, ↓branch_true, ↓branch_false, Nat.reduceBEq, Nat.reduceAdd, Nat.reduceMul, Nat.reduceSub, Int.reduceToNat, reduceCtorEq, branch_decide, branch_not, branch_beq, branch_bne, Int.reduceAdd, Int.reduceEq, Int.reduceLE, Int.reduceLT, Nat.reduceLT, Nat.reduceLeDiff, false_imp_iff, true_imp_iff]
              repeat (with_reducible refine And.intro (by omega) ?_)
              rw [← h2]
              refine ⟨_, _, [0, 1, 2, 3, 4], ?_, by kernel_rfl, ?_, rfl, rfl⟩
              · simp only [push_cast, ↓branch_true, ↓branch_false, Nat.reduceBEq, Nat.reduceAdd, Nat.reduceMul, Nat.reduceSub, Int.reduceToNat, reduceCtorEq, branch_decide, branch_not, branch_beq, branch_bne, Int.reduceAdd, Int.reduceEq, Int.reduceLE, Int.reduceLT, Nat.reduceLT, Nat.reduceLeDiff, false_imp_iff, true_imp_iff]
              · simp only [push_cast, ↓branch_true, ↓branch_false, Nat.reduceBEq, Nat.reduceAdd, Nat.reduceMul, Nat.reduceSub, Int.reduceToNat, reduceCtorEq, branch_decide, branch_not, branch_beq, branch_bne, Int.reduceAdd, Int.reduceEq, Int.reduceLE, Int.reduceLT, Nat.reduceLT, Nat.reduceLeDiff, false_imp_iff, true_imp_iff, upd]
                exact fun _ hi q _ => upI hi
            | false =>
              simp only at h2
              simp only [push_cast, ↓branch_true, ↓branch_false, Nat.reduceBEq, Nat.reduceAdd, Nat.reduceMul, Nat.reduceSub, Int.reduceToNat, reduceCtorEq, branch_decide, branch_not, branch_beq, branch_bne, Int.reduceAdd, Int.reduceEq, Int.reduceLE, Int.reduceLT, Nat.reduceLT, Nat.reduceLeDiff, false_imp_iff, true_imp_iff]
              repeat (with_reducible refine And.intro (by omega) ?_)
              have hu2 : unseen M st2 ≤ unseen M ⟨st.pt, upd st.sn k true⟩ := unseen_le fun j hj => (hkr.seen j hj).1
              refine lpK_normal (k + 1, st2) [0, 1, 2, 3, 4] ⟨by simp only; omega, h2, hbr, by simp only; omega⟩ (by simp only; omega) (by kernel_rfl) ?_ ?_
              · simp only [push_cast, ↓branch_true, ↓branch_false, Nat.reduceBEq, Nat.reduceAdd, Nat.reduceMul, Nat.reduceSub, Int.reduceToNat, reduceCtorEq, branch_decide, branch_not, branch_beq, branch_bne, Int.reduceAdd, Int.reduceEq, Int.reduceLE, Int.reduceLT, Nat.reduceLT, Nat.reduceLeDiff, false_imp_iff, true_imp_iff]
              · simp only [push_cast, ↓branch_true, ↓branch_false, Nat.reduceBEq, Nat.reduceAdd, Nat.reduceMul, Nat.reduceSub, Int.reduceToNat, reduceCtorEq, branch_decide, branch_not, branch_beq, branch_bne, Int.reduceAdd, Int.reduceEq, Int.reduceLE, Int.reduceLT, Nat.reduceLT, Nat.reduceLeDiff, false_imp_iff, true_imp_iff]
    · obtain rfl : k = M := by omega
      rw [nearFrom_end] at h2
      rw [← h2]
      refine ⟨_, _, [0, 1, 2, 3, 4], ?_, by kernel_rfl, ?_, rfl, rfl⟩
      · simp only [push_cast, ↓branch_true, ↓branch_false, Nat.reduceBEq, Nat.reduceAdd, Nat.reduceMul, Nat.reduceSub, Int.reduceToNat, reduceCtorEq, branch_decide, branch_not, branch_beq, branch_bne, Int.reduceAdd, Int.reduceEq, Int.reduceLE, Int.reduceLT, Nat.reduceLT, Nat.reduceLeDiff, false_imp_iff, true_imp_iff, tryL]
      · simp only [push_cast, ↓branch_true, ↓branch_false, Nat.reduceBEq, Nat.reduceAdd, Nat.reduceMul, Nat.reduceSub, Int.reduceToNat, reduceCtorEq, branch_decide, branch_not, branch_beq, branch_bne, Int.reduceAdd, Int.reduceEq, Int.reduceLE, Int.reduceLT, Nat.reduceLT, Nat.reduceLeDiff, false_imp_iff, true_imp_iff, tryL]
end Go.Proofs.Ytmmabnoemckdiaa
