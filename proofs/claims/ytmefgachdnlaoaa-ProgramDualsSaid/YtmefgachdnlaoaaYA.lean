/- Contract of the reference: Dual. -/
import Derived.Test.YtmefgachdnlaoaaY
import Derived.Test.YtmefgachdnlaoaaUB
set_option maxRecDepth 100000
set_option linter.unusedSimpArgs false
set_option linter.unusedVariables false
namespace Go.Proofs.Ytmefgachdnlaoaa
open Go.RowKit Lp
def dS (p : Pm) (q : Nat) : Int := (ix (dcol p p.m) q).1
def dR (p : Pm) (q : Nat) : Nat := (ix (dcol p p.m) q).2
def oRq (F n rc L : Nat) (cps : Nat → Nat) (co : Nat → Int) : Ob := ⟨45, false, .row 3 1 (fun _ => n) (fun _ => rc) (fun _ j => [.s F j 0 L (cps j) 1, .v (.int .i64 1), .v (.int .i64 (co j))])⟩
def oFq (n L : Nat) (cps : Nat → Nat) (f : Nat → Nat → Int) : Ob := ⟨3, false, .row 1 n (fun _ => L) cps (fun j q => [.v (.int .i64 (f j q))])⟩
def oA0 : Ob := ⟨25, false, .st [.v (.slice none 0 0), .v (.slice none 0 0)]⟩
attribute [push_cast] oRq oFq oA0
inductive RDualR (p : Pm) : SV → List Ob → Prop
  | ok (oc rc : Nat) (cps : Nat → Nat) (hm : 0 < p.m) (h : ¬ (6 < p.n ∨ 12 < dL p)) (hb : bgB p p.m = false) (hoc : dL p ≤ oc) (hrc : p.n ≤ rc) (hcp : ∀ j, j < p.n → dL p ≤ cps j) :
    RDualR p (.t [.a [.s 3 0 0 (dL p) oc 1, .s 4 0 0 p.n rc 3], .v (.int .i64 0)]) (obP p ++ [oI (dL p) oc (dC p), oRq 5 p.n rc (dL p) cps p.co, oFq p.n (dL p) cps (dF p)])
  | bad (e : Int) (h : (p.m = 0 ∧ e = 14) ∨ (0 < p.m ∧ (6 < p.n ∨ 12 < dL p) ∧ e = 4) ∨ (0 < p.m ∧ ¬ (6 < p.n ∨ 12 < dL p) ∧ bgB p p.m = true ∧ e = 5)) : RDualR p (.t [.a [.v (.slice none 0 0), .v (.slice none 0 0)], .v (.int .i64 e)]) (obP p)
theorem dS_at (p : Pm) {t i : Nat} (ht : t < p.m) (hi : i < (dst p t).length) : dS p ((dcol p t).length + i) = (ix (dst p t) i).1 := by unfold dS; rw [dl_at p ht hi]
theorem dR_at (p : Pm) {t i : Nat} (ht : t < p.m) (hi : i < (dst p t).length) : dR p ((dcol p t).length + i) = t := by
  obtain ⟨s, h1, _⟩ := dst_at p hi
  unfold dR; rw [dl_at p ht hi, h1]
theorem bg_false (p : Pm) (h : ∀ q, q < dL p → far 1048576 (p.b (dR p q)) = false) : bgB p p.m = false := by
  have key : ∀ m, m ≤ p.m → bgB p m = false := fun m => by
    induction m with
    | zero => intro _; rfl
    | succ t ih =>
      intro ht
      have hpos : 0 < (dst p t).length := by
        unfold dst
        by_cases k1 : p.kd t = 1
        · rw [if_pos k1, if_neg (by omega)]; simp
        · rw [if_neg k1]; simp
      have hq : (dcol p t).length + 0 < dL p := by
        obtain ⟨r, hr⟩ := dcol_pre p (t := t + 1) (m := p.m) ht
        unfold dL
        rw [hr, dcol, List.length_append, List.length_append]
        omega
      have h1 := h _ hq
      rw [dR_at p ht hpos, far_iff] at h1
      rw [bgB, ih (by omega), decide_eq_false (by omega), decide_eq_false (by omega)]
      rfl
  exact key p.m (Nat.le_refl _)
theorem lf1e {rl : List Nat} {L : Nat} {f : Nat → Int} {v : Int} (h : f L = v) : ∀ i, i < 1 → ∀ k, k < L + 1 → Value.int .i64 (f k) = Value.int .i64 (bif decide (k < L) then f k else v) ∧ mtL rl [] (bif decide (k < L) then [] else []) := by
  subst h; exact lf3 f
theorem lf2e {rl : List Nat} {L : Nat} {f : Nat → Int} {v w : Int} (h : f L = v) (h2 : f (L + 1) = w) : ∀ i, i < 1 → ∀ k, k < L + 2 → Value.int .i64 (f k) = Value.int .i64 (bif decide (k < L + 1) then bif decide (k < L) then f k else v else w) ∧ mtL rl [] (bif decide (k < L + 1) then bif decide (k < L) then [] else [] else []) := fun i hi k hk => by
  by_cases e : k < L + 1
  · rw [decide_eq_true e]
    exact lf1e h i hi k e
  · rw [decide_eq_false e]
    obtain rfl : k = L + 1 := by omega
    exact ⟨congrArg (Value.int .i64) h2, mt_nil⟩
set_option maxHeartbeats 16000000 in
theorem rdual_sp (p : Pm) (hp : PmOk p) : Sp Try.prog 38 [svP p] (obP p) (RDualR p) := by
  have hn := hp.n
  have hm := hp.m
  have hfz := p.fzm
  have hmc := hp.mc
  refine sp_weak ?_
  refine sp_of_ex true [(23, .jx (.pre [3] [0, 2, 3, 4, 6, 7, 8, 9, 10] (.alt [(1, .alt [(5, .one 11 (.one 12 (.one 13 (.one 14 (.one 15 (.one 16 (.one 17 (.one 18 (.one 19 (.one 20 .fin)))))))))), (11, .one 12 (.one 13 (.alt [(5, .one 14 (.one 15 (.one 16 (.one 17 (.one 18 (.one 19 (.one 20 .fin))))))), (14, .one 5 (.one 15 (.one 16 (.one 17 (.one 18 (.one 19 (.one 20 .fin)))))))])))]), (5, .alt [(1, .one 11 (.one 12 (.one 13 (.one 14 (.one 15 (.one 16 (.one 17 (.one 18 (.one 19 (.one 20 .fin)))))))))), (11, .one 12 (.one 13 (.alt [(1, .one 14 (.one 15 (.one 16 (.one 17 (.one 18 (.one 19 (.one 20 .fin))))))), (14, .one 15 (.one 16 (.alt [(1, .one 17 (.one 18 (.one 19 (.one 20 .fin)))), (17, .one 1 (.one 18 (.one 19 (.one 20 .fin))))])))])))]), (11, .one 12 (.one 13 (.alt [(1, .alt [(5, .one 14 (.one 15 (.one 16 (.one 17 (.one 18 (.one 19 (.one 20 .fin))))))), (14, .one 5 (.one 15 (.one 16 (.one 17 (.one 18 (.one 19 (.one 20 .fin)))))))]), (5, .alt [(1, .one 14 (.one 15 (.one 16 (.one 17 (.one 18 (.one 19 (.one 20 .fin))))))), (14, .one 15 (.one 16 (.alt [(1, .one 17 (.one 18 (.one 19 (.one 20 .fin)))), (17, .one 1 (.one 18 (.one 19 (.one 20 .fin))))])))]), (14, .alt [(1, .one 5 (.one 15 (.one 16 (.one 17 (.one 18 (.one 19 (.one 20 .fin))))))), (5, .one 15 (.one 16 (.alt [(1, .one 17 (.one 18 (.one 19 (.one 20 .fin)))), (17, .one 1 (.one 18 (.one 19 (.one 20 .fin))))])))])])))]))), (31, .jx (.pre [3] [0, 2, 3, 4, 6, 7, 8, 9, 10, 15] (.alt [(1, .alt [(5, .one 11 (.one 12 (.one 13 (.one 14 (.one 16 (.one 17 (.one 18 (.one 19 (.one 20 (.one 21 (.one 22 .fin))))))))))), (11, .one 12 (.one 13 (.alt [(5, .one 14 (.one 16 (.one 17 (.one 18 (.one 19 (.one 20 (.one 21 (.one 22 .fin)))))))), (14, .one 16 (.alt [(5, .one 17 (.one 18 (.one 19 (.one 20 (.one 21 (.one 22 .fin)))))), (17, .one 5 (.one 18 (.one 19 (.one 20 (.one 21 (.one 22 .fin))))))]))])))]), (5, .alt [(1, .one 11 (.one 12 (.one 13 (.one 14 (.one 16 (.one 17 (.one 18 (.one 19 (.one 20 (.one 21 (.one 22 .fin))))))))))), (11, .one 12 (.one 13 (.alt [(1, .one 14 (.one 16 (.one 17 (.one 18 (.one 19 (.one 20 (.one 21 (.one 22 .fin)))))))), (14, .one 16 (.alt [(1, .one 17 (.one 18 (.one 19 (.one 20 (.one 21 (.one 22 .fin)))))), (17, .one 18 (.alt [(1, .one 19 (.one 20 (.one 21 (.one 22 .fin)))), (19, .one 1 (.one 20 (.one 21 (.one 22 .fin))))]))]))])))]), (11, .one 12 (.one 13 (.alt [(1, .alt [(5, .one 14 (.one 16 (.one 17 (.one 18 (.one 19 (.one 20 (.one 21 (.one 22 .fin)))))))), (14, .one 16 (.alt [(5, .one 17 (.one 18 (.one 19 (.one 20 (.one 21 (.one 22 .fin)))))), (17, .one 5 (.one 18 (.one 19 (.one 20 (.one 21 (.one 22 .fin))))))]))]), (5, .alt [(1, .one 14 (.one 16 (.one 17 (.one 18 (.one 19 (.one 20 (.one 21 (.one 22 .fin)))))))), (14, .one 16 (.alt [(1, .one 17 (.one 18 (.one 19 (.one 20 (.one 21 (.one 22 .fin)))))), (17, .one 18 (.alt [(1, .one 19 (.one 20 (.one 21 (.one 22 .fin)))), (19, .one 1 (.one 20 (.one 21 (.one 22 .fin))))]))]))]), (14, .one 16 (.alt [(1, .alt [(5, .one 17 (.one 18 (.one 19 (.one 20 (.one 21 (.one 22 .fin)))))), (17, .one 5 (.one 18 (.one 19 (.one 20 (.one 21 (.one 22 .fin))))))]), (5, .alt [(1, .one 17 (.one 18 (.one 19 (.one 20 (.one 21 (.one 22 .fin)))))), (17, .one 18 (.alt [(1, .one 19 (.one 20 (.one 21 (.one 22 .fin)))), (19, .one 1 (.one 20 (.one 21 (.one 22 .fin))))]))]), (17, .alt [(1, .one 5 (.one 18 (.one 19 (.one 20 (.one 21 (.one 22 .fin)))))), (5, .one 18 (.alt [(1, .one 19 (.one 20 (.one 21 (.one 22 .fin)))), (19, .one 1 (.one 20 (.one 21 (.one 22 .fin))))]))])]))])))])))] mixed Try.call38 Try.func38 rfl Try.ntmps38 Try.results38 (by decide +kernel) rfl ?_
  simp only [push_cast, ↓branch_true, ↓branch_false, Nat.reduceBEq, Nat.reduceAdd, Nat.reduceMul, Nat.reduceSub, Int.reduceToNat, reduceCtorEq, branch_decide, branch_not, branch_beq, branch_bne, Int.reduceAdd, Int.reduceEq, Int.reduceLE, Int.reduceLT, Nat.reduceLT, Nat.reduceLeDiff, false_imp_iff, true_imp_iff]
  refine ⟨fun h1 => ?_, fun h1 => ?_⟩
  · refine ⟨_, _, [0, 1, 2], ?_, by kernel_rfl, ?_, .bad 14 (.inl ⟨by omega, rfl⟩)⟩
    · simp only [push_cast, ↓branch_true, ↓branch_false, Nat.reduceBEq, Nat.reduceAdd, Nat.reduceMul, Nat.reduceSub, Int.reduceToNat, reduceCtorEq, branch_decide, branch_not, branch_beq, branch_bne, Int.reduceAdd, Int.reduceEq, Int.reduceLE, Int.reduceLT, Nat.reduceLT, Nat.reduceLeDiff, false_imp_iff, true_imp_iff]
    · simp only [push_cast, ↓branch_true, ↓branch_false, Nat.reduceBEq, Nat.reduceAdd, Nat.reduceMul, Nat.reduceSub, Int.reduceToNat, reduceCtorEq, branch_decide, branch_not, branch_beq, branch_bne, Int.reduceAdd, Int.reduceEq, Int.reduceLE, Int.reduceLT, Nat.reduceLT, Nat.reduceLeDiff, false_imp_iff, true_imp_iff]
  have hm0 : 0 < p.m := by omega
  refine tr_loop mixed (by kernel_rfl) (fun (x : Nat × Nat × Nat) => [(6, .v (.int .i64 x.1)), (5, .s 6 0 0 (dcol p x.1).length x.2.2 1), (4, .s 5 0 0 (dcol p x.1).length x.2.1 1), (2, .p 4 0 0), (1, .p 3 0 0)])
    (fun x => obP p ++ [oBx p, oA0, oI (dcol p x.1).length x.2.1 (dS p), oI (dcol p x.1).length x.2.2 (fun q => (dR p q : Nat))]) (fun x => x.1 ≤ p.m ∧ (dcol p x.1).length ≤ x.2.1 ∧ (dcol p x.1).length ≤ x.2.2) (fun x => p.m - x.1) (0, 0, 0) ⟨Nat.zero_le _, Nat.le_refl _, Nat.le_refl _⟩ (Mt.wk (rl := [0, 1, 2, 3, 4, 1000, 1001]) ⟨by kernel_rfl, ?_, ?_⟩) ?_
  · simp only [push_cast, ↓branch_true, ↓branch_false, Nat.reduceBEq, Nat.reduceAdd, Nat.reduceMul, Nat.reduceSub, Int.reduceToNat, reduceCtorEq, branch_decide, branch_not, branch_beq, branch_bne, Int.reduceAdd, Int.reduceEq, Int.reduceLE, Int.reduceLT, Nat.reduceLT, Nat.reduceLeDiff, false_imp_iff, true_imp_iff]
    exact ⟨rfl, rfl⟩
  · simp only [push_cast, ↓branch_true, ↓branch_false, Nat.reduceBEq, Nat.reduceAdd, Nat.reduceMul, Nat.reduceSub, Int.reduceToNat, reduceCtorEq, branch_decide, branch_not, branch_beq, branch_bne, Int.reduceAdd, Int.reduceEq, Int.reduceLE, Int.reduceLT, Nat.reduceLT, Nat.reduceLeDiff, false_imp_iff, true_imp_iff]
    exact ⟨.inl rfl, .inl rfl⟩
  rintro ⟨t, a1, a2⟩ ⟨g1, g2, g3⟩
  simp only at g1 g2 g3
  simp only [push_cast, ↓branch_true, ↓branch_false, Nat.reduceBEq, Nat.reduceAdd, Nat.reduceMul, Nat.reduceSub, Int.reduceToNat, reduceCtorEq, branch_decide, branch_not, branch_beq, branch_bne, Int.reduceAdd, Int.reduceEq, Int.reduceLE, Int.reduceLT, Nat.reduceLT, Nat.reduceLeDiff, false_imp_iff, true_imp_iff]
  refine ⟨fun h2 => ?_, fun h2 => ?_⟩
  · have htm : t < p.m := by omega
    have hdt : (dcol p (t + 1)).length = (dcol p t).length + (dst p t).length := by rw [dcol, List.length_append]
    have hlen := dcol_len p t
    repeat (with_reducible refine And.intro (by omega) ?_)
    rcases hp.kd t htm with k | k | k
    · have hds : dst p t = [(-1, t)] := by unfold dst; rw [k]; rfl
      have hS0 := dS_at p htm (i := 0) (by rw [hds]; simp)
      have hR0 := dR_at p htm (i := 0) (by rw [hds]; simp)
      rw [hds] at hS0 hdt
      have hS0 : dS p ((dcol p t).length) = -1 := hS0
      have hR0 : dR p ((dcol p t).length) = t := hR0
      have hdt : (dcol p (t + 1)).length = (dcol p t).length + 1 := hdt
      simp only [push_cast, ↓branch_true, ↓branch_false, Nat.reduceBEq, Nat.reduceAdd, Nat.reduceMul, Nat.reduceSub, Int.reduceToNat, reduceCtorEq, branch_decide, branch_not, branch_beq, branch_bne, Int.reduceAdd, Int.reduceEq, Int.reduceLE, Int.reduceLT, Nat.reduceLT, Nat.reduceLeDiff, false_imp_iff, true_imp_iff, k]
      refine Or.inr ⟨by omega, by omega, fun d1 q1 => Or.inr ⟨by omega, by omega, fun d2 q2 => ?_⟩⟩
      repeat (with_reducible refine And.intro (by omega) ?_)
      refine lpK_normal (t + 1, d1, d2) [0, 1, 2, 3, 4, 8, 10] ⟨by simp only; omega, by simp only; omega, by simp only; omega⟩ (by simp only; omega) (by kernel_rfl) ?_ ?_
      · simp only [push_cast, ↓branch_true, ↓branch_false, Nat.reduceBEq, Nat.reduceAdd, Nat.reduceMul, Nat.reduceSub, Int.reduceToNat, reduceCtorEq, branch_decide, branch_not, branch_beq, branch_bne, Int.reduceAdd, Int.reduceEq, Int.reduceLE, Int.reduceLT, Nat.reduceLT, Nat.reduceLeDiff, false_imp_iff, true_imp_iff, hdt]
        try trivial
      · simp only [push_cast, ↓branch_true, ↓branch_false, Nat.reduceBEq, Nat.reduceAdd, Nat.reduceMul, Nat.reduceSub, Int.reduceToNat, reduceCtorEq, branch_decide, branch_not, branch_beq, branch_bne, Int.reduceAdd, Int.reduceEq, Int.reduceLE, Int.reduceLT, Nat.reduceLT, Nat.reduceLeDiff, false_imp_iff, true_imp_iff, hdt]
        exact ⟨lf1e hS0, lf1e (f := fun q => ((dR p q : Nat) : Int)) (by show ((dR p _ : Nat) : Int) = _; rw [hR0])⟩
    · have hds : dst p t = [(1, t)] := by unfold dst; rw [k]; rfl
      have hS0 := dS_at p htm (i := 0) (by rw [hds]; simp)
      have hR0 := dR_at p htm (i := 0) (by rw [hds]; simp)
      rw [hds] at hS0 hdt
      have hS0 : dS p ((dcol p t).length) = 1 := hS0
      have hR0 : dR p ((dcol p t).length) = t := hR0
      have hdt : (dcol p (t + 1)).length = (dcol p t).length + 1 := hdt
      simp only [push_cast, ↓branch_true, ↓branch_false, Nat.reduceBEq, Nat.reduceAdd, Nat.reduceMul, Nat.reduceSub, Int.reduceToNat, reduceCtorEq, branch_decide, branch_not, branch_beq, branch_bne, Int.reduceAdd, Int.reduceEq, Int.reduceLE, Int.reduceLT, Nat.reduceLT, Nat.reduceLeDiff, false_imp_iff, true_imp_iff, k]
      refine Or.inr ⟨by omega, by omega, fun d1 q1 => Or.inr ⟨by omega, by omega, fun d2 q2 => ?_⟩⟩
      repeat (with_reducible refine And.intro (by omega) ?_)
      refine lpK_normal (t + 1, d1, d2) [0, 1, 2, 3, 4, 8, 10] ⟨by simp only; omega, by simp only; omega, by simp only; omega⟩ (by simp only; omega) (by kernel_rfl) ?_ ?_
      · simp only [push_cast, ↓branch_true, ↓branch_false, Nat.reduceBEq, Nat.reduceAdd, Nat.reduceMul, Nat.reduceSub, Int.reduceToNat, reduceCtorEq, branch_decide, branch_not, branch_beq, branch_bne, Int.reduceAdd, Int.reduceEq, Int.reduceLE, Int.reduceLT, Nat.reduceLT, Nat.reduceLeDiff, false_imp_iff, true_imp_iff, hdt]
        try trivial
      · simp only [push_cast, ↓branch_true, ↓branch_false, Nat.reduceBEq, Nat.reduceAdd, Nat.reduceMul, Nat.reduceSub, Int.reduceToNat, reduceCtorEq, branch_decide, branch_not, branch_beq, branch_bne, Int.reduceAdd, Int.reduceEq, Int.reduceLE, Int.reduceLT, Nat.reduceLT, Nat.reduceLeDiff, false_imp_iff, true_imp_iff, hdt]
        exact ⟨lf1e hS0, lf1e (f := fun q => ((dR p q : Nat) : Int)) (by show ((dR p _ : Nat) : Int) = _; rw [hR0])⟩
    · have hds : dst p t = [(1, t), (-1, t)] := by unfold dst; rw [k]; rfl
      have hS0 := dS_at p htm (i := 0) (by rw [hds]; simp)
      have hR0 := dR_at p htm (i := 0) (by rw [hds]; simp)
      have hS1 := dS_at p htm (i := 1) (by rw [hds]; simp)
      have hR1 := dR_at p htm (i := 1) (by rw [hds]; simp)
      rw [hds] at hS0 hS1 hdt
      have hS0 : dS p ((dcol p t).length) = 1 := hS0
      have hR0 : dR p ((dcol p t).length) = t := hR0
      have hS1 : dS p ((dcol p t).length + 1) = -1 := hS1
      have hR1 : dR p ((dcol p t).length + 1) = t := hR1
      have hdt : (dcol p (t + 1)).length = (dcol p t).length + 2 := hdt
      simp only [push_cast, ↓branch_true, ↓branch_false, Nat.reduceBEq, Nat.reduceAdd, Nat.reduceMul, Nat.reduceSub, Int.reduceToNat, reduceCtorEq, branch_decide, branch_not, branch_beq, branch_bne, Int.reduceAdd, Int.reduceEq, Int.reduceLE, Int.reduceLT, Nat.reduceLT, Nat.reduceLeDiff, false_imp_iff, true_imp_iff, k]
      refine Or.inr ⟨by omega, by omega, fun d1 q1 => Or.inr ⟨by omega, by omega, fun d2 q2 => ?_⟩⟩
      repeat (with_reducible refine And.intro (by omega) ?_)
      refine Or.inr ⟨by omega, by omega, fun d3 q3 => Or.inr ⟨by omega, by omega, fun d4 q4 => ?_⟩⟩
      repeat (with_reducible refine And.intro (by omega) ?_)
      refine lpK_normal (t + 1, d3, d4) [0, 1, 2, 3, 4, 12, 14] ⟨by simp only; omega, by simp only; omega, by simp only; omega⟩ (by simp only; omega) (by kernel_rfl) ?_ ?_
      · simp only [push_cast, ↓branch_true, ↓branch_false, Nat.reduceBEq, Nat.reduceAdd, Nat.reduceMul, Nat.reduceSub, Int.reduceToNat, reduceCtorEq, branch_decide, branch_not, branch_beq, branch_bne, Int.reduceAdd, Int.reduceEq, Int.reduceLE, Int.reduceLT, Nat.reduceLT, Nat.reduceLeDiff, false_imp_iff, true_imp_iff, hdt]
        try trivial
      · simp only [push_cast, ↓branch_true, ↓branch_false, Nat.reduceBEq, Nat.reduceAdd, Nat.reduceMul, Nat.reduceSub, Int.reduceToNat, reduceCtorEq, branch_decide, branch_not, branch_beq, branch_bne, Int.reduceAdd, Int.reduceEq, Int.reduceLE, Int.reduceLT, Nat.reduceLT, Nat.reduceLeDiff, false_imp_iff, true_imp_iff, hdt]
        exact ⟨lf2e hS0 hS1, lf2e (f := fun q => ((dR p q : Nat) : Int)) (by show ((dR p _ : Nat) : Int) = _; rw [hR0]) (by show ((dR p _ : Nat) : Int) = _; rw [hR1])⟩
  obtain rfl : t = p.m := by omega
  have hL : (dcol p p.m).length = dL p := rfl
  rw [hL] at g2 g3
  simp only [push_cast, ↓branch_true, ↓branch_false, Nat.reduceBEq, Nat.reduceAdd, Nat.reduceMul, Nat.reduceSub, Int.reduceToNat, reduceCtorEq, branch_decide, branch_not, branch_beq, branch_bne, Int.reduceAdd, Int.reduceEq, Int.reduceLE, Int.reduceLT, Nat.reduceLT, Nat.reduceLeDiff, false_imp_iff, true_imp_iff, hL]
  refine ⟨fun c1 => ?_, fun c1 => ⟨fun c2 => ?_, fun c2 => ?_⟩⟩
  · refine ⟨_, _, [0, 1, 2], ?_, by kernel_rfl, ?_, .bad 4 (.inr (.inl ⟨hm0, .inl (by omega), rfl⟩))⟩
    · simp only [push_cast, ↓branch_true, ↓branch_false, Nat.reduceBEq, Nat.reduceAdd, Nat.reduceMul, Nat.reduceSub, Int.reduceToNat, reduceCtorEq, branch_decide, branch_not, branch_beq, branch_bne, Int.reduceAdd, Int.reduceEq, Int.reduceLE, Int.reduceLT, Nat.reduceLT, Nat.reduceLeDiff, false_imp_iff, true_imp_iff]
    · simp only [push_cast, ↓branch_true, ↓branch_false, Nat.reduceBEq, Nat.reduceAdd, Nat.reduceMul, Nat.reduceSub, Int.reduceToNat, reduceCtorEq, branch_decide, branch_not, branch_beq, branch_bne, Int.reduceAdd, Int.reduceEq, Int.reduceLE, Int.reduceLT, Nat.reduceLT, Nat.reduceLeDiff, false_imp_iff, true_imp_iff]
  · refine ⟨_, _, [0, 1, 2], ?_, by kernel_rfl, ?_, .bad 4 (.inr (.inl ⟨hm0, .inr (by omega), rfl⟩))⟩
    · simp only [push_cast, ↓branch_true, ↓branch_false, Nat.reduceBEq, Nat.reduceAdd, Nat.reduceMul, Nat.reduceSub, Int.reduceToNat, reduceCtorEq, branch_decide, branch_not, branch_beq, branch_bne, Int.reduceAdd, Int.reduceEq, Int.reduceLE, Int.reduceLT, Nat.reduceLT, Nat.reduceLeDiff, false_imp_iff, true_imp_iff]
    · simp only [push_cast, ↓branch_true, ↓branch_false, Nat.reduceBEq, Nat.reduceAdd, Nat.reduceMul, Nat.reduceSub, Int.reduceToNat, reduceCtorEq, branch_decide, branch_not, branch_beq, branch_bne, Int.reduceAdd, Int.reduceEq, Int.reduceLE, Int.reduceLT, Nat.reduceLT, Nat.reduceLeDiff, false_imp_iff, true_imp_iff]
  have hns : ¬ (6 < p.n ∨ 12 < dL p) := by omega
  refine tr_loop mixed (by kernel_rfl) (fun (x : Nat × Nat) => [(9, .v (.int .i64 x.1)), (8, .p 7 0 0), (5, .s 6 0 0 (dL p) a2 1), (4, .s 5 0 0 (dL p) a1 1), (2, .p 4 0 0), (1, .p 3 0 0)])
    (fun x => obP p ++ [rBx p, oA0, oI (dL p) a1 (dS p), oI (dL p) a2 (fun q => (dR p q : Nat)), ⟨25, false, .st [.s 8 0 0 x.1 x.2 1, .v (.slice none 0 0)]⟩, oI x.1 x.2 (dC p)]) (fun x => x.1 ≤ dL p ∧ x.1 ≤ x.2 ∧ ∀ q, q < x.1 → far 1048576 (p.b (dR p q)) = false) (fun x => dL p - x.1) (0, 0) ⟨Nat.zero_le _, Nat.le_refl _, fun q hq => absurd hq (Nat.not_lt_zero _)⟩ (Mt.wk (rl := [0, 1, 2, 3, 4, 5, 6, 7, 1000]) ⟨by kernel_rfl, ?_, ?_⟩) ?_
  · simp only [push_cast, ↓branch_true, ↓branch_false, Nat.reduceBEq, Nat.reduceAdd, Nat.reduceMul, Nat.reduceSub, Int.reduceToNat, reduceCtorEq, branch_decide, branch_not, branch_beq, branch_bne, Int.reduceAdd, Int.reduceEq, Int.reduceLE, Int.reduceLT, Nat.reduceLT, Nat.reduceLeDiff, false_imp_iff, true_imp_iff]
    try trivial
  · simp only [push_cast, ↓branch_true, ↓branch_false, Nat.reduceBEq, Nat.reduceAdd, Nat.reduceMul, Nat.reduceSub, Int.reduceToNat, reduceCtorEq, branch_decide, branch_not, branch_beq, branch_bne, Int.reduceAdd, Int.reduceEq, Int.reduceLE, Int.reduceLT, Nat.reduceLT, Nat.reduceLeDiff, false_imp_iff, true_imp_iff]
  rintro ⟨j, oc⟩ ⟨k1, k2, k3⟩
  simp only at k1 k2 k3
  simp only [push_cast, ↓branch_true, ↓branch_false, Nat.reduceBEq, Nat.reduceAdd, Nat.reduceMul, Nat.reduceSub, Int.reduceToNat, reduceCtorEq, branch_decide, branch_not, branch_beq, branch_bne, Int.reduceAdd, Int.reduceEq, Int.reduceLE, Int.reduceLT, Nat.reduceLT, Nat.reduceLeDiff, false_imp_iff, true_imp_iff]
  refine ⟨fun c3 => ?_, fun c3 => ?_⟩
  · have hjL : j < dL p := by omega
    obtain ⟨t, s, ht, hix, hsd⟩ := dq_at p hjL
    have hS : dS p j = s := by unfold dS; rw [hix]
    have hR : dR p j = t := by unfold dR; rw [hix]
    have hC : 0 - s * p.b t = dC p j := by
      unfold dC; rw [hix, Int.neg_mul, Int.zero_sub]
    have hbt := hp.b t ht
    have hsb : (s * p.b t).natAbs ≤ 1073741824 := by rcases hsd with ⟨rfl, _⟩ | ⟨rfl, _⟩ <;> omega
    have hw := within_pu (p.b t) 1048576 (by decide)
    simp only [push_cast, ↓branch_true, ↓branch_false, Nat.reduceBEq, Nat.reduceAdd, Nat.reduceMul, Nat.reduceSub, Int.reduceToNat, reduceCtorEq, branch_decide, branch_not, branch_beq, branch_bne, Int.reduceAdd, Int.reduceEq, Int.reduceLE, Int.reduceLT, Nat.reduceLT, Nat.reduceLeDiff, false_imp_iff, true_imp_iff, hR]
    repeat (with_reducible refine And.intro (by omega) ?_)
    cases hfa : far 1048576 (p.b t) with
    | true =>
      rw [hfa] at hw
      have hbg : bgB p p.m = true := by
        cases e : bgB p p.m with
        | true => rfl
        | false =>
          have h := bg_le p e t ht
          rw [(far_iff _ _).2 ⟨by omega, by omega⟩] at hfa
          cases hfa
      refine qc_call (hw) rfl [] rfl (by simp only [push_cast, ↓branch_true, ↓branch_false, Nat.reduceBEq, Nat.reduceAdd, Nat.reduceMul, Nat.reduceSub, Int.reduceToNat, reduceCtorEq, branch_decide, branch_not, branch_beq, branch_bne, Int.reduceAdd, Int.reduceEq, Int.reduceLE, Int.reduceLT, Nat.reduceLT, Nat.reduceLeDiff, false_imp_iff, true_imp_iff]) (by simp only [push_cast, ↓branch_true, ↓branch_false, Nat.reduceBEq, Nat.reduceAdd, Nat.reduceMul, Nat.reduceSub, Int.reduceToNat, reduceCtorEq, branch_decide, branch_not, branch_beq, branch_bne, Int.reduceAdd, Int.reduceEq, Int.reduceLE, Int.reduceLT, Nat.reduceLT, Nat.reduceLeDiff, false_imp_iff, true_imp_iff]) ?_
      simp only [push_cast, ↓branch_true, ↓branch_false, Nat.reduceBEq, Nat.reduceAdd, Nat.reduceMul, Nat.reduceSub, Int.reduceToNat, reduceCtorEq, branch_decide, branch_not, branch_beq, branch_bne, Int.reduceAdd, Int.reduceEq, Int.reduceLE, Int.reduceLT, Nat.reduceLT, Nat.reduceLeDiff, false_imp_iff, true_imp_iff]
      refine ⟨_, _, [0, 1, 2], ?_, by kernel_rfl, ?_, .bad 5 (.inr (.inr ⟨hm0, hns, hbg, rfl⟩))⟩
      · simp only [push_cast, ↓branch_true, ↓branch_false, Nat.reduceBEq, Nat.reduceAdd, Nat.reduceMul, Nat.reduceSub, Int.reduceToNat, reduceCtorEq, branch_decide, branch_not, branch_beq, branch_bne, Int.reduceAdd, Int.reduceEq, Int.reduceLE, Int.reduceLT, Nat.reduceLT, Nat.reduceLeDiff, false_imp_iff, true_imp_iff]
      · simp only [push_cast, ↓branch_true, ↓branch_false, Nat.reduceBEq, Nat.reduceAdd, Nat.reduceMul, Nat.reduceSub, Int.reduceToNat, reduceCtorEq, branch_decide, branch_not, branch_beq, branch_bne, Int.reduceAdd, Int.reduceEq, Int.reduceLE, Int.reduceLT, Nat.reduceLT, Nat.reduceLeDiff, false_imp_iff, true_imp_iff]
    | false =>
    rw [hfa] at hw
    refine qc_call (hw) rfl [] rfl (by simp only [push_cast, ↓branch_true, ↓branch_false, Nat.reduceBEq, Nat.reduceAdd, Nat.reduceMul, Nat.reduceSub, Int.reduceToNat, reduceCtorEq, branch_decide, branch_not, branch_beq, branch_bne, Int.reduceAdd, Int.reduceEq, Int.reduceLE, Int.reduceLT, Nat.reduceLT, Nat.reduceLeDiff, false_imp_iff, true_imp_iff]) (by simp only [push_cast, ↓branch_true, ↓branch_false, Nat.reduceBEq, Nat.reduceAdd, Nat.reduceMul, Nat.reduceSub, Int.reduceToNat, reduceCtorEq, branch_decide, branch_not, branch_beq, branch_bne, Int.reduceAdd, Int.reduceEq, Int.reduceLE, Int.reduceLT, Nat.reduceLT, Nat.reduceLeDiff, false_imp_iff, true_imp_iff]) ?_
    simp only [push_cast, ↓branch_true, ↓branch_false, Nat.reduceBEq, Nat.reduceAdd, Nat.reduceMul, Nat.reduceSub, Int.reduceToNat, reduceCtorEq, branch_decide, branch_not, branch_beq, branch_bne, Int.reduceAdd, Int.reduceEq, Int.reduceLE, Int.reduceLT, Nat.reduceLT, Nat.reduceLeDiff, false_imp_iff, true_imp_iff]
    simp only [push_cast, ↓branch_true, ↓branch_false, Nat.reduceBEq, Nat.reduceAdd, Nat.reduceMul, Nat.reduceSub, Int.reduceToNat, reduceCtorEq, branch_decide, branch_not, branch_beq, branch_bne, Int.reduceAdd, Int.reduceEq, Int.reduceLE, Int.reduceLT, Nat.reduceLT, Nat.reduceLeDiff, false_imp_iff, true_imp_iff, hR, hS]
    refine ⟨Nat, fun c2 => [(9, .v (.int .i64 j)), (8, .p 7 0 0), (5, .s 6 0 0 (dL p) a2 1), (4, .s 5 0 0 (dL p) a1 1), (2, .p 4 0 0), (1, .p 3 0 0)],
      fun c2 => obP p ++ [rBx p, oA0, oI (dL p) a1 (dS p), oI (dL p) a2 (fun q => (dR p q : Nat)), ⟨25, false, .st [.s 10 0 0 (j + 1) c2 1, .v (.slice none 0 0)]⟩, deadOb, deadOb, oI (j + 1) c2 (dC p)], fun c2 => j + 1 ≤ c2, ?_, ?_⟩
    · simp only [push_cast, ↓branch_true, ↓branch_false, Nat.reduceBEq, Nat.reduceAdd, Nat.reduceMul, Nat.reduceSub, Int.reduceToNat, reduceCtorEq, branch_decide, branch_not, branch_beq, branch_bne, Int.reduceAdd, Int.reduceEq, Int.reduceLE, Int.reduceLT, Nat.reduceLT, Nat.reduceLeDiff, false_imp_iff, true_imp_iff, hC]
      repeat' (first
        | (with_reducible apply And.intro)
        | omega
        | (refine Or.inr ⟨by omega, by omega, fun c2 hc2 => ?_⟩))
      all_goals
        refine ⟨c2, hc2, Mt.wk (rl := [0, 1, 2, 3, 4, 5, 6, 7, 8, 9, 10]) ⟨by kernel_rfl, ?_, ?_⟩⟩
        · simp only [push_cast, ↓branch_true, ↓branch_false, Nat.reduceBEq, Nat.reduceAdd, Nat.reduceMul, Nat.reduceSub, Int.reduceToNat, reduceCtorEq, branch_decide, branch_not, branch_beq, branch_bne, Int.reduceAdd, Int.reduceEq, Int.reduceLE, Int.reduceLT, Nat.reduceLT, Nat.reduceLeDiff, false_imp_iff, true_imp_iff]
          try trivial
        · simp only [push_cast, ↓branch_true, ↓branch_false, Nat.reduceBEq, Nat.reduceAdd, Nat.reduceMul, Nat.reduceSub, Int.reduceToNat, reduceCtorEq, branch_decide, branch_not, branch_beq, branch_bne, Int.reduceAdd, Int.reduceEq, Int.reduceLE, Int.reduceLT, Nat.reduceLT, Nat.reduceLeDiff, false_imp_iff, true_imp_iff]
          exact lf3 (dC p)
    · intro c2 hc2
      simp only [push_cast, ↓branch_true, ↓branch_false, Nat.reduceBEq, Nat.reduceAdd, Nat.reduceMul, Nat.reduceSub, Int.reduceToNat, reduceCtorEq, branch_decide, branch_not, branch_beq, branch_bne, Int.reduceAdd, Int.reduceEq, Int.reduceLE, Int.reduceLT, Nat.reduceLT, Nat.reduceLeDiff, false_imp_iff, true_imp_iff, jnK]
      repeat (with_reducible refine And.intro (by omega) ?_)
      refine lpK_normal (j + 1, c2) [0, 1, 2, 3, 4, 5, 6, 7, 10] ⟨by simp only; omega, hc2, fun q hq => ?_⟩ (by simp only; omega) (by kernel_rfl) ?_ ?_
      · by_cases e : q = j
        · rw [e, hR]; exact hfa
        · exact k3 q (by simp only at hq; omega)
      · simp only [push_cast, ↓branch_true, ↓branch_false, Nat.reduceBEq, Nat.reduceAdd, Nat.reduceMul, Nat.reduceSub, Int.reduceToNat, reduceCtorEq, branch_decide, branch_not, branch_beq, branch_bne, Int.reduceAdd, Int.reduceEq, Int.reduceLE, Int.reduceLT, Nat.reduceLT, Nat.reduceLeDiff, false_imp_iff, true_imp_iff]
      · simp only [push_cast, ↓branch_true, ↓branch_false, Nat.reduceBEq, Nat.reduceAdd, Nat.reduceMul, Nat.reduceSub, Int.reduceToNat, reduceCtorEq, branch_decide, branch_not, branch_beq, branch_bne, Int.reduceAdd, Int.reduceEq, Int.reduceLE, Int.reduceLT, Nat.reduceLT, Nat.reduceLeDiff, false_imp_iff, true_imp_iff]
  obtain rfl : j = dL p := by omega
  have hbg := bg_false p k3
  repeat (with_reducible refine And.intro (by omega) ?_)
  refine tr_loop mixed (by kernel_rfl) (fun (x : Nat × Nat × (Nat → Nat)) => [(10, .v (.int .i64 x.1)), (8, .p 7 0 0), (5, .s 6 0 0 (dL p) a2 1), (4, .s 5 0 0 (dL p) a1 1), (2, .p 4 0 0), (1, .p 3 0 0)])
    (fun x => obP p ++ [rBx p, oA0, oI (dL p) a1 (dS p), oI (dL p) a2 (fun q => (dR p q : Nat)), ⟨25, false, .st [.s 8 0 0 (dL p) oc 1, .s 9 0 0 x.1 x.2.1 3]⟩, oI (dL p) oc (dC p), oRq 10 x.1 x.2.1 (dL p) x.2.2 p.co, oFq x.1 (dL p) x.2.2 (dF p)]) (fun x => x.1 ≤ p.n ∧ x.1 ≤ x.2.1 ∧ ∀ j, j < x.1 → dL p ≤ x.2.2 j) (fun x => p.n - x.1) (0, 0, fun _ => 0) ⟨Nat.zero_le _, Nat.le_refl _, fun q hq => absurd hq (Nat.not_lt_zero _)⟩ (Mt.wk (rl := [0, 1, 2, 3, 4, 5, 6, 7, 8, 1000, 1001]) ⟨by kernel_rfl, ?_, ?_⟩) ?_
  · simp only [push_cast, ↓branch_true, ↓branch_false, Nat.reduceBEq, Nat.reduceAdd, Nat.reduceMul, Nat.reduceSub, Int.reduceToNat, reduceCtorEq, branch_decide, branch_not, branch_beq, branch_bne, Int.reduceAdd, Int.reduceEq, Int.reduceLE, Int.reduceLT, Nat.reduceLT, Nat.reduceLeDiff, false_imp_iff, true_imp_iff]
    try trivial
  · simp only [push_cast, ↓branch_true, ↓branch_false, Nat.reduceBEq, Nat.reduceAdd, Nat.reduceMul, Nat.reduceSub, Int.reduceToNat, reduceCtorEq, branch_decide, branch_not, branch_beq, branch_bne, Int.reduceAdd, Int.reduceEq, Int.reduceLE, Int.reduceLT, Nat.reduceLT, Nat.reduceLeDiff, false_imp_iff, true_imp_iff]
  rintro ⟨k, rc, cps⟩ ⟨l1, l2, l3⟩
  simp only at l1 l2 l3
  simp only [push_cast, ↓branch_true, ↓branch_false, Nat.reduceBEq, Nat.reduceAdd, Nat.reduceMul, Nat.reduceSub, Int.reduceToNat, reduceCtorEq, branch_decide, branch_not, branch_beq, branch_bne, Int.reduceAdd, Int.reduceEq, Int.reduceLE, Int.reduceLT, Nat.reduceLT, Nat.reduceLeDiff, false_imp_iff, true_imp_iff]
  refine ⟨fun c4 => ?_, fun c4 => ?_⟩
  · have hkn : k < p.n := by omega
    repeat (with_reducible refine And.intro (by omega) ?_)
    refine tr_loop mixed (by kernel_rfl) (fun (y : Nat × Nat) => [(12, .v (.int .i64 y.1)), (11, .p 11 0 0), (10, .v (.int .i64 k)), (8, .p 7 0 0), (5, .s 6 0 0 (dL p) a2 1), (4, .s 5 0 0 (dL p) a1 1), (2, .p 4 0 0), (1, .p 3 0 0)])
      (fun y => obP p ++ [rBx p, oA0, oI (dL p) a1 (dS p), oI (dL p) a2 (fun q => (dR p q : Nat)), ⟨25, false, .st [.s 8 0 0 (dL p) oc 1, .s 9 0 0 k rc 3]⟩, oI (dL p) oc (dC p), oRq 10 k rc (dL p) cps p.co, oFq k (dL p) cps (dF p), ⟨45, false, .st [.s 12 0 0 y.1 y.2 1, .v (.int .i64 1), .v (.int .i64 (p.co k))]⟩, oI y.1 y.2 (dF p k)]) (fun y => y.1 ≤ dL p ∧ y.1 ≤ y.2) (fun y => dL p - y.1) (0, 0) ⟨Nat.zero_le _, Nat.le_refl _⟩ (Mt.wk (rl := [0, 1, 2, 3, 4, 5, 6, 7, 8, 9, 10, 11, 1000]) ⟨by kernel_rfl, ?_, ?_⟩) ?_
    · simp only [push_cast, ↓branch_true, ↓branch_false, Nat.reduceBEq, Nat.reduceAdd, Nat.reduceMul, Nat.reduceSub, Int.reduceToNat, reduceCtorEq, branch_decide, branch_not, branch_beq, branch_bne, Int.reduceAdd, Int.reduceEq, Int.reduceLE, Int.reduceLT, Nat.reduceLT, Nat.reduceLeDiff, false_imp_iff, true_imp_iff]
      try trivial
    · simp only [push_cast, ↓branch_true, ↓branch_false, Nat.reduceBEq, Nat.reduceAdd, Nat.reduceMul, Nat.reduceSub, Int.reduceToNat, reduceCtorEq, branch_decide, branch_not, branch_beq, branch_bne, Int.reduceAdd, Int.reduceEq, Int.reduceLE, Int.reduceLT, Nat.reduceLT, Nat.reduceLeDiff, false_imp_iff, true_imp_iff]
    rintro ⟨q, ac⟩ ⟨m1, m2⟩
    simp only at m1 m2
    simp only [push_cast, ↓branch_true, ↓branch_false, Nat.reduceBEq, Nat.reduceAdd, Nat.reduceMul, Nat.reduceSub, Int.reduceToNat, reduceCtorEq, branch_decide, branch_not, branch_beq, branch_bne, Int.reduceAdd, Int.reduceEq, Int.reduceLE, Int.reduceLT, Nat.reduceLT, Nat.reduceLeDiff, false_imp_iff, true_imp_iff]
    refine ⟨fun c5 => ?_, fun c5 => ?_⟩
    · have hqL : q < dL p := by omega
      obtain ⟨t, s, ht, hix, hsd⟩ := dq_at p hqL
      have hS : dS p q = s := by unfold dS; rw [hix]
      have hR : dR p q = t := by unfold dR; rw [hix]
      have hF : s * p.a t k = dF p k q := by unfold dF; rw [hix]
      have hlt := hp.ln t ht
      have hat := hp.a t k ht hkn
      have hsb : (s * p.a t k).natAbs ≤ 1048576 := by rcases hsd with ⟨rfl, _⟩ | ⟨rfl, _⟩ <;> omega
      rw [hF] at hsb
      simp only [push_cast, ↓branch_true, ↓branch_false, Nat.reduceBEq, Nat.reduceAdd, Nat.reduceMul, Nat.reduceSub, Int.reduceToNat, reduceCtorEq, branch_decide, branch_not, branch_beq, branch_bne, Int.reduceAdd, Int.reduceEq, Int.reduceLE, Int.reduceLT, Nat.reduceLT, Nat.reduceLeDiff, false_imp_iff, true_imp_iff, hR, hS]
      refine ⟨Nat, fun c2 => [(12, .v (.int .i64 q)), (11, .p 11 0 0), (10, .v (.int .i64 k)), (8, .p 7 0 0), (5, .s 6 0 0 (dL p) a2 1), (4, .s 5 0 0 (dL p) a1 1), (2, .p 4 0 0), (1, .p 3 0 0)],
        fun c2 => obP p ++ [rBx p, oA0, oI (dL p) a1 (dS p), oI (dL p) a2 (fun q => (dR p q : Nat)), ⟨25, false, .st [.s 8 0 0 (dL p) oc 1, .s 9 0 0 k rc 3]⟩, oI (dL p) oc (dC p), oRq 10 k rc (dL p) cps p.co, oFq k (dL p) cps (dF p), ⟨45, false, .st [.s 14 0 0 (q + 1) c2 1, .v (.int .i64 1), .v (.int .i64 (p.co k))]⟩, deadOb, deadOb, oI (q + 1) c2 (dF p k)], fun c2 => q + 1 ≤ c2, ?_, ?_⟩
      · simp only [push_cast, ↓branch_true, ↓branch_false, Nat.reduceBEq, Nat.reduceAdd, Nat.reduceMul, Nat.reduceSub, Int.reduceToNat, reduceCtorEq, branch_decide, branch_not, branch_beq, branch_bne, Int.reduceAdd, Int.reduceEq, Int.reduceLE, Int.reduceLT, Nat.reduceLT, Nat.reduceLeDiff, false_imp_iff, true_imp_iff, hF]
        repeat' (first
          | (with_reducible apply And.intro)
          | omega
          | (refine Or.inr ⟨by omega, by omega, fun c2 hc2 => ?_⟩))
        all_goals
          refine ⟨c2, hc2, Mt.wk (rl := [0, 1, 2, 3, 4, 5, 6, 7, 8, 9, 10, 11, 12, 13, 14]) ⟨by kernel_rfl, ?_, ?_⟩⟩
          · simp only [push_cast, ↓branch_true, ↓branch_false, Nat.reduceBEq, Nat.reduceAdd, Nat.reduceMul, Nat.reduceSub, Int.reduceToNat, reduceCtorEq, branch_decide, branch_not, branch_beq, branch_bne, Int.reduceAdd, Int.reduceEq, Int.reduceLE, Int.reduceLT, Nat.reduceLT, Nat.reduceLeDiff, false_imp_iff, true_imp_iff]
            try trivial
          · simp only [push_cast, ↓branch_true, ↓branch_false, Nat.reduceBEq, Nat.reduceAdd, Nat.reduceMul, Nat.reduceSub, Int.reduceToNat, reduceCtorEq, branch_decide, branch_not, branch_beq, branch_bne, Int.reduceAdd, Int.reduceEq, Int.reduceLE, Int.reduceLT, Nat.reduceLT, Nat.reduceLeDiff, false_imp_iff, true_imp_iff]
            exact lf3 (dF p k)
      · intro c2 hc2
        simp only [push_cast, ↓branch_true, ↓branch_false, Nat.reduceBEq, Nat.reduceAdd, Nat.reduceMul, Nat.reduceSub, Int.reduceToNat, reduceCtorEq, branch_decide, branch_not, branch_beq, branch_bne, Int.reduceAdd, Int.reduceEq, Int.reduceLE, Int.reduceLT, Nat.reduceLT, Nat.reduceLeDiff, false_imp_iff, true_imp_iff, jnK]
        repeat (with_reducible refine And.intro (by omega) ?_)
        refine lpK_normal (q + 1, c2) [0, 1, 2, 3, 4, 5, 6, 7, 8, 9, 10, 11, 14] ⟨by simp only; omega, hc2⟩ (by simp only; omega) (by kernel_rfl) ?_ ?_
        · simp only [push_cast, ↓branch_true, ↓branch_false, Nat.reduceBEq, Nat.reduceAdd, Nat.reduceMul, Nat.reduceSub, Int.reduceToNat, reduceCtorEq, branch_decide, branch_not, branch_beq, branch_bne, Int.reduceAdd, Int.reduceEq, Int.reduceLE, Int.reduceLT, Nat.reduceLT, Nat.reduceLeDiff, false_imp_iff, true_imp_iff]
        · simp only [push_cast, ↓branch_true, ↓branch_false, Nat.reduceBEq, Nat.reduceAdd, Nat.reduceMul, Nat.reduceSub, Int.reduceToNat, reduceCtorEq, branch_decide, branch_not, branch_beq, branch_bne, Int.reduceAdd, Int.reduceEq, Int.reduceLE, Int.reduceLT, Nat.reduceLT, Nat.reduceLeDiff, false_imp_iff, true_imp_iff]
    · obtain rfl : q = dL p := by omega
      repeat (with_reducible refine And.intro (by omega) ?_)
      refine Or.inr ⟨by omega, by omega, fun rc2 hrc2 => ?_⟩
      repeat (with_reducible refine And.intro (by omega) ?_)
      refine lpK_wk (k + 1, rc2, fun j => bif j == k then ac else cps j) ⟨by simp only; omega, hrc2, fun j hj => ?_⟩ (by simp only; omega) ((swk_join 10 12 (by omega) (by omega) ?_).trans (Mt.wk (rl := [0, 1, 2, 3, 4, 5, 6, 7, 8, 14, 10]) ⟨by kernel_rfl, ?_, ?_⟩))
      · show dL p ≤ bif j == k then ac else cps j
        by_cases e : j = k
        · subst e; rw [beq_self_eq_true, cond_true]; exact m2
        · rw [beq_eq_false_iff_ne.2 e, cond_false]; exact l3 j (by simp only at hj; omega)
      · simp only [push_cast, ↓branch_true, ↓branch_false, Nat.reduceBEq, Nat.reduceAdd, Nat.reduceMul, Nat.reduceSub, Int.reduceToNat, reduceCtorEq, branch_decide, branch_not, branch_beq, branch_bne, Int.reduceAdd, Int.reduceEq, Int.reduceLE, Int.reduceLT, Nat.reduceLT, Nat.reduceLeDiff, false_imp_iff, true_imp_iff]
        try trivial
      · simp only [push_cast, ↓branch_true, ↓branch_false, Nat.reduceBEq, Nat.reduceAdd, Nat.reduceMul, Nat.reduceSub, Int.reduceToNat, reduceCtorEq, branch_decide, branch_not, branch_beq, branch_bne, Int.reduceAdd, Int.reduceEq, Int.reduceLE, Int.reduceLT, Nat.reduceLT, Nat.reduceLeDiff, false_imp_iff, true_imp_iff]
        try trivial
      · simp only [push_cast, ↓branch_true, ↓branch_false, Nat.reduceBEq, Nat.reduceAdd, Nat.reduceMul, Nat.reduceSub, Int.reduceToNat, reduceCtorEq, branch_decide, branch_not, branch_beq, branch_bne, Int.reduceAdd, Int.reduceEq, Int.reduceLE, Int.reduceLT, Nat.reduceLT, Nat.reduceLeDiff, false_imp_iff, true_imp_iff]
        refine ⟨fun i _ j hj => ?_, fun i hi => ⟨?_, fun q hq => ?_⟩⟩
        · by_cases e : j = k
          · subst e
            rw [beq_self_eq_true, decide_eq_false (Nat.lt_irrefl j)]
            simp only [push_cast, ↓branch_true, ↓branch_false, Nat.reduceBEq, Nat.reduceAdd, Nat.reduceMul, Nat.reduceSub, Int.reduceToNat, reduceCtorEq, branch_decide, branch_not, branch_beq, branch_bne, Int.reduceAdd, Int.reduceEq, Int.reduceLE, Int.reduceLT, Nat.reduceLT, Nat.reduceLeDiff, false_imp_iff, true_imp_iff]
          · have hb := beq_eq_false_iff_ne.2 e
            rw [hb, decide_eq_true (show j < k by omega)]
            simp only [push_cast, ↓branch_true, ↓branch_false, Nat.reduceBEq, Nat.reduceAdd, Nat.reduceMul, Nat.reduceSub, Int.reduceToNat, reduceCtorEq, branch_decide, branch_not, branch_beq, branch_bne, Int.reduceAdd, Int.reduceEq, Int.reduceLE, Int.reduceLT, Nat.reduceLT, Nat.reduceLeDiff, false_imp_iff, true_imp_iff, hb]
        · cases i == k <;> exact Nat.le_refl _
        · by_cases e : i = k
          · subst e
            rw [beq_self_eq_true]
            simp only [push_cast, ↓branch_true, ↓branch_false, Nat.reduceBEq, Nat.reduceAdd, Nat.reduceMul, Nat.reduceSub, Int.reduceToNat, reduceCtorEq, branch_decide, branch_not, branch_beq, branch_bne, Int.reduceAdd, Int.reduceEq, Int.reduceLE, Int.reduceLT, Nat.reduceLT, Nat.reduceLeDiff, false_imp_iff, true_imp_iff]
          · rw [beq_eq_false_iff_ne.2 e]
            simp only [push_cast, ↓branch_true, ↓branch_false, Nat.reduceBEq, Nat.reduceAdd, Nat.reduceMul, Nat.reduceSub, Int.reduceToNat, reduceCtorEq, branch_decide, branch_not, branch_beq, branch_bne, Int.reduceAdd, Int.reduceEq, Int.reduceLE, Int.reduceLT, Nat.reduceLT, Nat.reduceLeDiff, false_imp_iff, true_imp_iff]
  · obtain rfl : k = p.n := by omega
    repeat (with_reducible refine And.intro (by omega) ?_)
    refine ⟨_, _, [0, 1, 2, 8, 9, 10], ?_, by kernel_rfl, ?_, .ok oc rc cps hm0 hns hbg k2 l2 l3⟩
    · simp only [push_cast, ↓branch_true, ↓branch_false, Nat.reduceBEq, Nat.reduceAdd, Nat.reduceMul, Nat.reduceSub, Int.reduceToNat, reduceCtorEq, branch_decide, branch_not, branch_beq, branch_bne, Int.reduceAdd, Int.reduceEq, Int.reduceLE, Int.reduceLT, Nat.reduceLT, Nat.reduceLeDiff, false_imp_iff, true_imp_iff]
    · simp only [push_cast, ↓branch_true, ↓branch_false, Nat.reduceBEq, Nat.reduceAdd, Nat.reduceMul, Nat.reduceSub, Int.reduceToNat, reduceCtorEq, branch_decide, branch_not, branch_beq, branch_bne, Int.reduceAdd, Int.reduceEq, Int.reduceLE, Int.reduceLT, Nat.reduceLT, Nat.reduceLeDiff, false_imp_iff, true_imp_iff]
end Go.Proofs.Ytmefgachdnlaoaa
