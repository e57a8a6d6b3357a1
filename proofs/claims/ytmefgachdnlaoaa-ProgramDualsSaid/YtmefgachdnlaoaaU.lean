/- Contract: the closure add of Dual. -/
import Derived.Test.YtmefgachdnlaoaaKV
set_option maxRecDepth 100000
set_option linter.unusedSimpArgs false
set_option linter.unusedVariables false
namespace Go.Proofs.Ytmefgachdnlaoaa
open Go.RowKit Lp
def oOut (c L oc n : Nat) : Ob := ⟨25, false, .st [.s c 0 0 L oc 1, .s 5 0 0 n n 3]⟩
def oRws (F n L : Nat) (cps : Nat → Nat) (co : Nat → Int) : Ob := ⟨45, false, .row 3 1 (fun _ => n) (fun _ => n) (fun _ j => [.s F j 0 L (cps j) 1, .v (.int .i64 1), .v (.int .i64 (co j))])⟩
def oFmD (n L : Nat) (cps : Nat → Nat) (f : Nat → Nat → Int) : Ob := ⟨3, false, .row 1 (big + 2) (fun j => bif decide (j < n) then L else 0) cps (fun j q => [.v (.int .i64 (f j q))])⟩
/-- While the rows are gone through. -/
def oRwM (n L k : Nat) (cps cp2 : Nat → Nat) (co : Nat → Int) : Ob := ⟨45, false, .row 3 1 (fun _ => n) (fun _ => n) (fun _ j => bif decide (j < k) then [.s 9 j 0 (L + 1) (cp2 j) 1, .v (.int .i64 1), .v (.int .i64 (co j))] else [.s 6 j 0 L (cps j) 1, .v (.int .i64 1), .v (.int .i64 (co j))])⟩
def oFmO (n L k : Nat) (cps : Nat → Nat) (f : Nat → Nat → Int) : Ob := ⟨3, false, .row 1 (big + 2) (fun j => bif decide (j < k) then 0 else bif decide (j < n) then L else 0) (fun j => bif decide (j < k) then 0 else cps j) (fun j q => [.v (.int .i64 (f j q))])⟩
attribute [push_cast] oOut oRws oFmD oRwM oFmO
theorem dl_fam (L n j i : Nat) (cps : Nat → Nat) : ((bif decide (i < j + 1) then 0 else bif decide (i < n) then L else 0) ≤ bif i == j then 0 else bif decide (i < j) then 0 else bif decide (i < n) then L else 0) ∧ (bif decide (i < j + 1) then 0 else cps i) = bif i == j then 0 else bif decide (i < j) then 0 else cps i := by
  by_cases e : i = j
  · subst e; simp
  · rw [beq_eq_false_iff_ne.2 e, show decide (i < j + 1) = decide (i < j) by rw [decide_eq_decide]; omega]
    exact ⟨Nat.le_refl _, rfl⟩
set_option maxHeartbeats 16000000 in
theorem add_sp (p : Pm) (hp : PmOk p) (t : Nat) (ht : t < p.m) (sg : Int) (hs : sg = 1 ∨ sg = -1) (L oc : Nat) (cps : Nat → Nat) (cst : Nat → Int) (f : Nat → Nat → Int) (hL : L ≤ 1000) (hoc : L ≤ oc) (hcp : ∀ j, j < p.n → L ≤ cps j) (hc : cst L = -sg * p.b t) (hf : ∀ j, j < p.n → f j L = sg * p.a t j) :
    Sp Try.prog 87 [.a [.s 2 t 0 (p.ln t) (p.cp t) 1, .v (.int .i64 (p.kd t)), .v (.int .i64 (p.b t))], .v (.int .i64 sg), .p 3 0 0] (obP p ++ [oOut 4 L oc p.n, oI L oc cst, oRws 6 p.n L cps p.co, oFmD p.n L cps f])
      (fun r H => r = .t [] ∧ ∃ oc' cps', L + 1 ≤ oc' ∧ (∀ j, j < p.n → L + 1 ≤ cps' j) ∧ H = obP p ++ [oOut 7 (L + 1) oc' p.n, deadOb, oRws 8 p.n (L + 1) cps' p.co, deadOb, oI (L + 1) oc' cst, oFmD p.n (L + 1) cps' f]) := by
  have hn := hp.n
  have hm := hp.m
  have hln := hp.ln t ht
  have hbt := hp.b t ht
  have hat := hp.a t
  have hbig := big_eq
  have hfz := p.fzm
  have hcv : (0 - sg) * p.b t = cst L := by rw [hc, Int.zero_sub]
  have hcb : (cst L).natAbs ≤ 1073741824 := by rw [hc]; rcases hs with e | e <;> rw [e] <;> omega
  refine sp_weak ?_
  refine sp_of_ex true [(5, .jx (.pre [7] [0, 2, 3, 5, 9, 10, 11, 12, 13, 14, 15] (.alt [(1, .alt [(4, .one 6 (.one 7 (.alt [(8, .one 16 (.one 17 (.one 18 (.one 19 (.one 20 .fin))))), (16, .one 8 (.one 17 (.one 18 (.one 19 (.one 20 .fin)))))]))), (16, .one 4 (.one 6 (.one 7 (.one 8 (.one 17 (.one 18 (.one 19 (.one 20 .fin))))))))]), (4, .one 6 (.one 7 (.alt [(1, .alt [(8, .one 16 (.one 17 (.one 18 (.one 19 (.one 20 .fin))))), (16, .one 8 (.one 17 (.one 18 (.one 19 (.one 20 .fin)))))]), (8, .alt [(1, .one 16 (.one 17 (.one 18 (.one 19 (.one 20 .fin))))), (16, .alt [(1, .one 17 (.one 18 (.one 19 (.one 20 .fin)))), (17, .one 1 (.one 18 (.one 19 (.one 20 .fin))))])]), (16, .alt [(1, .one 8 (.one 17 (.one 18 (.one 19 (.one 20 .fin))))), (8, .alt [(1, .one 17 (.one 18 (.one 19 (.one 20 .fin)))), (17, .one 1 (.one 18 (.one 19 (.one 20 .fin))))])])]))), (16, .alt [(1, .one 4 (.one 6 (.one 7 (.one 8 (.one 17 (.one 18 (.one 19 (.one 20 .fin)))))))), (4, .one 6 (.one 7 (.alt [(1, .one 8 (.one 17 (.one 18 (.one 19 (.one 20 .fin))))), (8, .alt [(1, .one 17 (.one 18 (.one 19 (.one 20 .fin)))), (17, .one 1 (.one 18 (.one 19 (.one 20 .fin))))])])))])])))] mixed Try.call87 Try.func87 rfl Try.ntmps87 Try.results87 (by decide +kernel) rfl ?_
  simp only [push_cast, ↓branch_true, ↓branch_false, Nat.reduceBEq, Nat.reduceAdd, Nat.reduceMul, Nat.reduceSub, Int.reduceToNat, reduceCtorEq, branch_decide, branch_not, branch_beq, branch_bne, Int.reduceAdd, Int.reduceEq, Int.reduceLE, Int.reduceLT, Nat.reduceLT, Nat.reduceLeDiff, false_imp_iff, true_imp_iff]
  simp only [push_cast, ↓branch_true, ↓branch_false, Nat.reduceBEq, Nat.reduceAdd, Nat.reduceMul, Nat.reduceSub, Int.reduceToNat, reduceCtorEq, branch_decide, branch_not, branch_beq, branch_bne, Int.reduceAdd, Int.reduceEq, Int.reduceLE, Int.reduceLT, Nat.reduceLT, Nat.reduceLeDiff, false_imp_iff, true_imp_iff, hcv]
  repeat (with_reducible refine And.intro (by omega) ?_)
  refine Or.inr ⟨by omega, by omega, fun oc2 hoc2 => ?_⟩
  refine tr_loop mixed (by kernel_rfl) (fun (x : Nat × (Nat → Nat)) => [(19, .v (.int .i64 x.1)), (18, .v (.int .i64 p.n)), (3, .p 7 0 0), (2, .p 3 0 0), (1, .v (.int .i64 sg))])
    (fun x => obP p ++ [oOut 8 (L + 1) oc2 p.n, deadOb, oRwM p.n L x.1 cps x.2 p.co, oFmO p.n L x.1 cps f, ⟨45, true, .st [.s 2 t 0 (p.ln t) (p.cp t) 1, .v (.int .i64 (p.kd t)), .v (.int .i64 (p.b t))]⟩, oI (L + 1) oc2 cst, oFmD x.1 (L + 1) x.2 f])
    (fun x => x.1 ≤ p.n ∧ ∀ j, j < x.1 → L + 1 ≤ x.2 j) (fun x => p.n - x.1) (0, fun _ => 0) ⟨Nat.zero_le _, fun j hj => absurd hj (Nat.not_lt_zero _)⟩ (Mt.wk (rl := [0, 1, 2, 3, 4, 5, 6, 7, 9, 1000]) ⟨by kernel_rfl, ?_, ?_⟩) ?_
  · simp only [push_cast, ↓branch_true, ↓branch_false, Nat.reduceBEq, Nat.reduceAdd, Nat.reduceMul, Nat.reduceSub, Int.reduceToNat, reduceCtorEq, branch_decide, branch_not, branch_beq, branch_bne, Int.reduceAdd, Int.reduceEq, Int.reduceLE, Int.reduceLT, Nat.reduceLT, Nat.reduceLeDiff, false_imp_iff, true_imp_iff]
    try trivial
  · simp only [push_cast, ↓branch_true, ↓branch_false, Nat.reduceBEq, Nat.reduceAdd, Nat.reduceMul, Nat.reduceSub, Int.reduceToNat, reduceCtorEq, branch_decide, branch_not, branch_beq, branch_bne, Int.reduceAdd, Int.reduceEq, Int.reduceLE, Int.reduceLT, Nat.reduceLT, Nat.reduceLeDiff, false_imp_iff, true_imp_iff]
    refine ⟨fun i _ k hk => ?_, fun i _ => ?_, lf3 cst, .inr fun i => ?_⟩
    · rw [decide_eq_false (Nat.not_lt_zero k)]
      simp only [push_cast, ↓branch_true, ↓branch_false, Nat.reduceBEq, Nat.reduceAdd, Nat.reduceMul, Nat.reduceSub, Int.reduceToNat, reduceCtorEq, branch_decide, branch_not, branch_beq, branch_bne, Int.reduceAdd, Int.reduceEq, Int.reduceLE, Int.reduceLT, Nat.reduceLT, Nat.reduceLeDiff, false_imp_iff, true_imp_iff]
    · rw [decide_eq_false (Nat.not_lt_zero i)]
      exact ⟨Nat.le_refl _, rfl⟩
    · rw [decide_eq_false (Nat.not_lt_zero i)]
      rfl
  rintro ⟨j, cp2⟩ ⟨g1, g2⟩
  simp only at g1 g2
  simp only [push_cast, ↓branch_true, ↓branch_false, Nat.reduceBEq, Nat.reduceAdd, Nat.reduceMul, Nat.reduceSub, Int.reduceToNat, reduceCtorEq, branch_decide, branch_not, branch_beq, branch_bne, Int.reduceAdd, Int.reduceEq, Int.reduceLE, Int.reduceLT, Nat.reduceLT, Nat.reduceLeDiff, false_imp_iff, true_imp_iff]
  refine ⟨fun h1 => ?_, fun h1 => ?_⟩
  · have hjn : j < p.n := by omega
    have hfj := hf j hjn
    have haj := hat j ht hjn
    have hgj := hcp j hjn
    have hfb : (f j L).natAbs ≤ 1048576 := by rw [hfj]; rcases hs with e | e <;> rw [e] <;> omega
    have hj0 : decide (j < j) = false := by simp
    simp only [push_cast, ↓branch_true, ↓branch_false, Nat.reduceBEq, Nat.reduceAdd, Nat.reduceMul, Nat.reduceSub, Int.reduceToNat, reduceCtorEq, branch_decide, branch_not, branch_beq, branch_bne, Int.reduceAdd, Int.reduceEq, Int.reduceLE, Int.reduceLT, Nat.reduceLT, Nat.reduceLeDiff, false_imp_iff, true_imp_iff, ← hfj, hj0, decide_eq_true hjn]
    refine ⟨Nat, fun c2 => [(19, .v (.int .i64 j)), (18, .v (.int .i64 p.n)), (3, .p 7 0 0), (2, .p 3 0 0), (1, .v (.int .i64 sg))],
      fun c2 => obP p ++ [oOut 8 (L + 1) oc2 p.n, deadOb, ⟨45, false, .row 3 1 (fun _ => p.n) (fun _ => p.n) (fun _ q => bif decide (q < j) then [.s 9 q 0 (L + 1) (cp2 q) 1, .v (.int .i64 1), .v (.int .i64 (p.co q))] else bif decide (q < j + 1) then [.s 12 0 0 (L + 1) c2 1, .v (.int .i64 1), .v (.int .i64 (p.co q))] else [.s 6 q 0 L (cps q) 1, .v (.int .i64 1), .v (.int .i64 (p.co q))])⟩, oFmO p.n L (j + 1) cps f, ⟨45, true, .st [.s 2 t 0 (p.ln t) (p.cp t) 1, .v (.int .i64 (p.kd t)), .v (.int .i64 (p.b t))]⟩, oI (L + 1) oc2 cst, oFmD j (L + 1) cp2 f, deadOb, deadOb, oI (L + 1) c2 (f j)],
      fun c2 => L + 1 ≤ c2, ?_, ?_⟩
    · simp only [push_cast, ↓branch_true, ↓branch_false, Nat.reduceBEq, Nat.reduceAdd, Nat.reduceMul, Nat.reduceSub, Int.reduceToNat, reduceCtorEq, branch_decide, branch_not, branch_beq, branch_bne, Int.reduceAdd, Int.reduceEq, Int.reduceLE, Int.reduceLT, Nat.reduceLT, Nat.reduceLeDiff, false_imp_iff, true_imp_iff]
      repeat' (first
        | (with_reducible apply And.intro)
        | (with_reducible intro _)
        | omega
        | (refine Or.inr ?_))
      all_goals
        rename_i c2 hc2
        refine ⟨c2, hc2, Mt.wk (rl := [0, 1, 2, 3, 4, 5, 6, 7, 8, 9, 10, 11, 12]) ⟨by kernel_rfl, ?_, ?_⟩⟩
        · simp only [push_cast, ↓branch_true, ↓branch_false, Nat.reduceBEq, Nat.reduceAdd, Nat.reduceMul, Nat.reduceSub, Int.reduceToNat, reduceCtorEq, branch_decide, branch_not, branch_beq, branch_bne, Int.reduceAdd, Int.reduceEq, Int.reduceLE, Int.reduceLT, Nat.reduceLT, Nat.reduceLeDiff, false_imp_iff, true_imp_iff]
          try trivial
        · simp only [push_cast, ↓branch_true, ↓branch_false, Nat.reduceBEq, Nat.reduceAdd, Nat.reduceMul, Nat.reduceSub, Int.reduceToNat, reduceCtorEq, branch_decide, branch_not, branch_beq, branch_bne, Int.reduceAdd, Int.reduceEq, Int.reduceLE, Int.reduceLT, Nat.reduceLT, Nat.reduceLeDiff, false_imp_iff, true_imp_iff]
          refine ⟨fun i hi k hk => ?_, fun i _ => dl_fam L p.n j i cps, lf3 (f j)⟩
          obtain rfl : i = 0 := by omega
          by_cases e1 : k = j
          · subst e1
            rw [beq_self_eq_true, beq_self_eq_true, Bool.and_true, mrgL_yes, hj0, decide_eq_true (Nat.lt_succ_self k)]
            simp only [push_cast, ↓branch_true, ↓branch_false, Nat.reduceBEq, Nat.reduceAdd, Nat.reduceMul, Nat.reduceSub, Int.reduceToNat, reduceCtorEq, branch_decide, branch_not, branch_beq, branch_bne, Int.reduceAdd, Int.reduceEq, Int.reduceLE, Int.reduceLT, Nat.reduceLT, Nat.reduceLeDiff, false_imp_iff, true_imp_iff]
          · rw [beq_eq_false_iff_ne.2 e1, Bool.and_false, mrgL_no, show decide (k < j + 1) = decide (k < j) by rw [decide_eq_decide]; omega]
            cases decide (k < j)
            · simp only [push_cast, ↓branch_true, ↓branch_false, Nat.reduceBEq, Nat.reduceAdd, Nat.reduceMul, Nat.reduceSub, Int.reduceToNat, reduceCtorEq, branch_decide, branch_not, branch_beq, branch_bne, Int.reduceAdd, Int.reduceEq, Int.reduceLE, Int.reduceLT, Nat.reduceLT, Nat.reduceLeDiff, false_imp_iff, true_imp_iff]
            · simp only [push_cast, ↓branch_true, ↓branch_false, Nat.reduceBEq, Nat.reduceAdd, Nat.reduceMul, Nat.reduceSub, Int.reduceToNat, reduceCtorEq, branch_decide, branch_not, branch_beq, branch_bne, Int.reduceAdd, Int.reduceEq, Int.reduceLE, Int.reduceLT, Nat.reduceLT, Nat.reduceLeDiff, false_imp_iff, true_imp_iff]
    · intro c2 hc2
      simp only [push_cast, ↓branch_true, ↓branch_false, Nat.reduceBEq, Nat.reduceAdd, Nat.reduceMul, Nat.reduceSub, Int.reduceToNat, reduceCtorEq, branch_decide, branch_not, branch_beq, branch_bne, Int.reduceAdd, Int.reduceEq, Int.reduceLE, Int.reduceLT, Nat.reduceLT, Nat.reduceLeDiff, false_imp_iff, true_imp_iff, jnK]
      repeat (with_reducible refine And.intro (by omega) ?_)
      refine lpK_wk (j + 1, fun q => bif q == j then c2 else cp2 q) ⟨by simp only; omega, fun q hq => ?_⟩ (by simp only; omega) ((swk_place 9 j 12 (by omega) (by omega) (by omega) ?_).trans (Mt.wk (rl := [0, 1, 2, 3, 4, 5, 6, 7, 8, 9]) ⟨by kernel_rfl, ?_, ?_⟩))
      · show L + 1 ≤ bif q == j then c2 else cp2 q
        by_cases e : q = j
        · subst e; rw [beq_self_eq_true, cond_true]; exact hc2
        · rw [beq_eq_false_iff_ne.2 e, cond_false]; exact g2 q (by simp only at hq; omega)
      · simp only [push_cast, ↓branch_true, ↓branch_false, Nat.reduceBEq, Nat.reduceAdd, Nat.reduceMul, Nat.reduceSub, Int.reduceToNat, reduceCtorEq, branch_decide, branch_not, branch_beq, branch_bne, Int.reduceAdd, Int.reduceEq, Int.reduceLE, Int.reduceLT, Nat.reduceLT, Nat.reduceLeDiff, false_imp_iff, true_imp_iff]
        omega
      · simp only [push_cast, ↓branch_true, ↓branch_false, Nat.reduceBEq, Nat.reduceAdd, Nat.reduceMul, Nat.reduceSub, Int.reduceToNat, reduceCtorEq, branch_decide, branch_not, branch_beq, branch_bne, Int.reduceAdd, Int.reduceEq, Int.reduceLE, Int.reduceLT, Nat.reduceLT, Nat.reduceLeDiff, false_imp_iff, true_imp_iff]
      · simp only [push_cast, ↓branch_true, ↓branch_false, Nat.reduceBEq, Nat.reduceAdd, Nat.reduceMul, Nat.reduceSub, Int.reduceToNat, reduceCtorEq, branch_decide, branch_not, branch_beq, branch_bne, Int.reduceAdd, Int.reduceEq, Int.reduceLE, Int.reduceLT, Nat.reduceLT, Nat.reduceLeDiff, false_imp_iff, true_imp_iff]
        refine ⟨fun i hi k hk => ?_, fun i _ => ?_⟩
        · by_cases e1 : k = j
          · subst e1
            rw [hj0, decide_eq_true (Nat.lt_succ_self k), beq_self_eq_true]
            simp only [push_cast, ↓branch_true, ↓branch_false, Nat.reduceBEq, Nat.reduceAdd, Nat.reduceMul, Nat.reduceSub, Int.reduceToNat, reduceCtorEq, branch_decide, branch_not, branch_beq, branch_bne, Int.reduceAdd, Int.reduceEq, Int.reduceLE, Int.reduceLT, Nat.reduceLT, Nat.reduceLeDiff, false_imp_iff, true_imp_iff]
          · have hkj := beq_eq_false_iff_ne.2 e1
            rw [hkj, show decide (k < j + 1) = decide (k < j) by rw [decide_eq_decide]; omega]
            cases decide (k < j)
            · simp only [push_cast, ↓branch_true, ↓branch_false, Nat.reduceBEq, Nat.reduceAdd, Nat.reduceMul, Nat.reduceSub, Int.reduceToNat, reduceCtorEq, branch_decide, branch_not, branch_beq, branch_bne, Int.reduceAdd, Int.reduceEq, Int.reduceLE, Int.reduceLT, Nat.reduceLT, Nat.reduceLeDiff, false_imp_iff, true_imp_iff, hkj]
            · simp only [push_cast, ↓branch_true, ↓branch_false, Nat.reduceBEq, Nat.reduceAdd, Nat.reduceMul, Nat.reduceSub, Int.reduceToNat, reduceCtorEq, branch_decide, branch_not, branch_beq, branch_bne, Int.reduceAdd, Int.reduceEq, Int.reduceLE, Int.reduceLT, Nat.reduceLT, Nat.reduceLeDiff, false_imp_iff, true_imp_iff, hkj]
        · by_cases e1 : i = j
          · subst e1
            rw [hj0, decide_eq_true (Nat.lt_succ_self i), beq_self_eq_true]
            simp only [push_cast, ↓branch_true, ↓branch_false, Nat.reduceBEq, Nat.reduceAdd, Nat.reduceMul, Nat.reduceSub, Int.reduceToNat, reduceCtorEq, branch_decide, branch_not, branch_beq, branch_bne, Int.reduceAdd, Int.reduceEq, Int.reduceLE, Int.reduceLT, Nat.reduceLT, Nat.reduceLeDiff, false_imp_iff, true_imp_iff]
          · rw [beq_eq_false_iff_ne.2 e1, show decide (i < j + 1) = decide (i < j) by rw [decide_eq_decide]; omega]
            simp only [push_cast, ↓branch_true, ↓branch_false, Nat.reduceBEq, Nat.reduceAdd, Nat.reduceMul, Nat.reduceSub, Int.reduceToNat, reduceCtorEq, branch_decide, branch_not, branch_beq, branch_bne, Int.reduceAdd, Int.reduceEq, Int.reduceLE, Int.reduceLT, Nat.reduceLT, Nat.reduceLeDiff, false_imp_iff, true_imp_iff]
  · obtain rfl : j = p.n := by omega
    refine ⟨_, _, [0, 1, 2, 3, 4, 5, 6, 8, 9], ?_, by kernel_rfl, ?_, rfl, oc2, cp2, hoc2, g2, rfl⟩
    · simp only [push_cast, ↓branch_true, ↓branch_false, Nat.reduceBEq, Nat.reduceAdd, Nat.reduceMul, Nat.reduceSub, Int.reduceToNat, reduceCtorEq, branch_decide, branch_not, branch_beq, branch_bne, Int.reduceAdd, Int.reduceEq, Int.reduceLE, Int.reduceLT, Nat.reduceLT, Nat.reduceLeDiff, false_imp_iff, true_imp_iff]
    · simp only [push_cast, ↓branch_true, ↓branch_false, Nat.reduceBEq, Nat.reduceAdd, Nat.reduceMul, Nat.reduceSub, Int.reduceToNat, reduceCtorEq, branch_decide, branch_not, branch_beq, branch_bne, Int.reduceAdd, Int.reduceEq, Int.reduceLE, Int.reduceLT, Nat.reduceLT, Nat.reduceLeDiff, false_imp_iff, true_imp_iff]
      exact fun i _ k hk => by
        rw [decide_eq_true hk]
        simp only [push_cast, ↓branch_true, ↓branch_false, Nat.reduceBEq, Nat.reduceAdd, Nat.reduceMul, Nat.reduceSub, Int.reduceToNat, reduceCtorEq, branch_decide, branch_not, branch_beq, branch_bne, Int.reduceAdd, Int.reduceEq, Int.reduceLE, Int.reduceLT, Nat.reduceLT, Nat.reduceLeDiff, false_imp_iff, true_imp_iff]
end Go.Proofs.Ytmefgachdnlaoaa
