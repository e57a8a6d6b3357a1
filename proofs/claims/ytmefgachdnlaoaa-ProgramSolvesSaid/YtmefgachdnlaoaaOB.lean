/- Contract of package ratio: Add. -/
import Derived.Test.YtmefgachdnlaoaaOA
set_option maxRecDepth 100000
set_option linter.unusedSimpArgs false
set_option linter.unusedVariables false
namespace Go.Proofs.Ytmefgachdnlaoaa
open Go.RowKit Lp
def oF (r : Bool) (n d : Int) : Ob := ⟨27, r, .st [.v (.int .i64 n), .v (.int .i64 d)]⟩
def oW (x : Nat) : Ob := ⟨96, false, .st [.v (.int .u64 (hN x : Nat)), .v (.int .u64 (lN x : Nat))]⟩
attribute [push_cast] oF oW
theorem gcd_mod' (g t : Nat) : Nat.gcd g (t % g) = Nat.gcd g t := by
  rw [Nat.gcd_comm g (t % g), ← Nat.gcd_rec]
set_option maxHeartbeats 8000000 in
theorem add_core {an bn ad bd rn0 rd0 re0 : Int} {A B g X Y t c M E : Nat} {tneg : Bool}
    (va : ∀ H, Pu Try.prog 45 [.a [.v (.int .i64 an), .v (.int .i64 ad)]] H (.v (.bool true)))
    (vb : ∀ H, Pu Try.prog 45 [.a [.v (.int .i64 bn), .v (.int .i64 bd)]] H (.v (.bool true)))
    (hd : (0 ≤ ad ∧ ad ≤ 1152921504606846976) ∧ 0 ≤ bd ∧ bd ≤ 1152921504606846976)
    (gp : ∀ H, Pu Try.prog 88 [.v (.int .u64 ad), .v (.int .u64 bd)] H (.v (.int .u64 g)))
    (hg : 0 < g ∧ 0 < c)
    (sa : ∀ H, Pu Try.prog 69 [.v (.int .i64 an)] H (.v (.int .u64 A)))
    (sb : ∀ H, Pu Try.prog 69 [.v (.int .i64 bn)] H (.v (.int .u64 B)))
    (p1 : ∀ H, Pu Try.prog 68 [.v (.int .u64 A), .v (.int .u64 (bd.tdiv g))] H (wV X))
    (p2 : ∀ H, Pu Try.prog 68 [.v (.int .u64 B), .v (.int .u64 (ad.tdiv g))] H (wV Y))
    (hq : (0 ≤ bd.tdiv g ∧ bd.tdiv g ≤ 18446744073709551615) ∧ (0 ≤ ad.tdiv g ∧ ad.tdiv g ≤ 18446744073709551615) ∧ 0 ≤ bd.tdiv c ∧ bd.tdiv c ≤ 18446744073709551615)
    (hplus : (decide (an < 0) == decide (bn < 0)) = true → (∀ H, Pu Try.prog 89 [wV X, wV Y] H (wV t)) ∧ (0 < t → tneg = decide (an < 0)))
    (hless : ∀ H, Pu Try.prog 70 [wV X, wV Y] H (.v (.bool (decide (X < Y)))))
    (hm1 : (decide (an < 0) == decide (bn < 0)) = false → X < Y → (∀ H, Pu Try.prog 90 [wV Y, wV X] H (wV t)) ∧ tneg = !decide (an < 0))
    (hm2 : (decide (an < 0) == decide (bn < 0)) = false → ¬ X < Y → (∀ H, Pu Try.prog 90 [wV X, wV Y] H (wV t)) ∧ (0 < t → tneg = decide (an < 0)))
    (ov1 : ∀ H, Pu Try.prog 91 [wV t, .v (.int .u64 g)] H (.t [wV (t / g), .v (.int .u64 (t % g : Nat))]))
    (gc : ∀ H, Pu Try.prog 88 [.v (.int .u64 g), .v (.int .u64 (t % g : Nat))] H (.v (.int .u64 c)))
    (ov2 : ∀ H, Pu Try.prog 91 [wV t, .v (.int .u64 c)] H (.t [wV M, .v (.int .u64 (t % c : Nat))]))
    (p3 : ∀ H, Pu Try.prog 68 [.v (.int .u64 (ad.tdiv g)), .v (.int .u64 (bd.tdiv c))] H (wV E))
    (hs : ∀ H, Pu Try.prog 92 [.v (.bool tneg), .v (.int .u64 (lN M : Nat)), .v (.int .u64 (lN E : Nat))] H (.t [.a [.v (.int .i64 (sgN tneg (lN M) (lN E))), .v (.int .i64 (sgD (lN M) (lN E)))], .v (.int .i64 (sgE (lN M) (lN E)))]))
    (h0 : t = 0 → rn0 = 0 ∧ rd0 = 1 ∧ re0 = 0)
    (hbig : 0 < t → ¬ (hN M = 0 ∧ hN E = 0) → rn0 = 0 ∧ rd0 = 0 ∧ re0 = 5)
    (hok : 0 < t → hN M = 0 → hN E = 0 → rn0 = sgN tneg (lN M) (lN E) ∧ rd0 = sgD (lN M) (lN E) ∧ re0 = sgE (lN M) (lN E)) :
    Pu Try.prog 39 [frV an ad, frV bn bd] [] (.t [frV rn0 rd0, .v (.int .i64 re0)]) := by
  have ht : t = 0 ↔ hN t = 0 ∧ lN t = 0 := by have := hl t; unfold hN lN; omega
  simp only [push_cast] at *
  refine pu_of_ex true [(4, .jn (.pre [0, 1] [0, 1, 3, 4, 5, 6, 7, 9, 10, 12, 13, 14, 15, 16] (.alt [(2, .alt [(8, .alt [(11, .alt [(17, .alt [(18, .one 19 (.one 20 (.one 21 .fin))), (19, .one 18 (.one 20 (.one 21 .fin)))]), (18, .alt [(17, .one 19 (.one 20 (.one 21 .fin))), (19, .one 17 (.one 20 (.one 21 .fin)))]), (19, .alt [(17, .one 18 (.one 20 (.one 21 .fin))), (18, .one 17 (.one 20 (.one 21 .fin)))])]), (18, .alt [(11, .alt [(17, .one 19 (.one 20 (.one 21 .fin))), (19, .one 17 (.one 20 (.one 21 .fin)))]), (19, .one 11 (.one 17 (.one 20 (.one 21 .fin))))]), (19, .alt [(11, .alt [(17, .one 18 (.one 20 (.one 21 .fin))), (18, .one 17 (.one 20 (.one 21 .fin)))]), (18, .one 11 (.one 17 (.one 20 (.one 21 .fin))))])]), (18, .alt [(8, .alt [(11, .alt [(17, .one 19 (.one 20 (.one 21 .fin))), (19, .one 17 (.one 20 (.one 21 .fin)))]), (19, .one 11 (.one 17 (.one 20 (.one 21 .fin))))]), (19, .one 8 (.one 11 (.one 17 (.one 20 (.one 21 .fin)))))]), (19, .alt [(8, .alt [(11, .alt [(17, .one 18 (.one 20 (.one 21 .fin))), (18, .one 17 (.one 20 (.one 21 .fin)))]), (18, .one 11 (.one 17 (.one 20 (.one 21 .fin))))]), (18, .one 8 (.one 11 (.one 17 (.one 20 (.one 21 .fin)))))])]), (18, .alt [(2, .alt [(8, .alt [(11, .alt [(17, .one 19 (.one 20 (.one 21 .fin))), (19, .one 17 (.one 20 (.one 21 .fin)))]), (19, .one 11 (.one 17 (.one 20 (.one 21 .fin))))]), (19, .one 8 (.one 11 (.one 17 (.one 20 (.one 21 .fin)))))]), (19, .one 2 (.one 8 (.one 11 (.one 17 (.one 20 (.one 21 .fin))))))]), (19, .alt [(2, .alt [(8, .alt [(11, .alt [(17, .one 18 (.one 20 (.one 21 .fin))), (18, .one 17 (.one 20 (.one 21 .fin)))]), (18, .one 11 (.one 17 (.one 20 (.one 21 .fin))))]), (18, .one 8 (.one 11 (.one 17 (.one 20 (.one 21 .fin)))))]), (18, .one 2 (.one 8 (.one 11 (.one 17 (.one 20 (.one 21 .fin))))))])]))), (16, .jn (.pre [0, 1] [0, 1, 2, 3, 4, 5, 6, 7, 8, 9] (.alt [(10, .one 11 (.one 12 .fin)), (11, .one 10 (.one 12 .fin))])))] mixed Try.call39 Try.func39 rfl Try.ntmps39 Try.results39 (by decide +kernel) rfl rfl rfl ?_
  simp only [push_cast, ↓branch_true, ↓branch_false, Nat.reduceBEq, Nat.reduceAdd, Nat.reduceMul, Nat.reduceSub, Int.reduceToNat, reduceCtorEq, Int.reduceAdd, Int.reduceEq, Int.reduceLE, Int.reduceLT, Nat.reduceLT, Nat.reduceLeDiff]
  refine sp_pu (va _) ?_
  simp only [push_cast, ↓branch_true, ↓branch_false, Nat.reduceBEq, Nat.reduceAdd, Nat.reduceMul, Nat.reduceSub, Int.reduceToNat, reduceCtorEq, Int.reduceAdd, Int.reduceEq, Int.reduceLE, Int.reduceLT, Nat.reduceLT, Nat.reduceLeDiff]
  refine sp_pu (vb _) ?_
  simp only [push_cast, ↓branch_true, ↓branch_false, Nat.reduceBEq, Nat.reduceAdd, Nat.reduceMul, Nat.reduceSub, Int.reduceToNat, reduceCtorEq, Int.reduceAdd, Int.reduceEq, Int.reduceLE, Int.reduceLT, Nat.reduceLT, Nat.reduceLeDiff]
  repeat (with_reducible refine And.intro (by omega) ?_)
  refine sp_pu (gp _) ?_
  simp only [push_cast, ↓branch_true, ↓branch_false, Nat.reduceBEq, Nat.reduceAdd, Nat.reduceMul, Nat.reduceSub, Int.reduceToNat, reduceCtorEq, Int.reduceAdd, Int.reduceEq, Int.reduceLE, Int.reduceLT, Nat.reduceLT, Nat.reduceLeDiff]
  refine ⟨[(2, .p 0 0 0), (3, .p 1 0 0), (4, .p 2 0 0), (5, .v (.int .i64 0)), (6, .v (.int .u64 g)), (7, .p 3 0 0), (8, .p 4 0 0)], [oF true an ad, oF true bn bd, oF false 0 0, oW X, oW Y], ?_, ?_⟩
  · simp only [push_cast, ↓branch_true, ↓branch_false, Nat.reduceBEq, Nat.reduceAdd, Nat.reduceMul, Nat.reduceSub, Int.reduceToNat, reduceCtorEq, Int.reduceAdd, Int.reduceEq, Int.reduceLE, Int.reduceLT, Nat.reduceLT, Nat.reduceLeDiff]
    repeat' (first
      | (with_reducible apply And.intro)
      | (with_reducible intro _)
      | omega
      | (refine sp_pu (sa _) ?_
         simp only [push_cast, ↓branch_true, ↓branch_false, Nat.reduceBEq, Nat.reduceAdd, Nat.reduceMul, Nat.reduceSub, Int.reduceToNat, reduceCtorEq, Int.reduceAdd, Int.reduceEq, Int.reduceLE, Int.reduceLT, Nat.reduceLT, Nat.reduceLeDiff]
         )
      | (refine sp_pu (sb _) ?_
         simp only [push_cast, ↓branch_true, ↓branch_false, Nat.reduceBEq, Nat.reduceAdd, Nat.reduceMul, Nat.reduceSub, Int.reduceToNat, reduceCtorEq, Int.reduceAdd, Int.reduceEq, Int.reduceLE, Int.reduceLT, Nat.reduceLT, Nat.reduceLeDiff]
         )
      | (refine sp_pu (p1 _) ?_
         simp only [push_cast, ↓branch_true, ↓branch_false, Nat.reduceBEq, Nat.reduceAdd, Nat.reduceMul, Nat.reduceSub, Int.reduceToNat, reduceCtorEq, Int.reduceAdd, Int.reduceEq, Int.reduceLE, Int.reduceLT, Nat.reduceLT, Nat.reduceLeDiff]
         )
      | (refine sp_pu (p2 _) ?_
         simp only [push_cast, ↓branch_true, ↓branch_false, Nat.reduceBEq, Nat.reduceAdd, Nat.reduceMul, Nat.reduceSub, Int.reduceToNat, reduceCtorEq, Int.reduceAdd, Int.reduceEq, Int.reduceLE, Int.reduceLT, Nat.reduceLT, Nat.reduceLeDiff]
         ))
    all_goals first
      | (refine Mt.wk (rl := [0, 1, 2, 3, 4]) ⟨by kernel_rfl, ?_, ?_⟩
         · simp only [push_cast, ↓branch_true, ↓branch_false, Nat.reduceBEq, Nat.reduceAdd, Nat.reduceMul, Nat.reduceSub, Int.reduceToNat, reduceCtorEq, Int.reduceAdd, Int.reduceEq, Int.reduceLE, Int.reduceLT, Nat.reduceLT, Nat.reduceLeDiff]
           try trivial
         · simp only [push_cast, ↓branch_true, ↓branch_false, Nat.reduceBEq, Nat.reduceAdd, Nat.reduceMul, Nat.reduceSub, Int.reduceToNat, reduceCtorEq, Int.reduceAdd, Int.reduceEq, Int.reduceLE, Int.reduceLT, Nat.reduceLT, Nat.reduceLeDiff]
         )
      | (refine Mt.wk (rl := [0, 1, 2, 4, 3]) ⟨by kernel_rfl, ?_, ?_⟩
         · simp only [push_cast, ↓branch_true, ↓branch_false, Nat.reduceBEq, Nat.reduceAdd, Nat.reduceMul, Nat.reduceSub, Int.reduceToNat, reduceCtorEq, Int.reduceAdd, Int.reduceEq, Int.reduceLE, Int.reduceLT, Nat.reduceLT, Nat.reduceLeDiff]
           try trivial
         · simp only [push_cast, ↓branch_true, ↓branch_false, Nat.reduceBEq, Nat.reduceAdd, Nat.reduceMul, Nat.reduceSub, Int.reduceToNat, reduceCtorEq, Int.reduceAdd, Int.reduceEq, Int.reduceLE, Int.reduceLT, Nat.reduceLT, Nat.reduceLeDiff]
         )
  · simp only [push_cast, ↓branch_true, ↓branch_false, Nat.reduceBEq, Nat.reduceAdd, Nat.reduceMul, Nat.reduceSub, Int.reduceToNat, reduceCtorEq, Int.reduceAdd, Int.reduceEq, Int.reduceLE, Int.reduceLT, Nat.reduceLT, Nat.reduceLeDiff, jnK]
    simp only [branch]
    refine ⟨fun h1 => ?pl, fun h1 => ?rs⟩
    case' pl =>
      obtain ⟨c1, hneg⟩ := hplus h1
      refine sp_pu (c1 _) ?_
      simp only [push_cast, ↓branch_true, ↓branch_false, Nat.reduceBEq, Nat.reduceAdd, Nat.reduceMul, Nat.reduceSub, Int.reduceToNat, reduceCtorEq, Int.reduceAdd, Int.reduceEq, Int.reduceLE, Int.reduceLT, Nat.reduceLT, Nat.reduceLeDiff]
    case' rs =>
      refine sp_pu (hless _) ?_
      simp only [push_cast, ↓branch_true, ↓branch_false, Nat.reduceBEq, Nat.reduceAdd, Nat.reduceMul, Nat.reduceSub, Int.reduceToNat, reduceCtorEq, Int.reduceAdd, Int.reduceEq, Int.reduceLE, Int.reduceLT, Nat.reduceLT, Nat.reduceLeDiff]
      refine ⟨fun h2 => ?le, fun h2 => ?ge⟩
    case' le =>
      obtain ⟨c1, hneg⟩ := hm1 h1 (by omega)
      have hneg : 0 < t → tneg = !decide (an < 0) := fun _ => hneg
      refine sp_pu (c1 _) ?_
      simp only [push_cast, ↓branch_true, ↓branch_false, Nat.reduceBEq, Nat.reduceAdd, Nat.reduceMul, Nat.reduceSub, Int.reduceToNat, reduceCtorEq, Int.reduceAdd, Int.reduceEq, Int.reduceLE, Int.reduceLT, Nat.reduceLT, Nat.reduceLeDiff]
    case' ge =>
      obtain ⟨c1, hneg⟩ := hm2 h1 (by omega)
      refine sp_pu (c1 _) ?_
      simp only [push_cast, ↓branch_true, ↓branch_false, Nat.reduceBEq, Nat.reduceAdd, Nat.reduceMul, Nat.reduceSub, Int.reduceToNat, reduceCtorEq, Int.reduceAdd, Int.reduceEq, Int.reduceLE, Int.reduceLT, Nat.reduceLT, Nat.reduceLeDiff]
    all_goals
      refine ⟨agg96 _ _ _ _, ?_⟩
      simp only [branch]
      refine ⟨fun h2 => ?_, fun h2 => ?_⟩
      · simp only [Bool.and_eq_true, beq_iff_eq] at h2
        obtain ⟨e1, e2, e3⟩ := h0 (ht.2 ⟨by omega, by omega⟩)
        rw [e1, e2, e3]
      · have htp : 0 < t := by
          refine Nat.pos_of_ne_zero fun h => ?_
          obtain ⟨e1, e2⟩ := ht.1 h
          rw [e1, e2] at h2
          cases h2
        have hneg := hneg htp
        refine sp_pu (ov1 _) ?_
        simp only [push_cast, ↓branch_true, ↓branch_false, Nat.reduceBEq, Nat.reduceAdd, Nat.reduceMul, Nat.reduceSub, Int.reduceToNat, reduceCtorEq, Int.reduceAdd, Int.reduceEq, Int.reduceLE, Int.reduceLT, Nat.reduceLT, Nat.reduceLeDiff]
        refine sp_pu (gc _) ?_
        simp only [push_cast, ↓branch_true, ↓branch_false, Nat.reduceBEq, Nat.reduceAdd, Nat.reduceMul, Nat.reduceSub, Int.reduceToNat, reduceCtorEq, Int.reduceAdd, Int.reduceEq, Int.reduceLE, Int.reduceLT, Nat.reduceLT, Nat.reduceLeDiff]
        refine sp_pu (ov2 _) ?_
        simp only [push_cast, ↓branch_true, ↓branch_false, Nat.reduceBEq, Nat.reduceAdd, Nat.reduceMul, Nat.reduceSub, Int.reduceToNat, reduceCtorEq, Int.reduceAdd, Int.reduceEq, Int.reduceLE, Int.reduceLT, Nat.reduceLT, Nat.reduceLeDiff]
        rw [← hneg]
        refine ⟨[(2, .p 0 0 0), (3, .p 1 0 0), (4, .p 2 0 0), (5, .v (.int .i64 0)), (9, .v (.bool tneg)), (10, .p 5 0 0), (14, .p 7 0 0)], [oF true an ad, oF true bn bd, oF false 0 0, oW X, oW Y, oW M, oW (t / g), oW E], ?_, ?_⟩
        · simp only [push_cast, ↓branch_true, ↓branch_false, Nat.reduceBEq, Nat.reduceAdd, Nat.reduceMul, Nat.reduceSub, Int.reduceToNat, reduceCtorEq, Int.reduceAdd, Int.reduceEq, Int.reduceLE, Int.reduceLT, Nat.reduceLT, Nat.reduceLeDiff]
          repeat' (first
            | (with_reducible apply And.intro)
            | (with_reducible intro _)
            | omega
            | (refine sp_pu (p3 _) ?_
               simp only [push_cast, ↓branch_true, ↓branch_false, Nat.reduceBEq, Nat.reduceAdd, Nat.reduceMul, Nat.reduceSub, Int.reduceToNat, reduceCtorEq, Int.reduceAdd, Int.reduceEq, Int.reduceLE, Int.reduceLT, Nat.reduceLT, Nat.reduceLeDiff]
               ))
          all_goals
            refine Mt.wk (rl := [0, 1, 2, 3, 4, 5, 6, 7]) ⟨by kernel_rfl, ?_, ?_⟩
            · simp only [push_cast, ↓branch_true, ↓branch_false, Nat.reduceBEq, Nat.reduceAdd, Nat.reduceMul, Nat.reduceSub, Int.reduceToNat, reduceCtorEq, Int.reduceAdd, Int.reduceEq, Int.reduceLE, Int.reduceLT, Nat.reduceLT, Nat.reduceLeDiff]
              try trivial
            · simp only [push_cast, ↓branch_true, ↓branch_false, Nat.reduceBEq, Nat.reduceAdd, Nat.reduceMul, Nat.reduceSub, Int.reduceToNat, reduceCtorEq, Int.reduceAdd, Int.reduceEq, Int.reduceLE, Int.reduceLT, Nat.reduceLT, Nat.reduceLeDiff]
        · simp only [push_cast, ↓branch_true, ↓branch_false, Nat.reduceBEq, Nat.reduceAdd, Nat.reduceMul, Nat.reduceSub, Int.reduceToNat, reduceCtorEq, Int.reduceAdd, Int.reduceEq, Int.reduceLE, Int.reduceLT, Nat.reduceLT, Nat.reduceLeDiff, jnK]
          refine ⟨fun h3 => ?_, fun h3 => ⟨fun h4 => ?_, fun h4 => ?_⟩⟩
          · obtain ⟨e1, e2, e3⟩ := hbig htp (by omega)
            rw [e1, e2, e3]
          · obtain ⟨e1, e2, e3⟩ := hbig htp (by omega)
            rw [e1, e2, e3]
          · obtain ⟨e1, e2, e3⟩ := hok htp (by omega) (by omega)
            refine sp_pu (hs _) ?_
            simp only [push_cast, ↓branch_true, ↓branch_false, Nat.reduceBEq, Nat.reduceAdd, Nat.reduceMul, Nat.reduceSub, Int.reduceToNat, reduceCtorEq, Int.reduceAdd, Int.reduceEq, Int.reduceLE, Int.reduceLT, Nat.reduceLT, Nat.reduceLeDiff]
            rw [e1, e2, e3]
end Go.Proofs.Ytmefgachdnlaoaa
