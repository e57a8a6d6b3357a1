/- Contracts of the reference: sign, Valid, All, Sum, Feasible. -/
import Derived.Test.YtmefgachdnlaoaaRD
import Derived.Test.YtmefgachdnlaoaaTB
import Derived.Test.YtmefgachdnlaoaaTE
set_option maxRecDepth 100000
set_option linter.unusedSimpArgs false
set_option linter.unusedVariables false
namespace Go.Proofs.Ytmefgachdnlaoaa
open Go.RowKit Lp
theorem frc_zero : Frc 0 1 := frc_one (by decide)
def sgS (n : Int) : Int := if n < 0 then -1 else if n = 0 then 0 else 1
theorem sign_pu {n : Int} {d : Nat} (h : Frc n d) : Pu Try.prog 60 [frV n d] [] (.v (.int .i64 (sgS n))) := by
  have hc := rcmp_pu h frc_zero
  rw [show ((1 : Nat) : Int) = 1 from rfl, Int.mul_one, Int.zero_mul] at hc
  have ho := rof_pu 0
  have hc' := (fun H => pu_a hc rfl H)
  have ho' := (fun H => pu_a ho rfl H)
  have he : cmpS n 0 = sgS n := rfl
  rw [he] at hc'
  refine pu_of_ex true [(1, .alt [(0, .one 1 (.one 2 (.one 3 .fin))), (1, .one 0 (.one 2 (.one 3 .fin)))])] mixed Try.call60 Try.func60 rfl Try.ntmps60 Try.results60 (by decide +kernel) rfl rfl rfl ?_
  simp only [push_cast, ↓branch_true, ↓branch_false, Nat.reduceBEq, Nat.reduceAdd, Nat.reduceMul, Nat.reduceSub, Int.reduceToNat, reduceCtorEq, Int.reduceAdd, Int.reduceEq, Int.reduceLE, Int.reduceLT, Nat.reduceLT, Nat.reduceLeDiff]
  repeat' (first
    | (with_reducible apply And.intro)
    | (refine sp_pu (ho' _) ?_
       simp only [push_cast, ↓branch_true, ↓branch_false, Nat.reduceBEq, Nat.reduceAdd, Nat.reduceMul, Nat.reduceSub, Int.reduceToNat, reduceCtorEq, Int.reduceAdd, Int.reduceEq, Int.reduceLE, Int.reduceLT, Nat.reduceLT, Nat.reduceLeDiff]
       )
    | (refine sp_pu (hc' _) ?_
       simp only [push_cast, ↓branch_true, ↓branch_false, Nat.reduceBEq, Nat.reduceAdd, Nat.reduceMul, Nat.reduceSub, Int.reduceToNat, reduceCtorEq, Int.reduceAdd, Int.reduceEq, Int.reduceLE, Int.reduceLT, Nat.reduceLT, Nat.reduceLeDiff]
       ))
theorem w_one (x : Nat) : ((hN x : Int) == 0 && (lN x : Int) == 1) = (x == 1) := by
  have h := hl x
  rw [Bool.eq_iff_iff]
  simp only [Bool.and_eq_true, beq_iff_eq]
  unfold hN lN
  omega
theorem w_small {x : Nat} (h : x < 18446744073709551616) : hN x = 0 ∧ lN x = x := by
  unfold hN lN
  omega
set_option maxHeartbeats 8000000 in
theorem rfvalid_pu (n d : Int) (hn : -9223372036854775808 ≤ n ∧ n ≤ 9223372036854775807) (hd : -9223372036854775808 ≤ d ∧ d ≤ 9223372036854775807) : Pu Try.prog 17 [frV n d] [] (.v (.bool (vF n d))) := by
  have sa := rsize_pu n (by omega)
  have hno : ¬ (1 ≤ d ∧ d ≤ 1152921504606846976 ∧ -1152921504606846976 ≤ n ∧ n ≤ 1152921504606846976) → SV.v (.bool false) = SV.v (.bool (vF n d)) := fun h => by
    unfold vF
    refine vb ?_
    symm
    rw [← Bool.not_eq_true]
    intro hh
    simp only [Bool.and_eq_true, decide_eq_true_eq] at hh
    exact h ⟨hh.1, hh.2.1, hh.2.2.1, hh.2.2.2.1⟩
  refine pu_of_ex true [] mixed Try.call17 Try.func17 rfl Try.ntmps17 Try.results17 (by decide +kernel) rfl rfl rfl ?_
  simp only [push_cast, ↓branch_true, ↓branch_false, Nat.reduceBEq, Nat.reduceAdd, Nat.reduceMul, Nat.reduceSub, Int.reduceToNat, reduceCtorEq, Int.reduceAdd, Int.reduceEq, Int.reduceLE, Int.reduceLT, Nat.reduceLT, Nat.reduceLeDiff]
  refine ⟨fun c1 => hno (by omega), fun c1 => ⟨fun c2 => hno (by omega), fun c2 => ⟨fun c3 => hno (by omega), fun c3 => ⟨fun c4 => hno (by omega), fun c4 => ?_⟩⟩⟩⟩
  clear hno
  obtain ⟨D, rfl⟩ : ∃ D : Nat, d = D := ⟨d.toNat, by omega⟩
  have sb := rsize_pu (D : Int) (by omega)
  rw [Int.natAbs_natCast] at sb
  have hg := rgcd_pu n.natAbs D (by omega) (by omega) (by omega)
  have e1 := w_small (x := n.natAbs) (by omega)
  have e2 := w_small (x := D) (by omega)
  unfold wV at hg
  rw [e1.1, e1.2, e2.1, e2.2, show ((0 : Nat) : Int) = 0 from rfl] at hg
  have hv := vF_nat n D (Nat.gcd n.natAbs D) rfl
  rw [decide_eq_true (show (1 : Int) ≤ D by omega), decide_eq_true (show (D : Int) ≤ 1152921504606846976 by omega), decide_eq_true (show -1152921504606846976 ≤ n by omega), decide_eq_true (show n ≤ 1152921504606846976 by omega), Bool.true_and, Bool.true_and, Bool.true_and, Bool.true_and] at hv
  rw [hv]
  clear hv e1 e2
  generalize Nat.gcd n.natAbs D = g at *
  refine qc_c (sa) rfl [] ?_
  simp only [push_cast, ↓branch_true, ↓branch_false, Nat.reduceBEq, Nat.reduceAdd, Nat.reduceMul, Nat.reduceSub, Int.reduceToNat, reduceCtorEq, Int.reduceAdd, Int.reduceEq, Int.reduceLE, Int.reduceLT, Nat.reduceLT, Nat.reduceLeDiff]
  refine qc_c (sb) rfl [] ?_
  simp only [push_cast, ↓branch_true, ↓branch_false, Nat.reduceBEq, Nat.reduceAdd, Nat.reduceMul, Nat.reduceSub, Int.reduceToNat, reduceCtorEq, Int.reduceAdd, Int.reduceEq, Int.reduceLE, Int.reduceLT, Nat.reduceLT, Nat.reduceLeDiff]
  refine qc_c (hg) rfl [] ?_
  simp only [push_cast, ↓branch_true, ↓branch_false, Nat.reduceBEq, Nat.reduceAdd, Nat.reduceMul, Nat.reduceSub, Int.reduceToNat, reduceCtorEq, Int.reduceAdd, Int.reduceEq, Int.reduceLE, Int.reduceLT, Nat.reduceLT, Nat.reduceLeDiff]
  exact ⟨agg83 _ _ _ _, by rw [w_one g]⟩
set_option maxHeartbeats 8000000 in
theorem rall_pu (n cap : Nat) (N D : Nat → Int) (hn : n ≤ 1000000) (hb : ∀ k, k < n → (-9223372036854775808 ≤ N k ∧ N k ≤ 9223372036854775807) ∧ -9223372036854775808 ≤ D k ∧ D k ≤ 9223372036854775807) : Pu Try.prog 18 [.s 0 0 0 n cap 2] [rFi n cap N D] (.v (.bool (rgt n N D))) := by
  refine pu_of_ex true [] mixed Try.call18 Try.func18 rfl Try.ntmps18 Try.results18 (by decide +kernel) rfl rfl rfl ?_
  simp only [push_cast, ↓branch_true, ↓branch_false, Nat.reduceBEq, Nat.reduceAdd, Nat.reduceMul, Nat.reduceSub, Int.reduceToNat, reduceCtorEq, Int.reduceAdd, Int.reduceEq, Int.reduceLE, Int.reduceLT, Nat.reduceLT, Nat.reduceLeDiff]
  refine tr_loop0 mixed (by kernel_rfl) (fun (k : Nat) => [(3, .v (.int .i64 k)), (0, .s 0 0 0 n cap 2)]) (fun k => k ≤ n ∧ ∀ j, j < k → vF (N j) (D j) = true) (fun k => n - k) 0 ⟨Nat.zero_le _, fun j hj => absurd hj (Nat.not_lt_zero _)⟩ ?_ ?_
  · simp only [push_cast, ↓branch_true, ↓branch_false, Nat.reduceBEq, Nat.reduceAdd, Nat.reduceMul, Nat.reduceSub, Int.reduceToNat, reduceCtorEq, Int.reduceAdd, Int.reduceEq, Int.reduceLE, Int.reduceLT, Nat.reduceLT, Nat.reduceLeDiff]
    try trivial
  rintro k ⟨g1, g2⟩
  simp only [push_cast, ↓branch_true, ↓branch_false, Nat.reduceBEq, Nat.reduceAdd, Nat.reduceMul, Nat.reduceSub, Int.reduceToNat, reduceCtorEq, Int.reduceAdd, Int.reduceEq, Int.reduceLE, Int.reduceLT, Nat.reduceLT, Nat.reduceLeDiff]
  refine ⟨fun h4 => ?_, fun h4 => ?_⟩
  · have hkn : k < n := by omega
    have hv := rfvalid_pu (N k) (D k) (hb k hkn).1 (hb k hkn).2
    repeat (with_reducible refine And.intro (by omega) ?_)
    refine sp_c hv rfl [] ?_
    cases hvk : vF (N k) (D k) with
    | false =>
      simp only [push_cast, ↓branch_true, ↓branch_false, Nat.reduceBEq, Nat.reduceAdd, Nat.reduceMul, Nat.reduceSub, Int.reduceToNat, reduceCtorEq, Int.reduceAdd, Int.reduceEq, Int.reduceLE, Int.reduceLT, Nat.reduceLT, Nat.reduceLeDiff]
      refine vb ?_
      symm
      unfold rgt
      rw [decide_eq_false_iff_not]
      exact fun h => by rw [h k hkn] at hvk; cases hvk
    | true =>
      simp only [push_cast, ↓branch_true, ↓branch_false, Nat.reduceBEq, Nat.reduceAdd, Nat.reduceMul, Nat.reduceSub, Int.reduceToNat, reduceCtorEq, Int.reduceAdd, Int.reduceEq, Int.reduceLE, Int.reduceLT, Nat.reduceLT, Nat.reduceLeDiff]
      repeat (with_reducible refine And.intro (by omega) ?_)
      refine lp0_normal (k + 1) ⟨by omega, fun j hj => ?_⟩ (by omega) ?_
      · by_cases e : j = k
        · rw [e]; exact hvk
        · exact g2 j (by omega)
      · simp only [push_cast, ↓branch_true, ↓branch_false, Nat.reduceBEq, Nat.reduceAdd, Nat.reduceMul, Nat.reduceSub, Int.reduceToNat, reduceCtorEq, Int.reduceAdd, Int.reduceEq, Int.reduceLE, Int.reduceLT, Nat.reduceLT, Nat.reduceLeDiff]
        try trivial
  · obtain rfl : k = n := by omega
    refine vb ?_
    symm
    unfold rgt
    exact decide_eq_true g2
/-- What the reference's sum returns. -/
def sumN (s : Option (Int × Nat)) : Int := match s with | some s => s.1 | none => 0
def sumD (s : Option (Int × Nat)) : Int := match s with | some s => (s.2 : Nat) | none => 0
def sumE (s : Option (Int × Nat)) : Int := match s with | some _ => 0 | none => 5
def sumV (s : Option (Int × Nat)) : SV := .t [frV (sumN s) (sumD s), .v (.int .i64 (sumE s))]
attribute [push_cast] sumV
@[push_cast] theorem sumN_some (n : Int) (d : Nat) : sumN (some (n, d)) = n := rfl
@[push_cast] theorem sumD_some (n : Int) (d : Nat) : sumD (some (n, d)) = (d : Nat) := rfl
@[push_cast] theorem sumE_some (s : Int × Nat) : sumE (some s) = 0 := rfl
@[push_cast] theorem sumN_none : sumN none = 0 := rfl
@[push_cast] theorem sumD_none : sumD none = 0 := rfl
@[push_cast] theorem sumE_none : sumE none = 5 := rfl
set_option maxHeartbeats 8000000 in
theorem rsum_pu (M i : Nat) (ln cp : Nat → Nat) (a : Nat → Nat → Int) (m cap : Nat) (N : Nat → Int) (D : Nat → Nat) (hi : i < M) (hl : ln i ≤ m) (hm : m ≤ 1000000) (ha : ∀ k, k < ln i → (a i k).natAbs ≤ 1152921504606846976) (hf : ∀ k, k < m → Frc (N k) (D k)) :
    Pu Try.prog 35 [.s 0 i 0 (ln i) (cp i) 1, .s 1 0 0 m cap 2] [rFm M ln cp a, rFx m cap N D] (sumV (ofS (a i) N D (ln i))) := by
  have ho := rof_pu 0
  refine pu_of_ex true [(5, .pre [0, 1] [0, 1, 2, 3, 5, 6, 7, 8] (.alt [(4, .alt [(9, .one 10 (.one 11 (.one 12 (.one 13 (.one 14 (.one 15 .fin)))))), (13, .one 9 (.one 10 (.one 11 (.one 12 (.one 14 (.one 15 .fin))))))]), (13, .one 4 (.one 9 (.one 10 (.one 11 (.one 12 (.one 14 (.one 15 .fin)))))))]))] mixed Try.call35 Try.func35 rfl Try.ntmps35 Try.results35 (by decide +kernel) rfl rfl rfl ?_
  simp only [push_cast, ↓branch_true, ↓branch_false, Nat.reduceBEq, Nat.reduceAdd, Nat.reduceMul, Nat.reduceSub, Int.reduceToNat, reduceCtorEq, Int.reduceAdd, Int.reduceEq, Int.reduceLE, Int.reduceLT, Nat.reduceLT, Nat.reduceLeDiff]
  refine sp_c ho rfl [] ?_
  simp only [push_cast, ↓branch_true, ↓branch_false, Nat.reduceBEq, Nat.reduceAdd, Nat.reduceMul, Nat.reduceSub, Int.reduceToNat, reduceCtorEq, Int.reduceAdd, Int.reduceEq, Int.reduceLE, Int.reduceLT, Nat.reduceLT, Nat.reduceLeDiff]
  refine tr_loop mixed (by kernel_rfl) (fun (x : Nat × Int × Nat) => [(7, .v (.int .i64 x.1)), (0, .s 0 i 0 (ln i) (cp i) 1), (1, .s 1 0 0 m cap 2), (4, .p 2 0 0), (6, .p 3 0 0)])
    (fun x => [rFm M ln cp a, rFx m cap N D, oF false 0 0, oF false x.2.1 (x.2.2 : Nat)]) (fun x => x.1 ≤ ln i ∧ ofS (a i) N D x.1 = some x.2 ∧ Frc x.2.1 x.2.2) (fun x => ln i - x.1) (0, 0, 1) ⟨Nat.zero_le _, rfl, frc_one (by decide)⟩ (Mt.wk (rl := [0, 1, 2, 3]) ⟨by kernel_rfl, ?_, ?_⟩) ?_
  · simp only [push_cast, ↓branch_true, ↓branch_false, Nat.reduceBEq, Nat.reduceAdd, Nat.reduceMul, Nat.reduceSub, Int.reduceToNat, reduceCtorEq, Int.reduceAdd, Int.reduceEq, Int.reduceLE, Int.reduceLT, Nat.reduceLT, Nat.reduceLeDiff]
    try trivial
  · simp only [push_cast, ↓branch_true, ↓branch_false, Nat.reduceBEq, Nat.reduceAdd, Nat.reduceMul, Nat.reduceSub, Int.reduceToNat, reduceCtorEq, Int.reduceAdd, Int.reduceEq, Int.reduceLE, Int.reduceLT, Nat.reduceLT, Nat.reduceLeDiff]
  rintro ⟨k, sn, sd⟩ ⟨h1, h2, h3⟩
  simp only at h1 h2 h3
  simp only [push_cast, ↓branch_true, ↓branch_false, Nat.reduceBEq, Nat.reduceAdd, Nat.reduceMul, Nat.reduceSub, Int.reduceToNat, reduceCtorEq, Int.reduceAdd, Int.reduceEq, Int.reduceLE, Int.reduceLT, Nat.reduceLT, Nat.reduceLeDiff]
  refine ⟨fun h4 => ?_, fun h4 => ?_⟩
  · have hk : k < ln i := by omega
    have hfk := hf k (by omega)
    have hmu := rtimes_pu (frc_one (ha k hk)) hfk
    rw [Nat.one_mul, show ((1 : Nat) : Int) = 1 from rfl] at hmu
    have hof := rof_pu (a i k)
    have hof' := (fun H => pu_a hof rfl H)
    have hst : ofS (a i) N D (k + 1) = if OkQ (a i k * N k) (D k) ∧ OkQ (sn * (rd (a i k * N k) (D k) : Nat) + rn (a i k * N k) (D k) * (sd : Nat)) (sd * rd (a i k * N k) (D k)) then
      some (rn (sn * (rd (a i k * N k) (D k) : Nat) + rn (a i k * N k) (D k) * (sd : Nat)) (sd * rd (a i k * N k) (D k)), rd (sn * (rd (a i k * N k) (D k) : Nat) + rn (a i k * N k) (D k) * (sd : Nat)) (sd * rd (a i k * N k) (D k))) else none := by
        rw [ofS, h2]; rfl
    by_cases c1 : OkQ (a i k * N k) (D k)
    · rw [rsQ_ok hfk.d0 c1] at hmu
      have hfm := frc_of hfk.d0 c1
      have had := radd_pu h3 hfm
      generalize rn (a i k * N k) (D k) = mn at *
      generalize rd (a i k * N k) (D k) = md at *
      have hd0 : 0 < sd * md := Nat.mul_pos h3.d0 hfm.d0
      have hmu' := (fun H => pu_a hmu rfl H)
      by_cases c2 : OkQ (sn * (md : Nat) + mn * (sd : Nat)) (sd * md)
      · rw [rsQ_ok hd0 c2] at had
        rw [if_pos ⟨c1, c2⟩] at hst
        have hfs := frc_of hd0 c2
        generalize rn (sn * (md : Nat) + mn * (sd : Nat)) (sd * md) = tn at *
        generalize rd (sn * (md : Nat) + mn * (sd : Nat)) (sd * md) = td at *
        have had' := (fun H => pu_a had rfl H)
        repeat' (first
          | (with_reducible apply And.intro)
          | omega
          | (refine sp_pu (hof' _) ?_
             simp only [push_cast, ↓branch_true, ↓branch_false, Nat.reduceBEq, Nat.reduceAdd, Nat.reduceMul, Nat.reduceSub, Int.reduceToNat, reduceCtorEq, Int.reduceAdd, Int.reduceEq, Int.reduceLE, Int.reduceLT, Nat.reduceLT, Nat.reduceLeDiff]
             )
          | (refine sp_pu (hmu' _) ?_
             simp only [push_cast, ↓branch_true, ↓branch_false, Nat.reduceBEq, Nat.reduceAdd, Nat.reduceMul, Nat.reduceSub, Int.reduceToNat, reduceCtorEq, Int.reduceAdd, Int.reduceEq, Int.reduceLE, Int.reduceLT, Nat.reduceLT, Nat.reduceLeDiff]
             )
          | (refine sp_pu (had' _) ?_
             simp only [push_cast, ↓branch_true, ↓branch_false, Nat.reduceBEq, Nat.reduceAdd, Nat.reduceMul, Nat.reduceSub, Int.reduceToNat, reduceCtorEq, Int.reduceAdd, Int.reduceEq, Int.reduceLE, Int.reduceLT, Nat.reduceLT, Nat.reduceLeDiff]
             )
          | (refine lpK_normal (k + 1, tn, td) [0, 1, 2, 3] ⟨by simp only; omega, hst, hfs⟩ (by simp only; omega) (by kernel_rfl) ?_ ?_
             · simp only [push_cast, ↓branch_true, ↓branch_false, Nat.reduceBEq, Nat.reduceAdd, Nat.reduceMul, Nat.reduceSub, Int.reduceToNat, reduceCtorEq, Int.reduceAdd, Int.reduceEq, Int.reduceLE, Int.reduceLT, Nat.reduceLT, Nat.reduceLeDiff]
               try trivial
             · simp only [push_cast, ↓branch_true, ↓branch_false, Nat.reduceBEq, Nat.reduceAdd, Nat.reduceMul, Nat.reduceSub, Int.reduceToNat, reduceCtorEq, Int.reduceAdd, Int.reduceEq, Int.reduceLE, Int.reduceLT, Nat.reduceLT, Nat.reduceLeDiff]
             ))
      · rw [rsQ_no c2] at had
        rw [if_neg (fun h => c2 h.2)] at hst
        have hno := ofS_none hst (show k + 1 ≤ ln i by omega)
        have had' := (fun H => pu_a had rfl H)
        rw [hno]
        repeat' (first
          | (with_reducible apply And.intro)
          | omega
          | (refine sp_pu (hof' _) ?_
             simp only [push_cast, ↓branch_true, ↓branch_false, Nat.reduceBEq, Nat.reduceAdd, Nat.reduceMul, Nat.reduceSub, Int.reduceToNat, reduceCtorEq, Int.reduceAdd, Int.reduceEq, Int.reduceLE, Int.reduceLT, Nat.reduceLT, Nat.reduceLeDiff]
             )
          | (refine sp_pu (hmu' _) ?_
             simp only [push_cast, ↓branch_true, ↓branch_false, Nat.reduceBEq, Nat.reduceAdd, Nat.reduceMul, Nat.reduceSub, Int.reduceToNat, reduceCtorEq, Int.reduceAdd, Int.reduceEq, Int.reduceLE, Int.reduceLT, Nat.reduceLT, Nat.reduceLeDiff]
             )
          | (refine sp_pu (had' _) ?_
             simp only [push_cast, ↓branch_true, ↓branch_false, Nat.reduceBEq, Nat.reduceAdd, Nat.reduceMul, Nat.reduceSub, Int.reduceToNat, reduceCtorEq, Int.reduceAdd, Int.reduceEq, Int.reduceLE, Int.reduceLT, Nat.reduceLT, Nat.reduceLeDiff]
             ))
        all_goals rfl
    · rw [rsQ_no c1] at hmu
      rw [if_neg (fun h => c1 h.1)] at hst
      have hno := ofS_none hst (show k + 1 ≤ ln i by omega)
      have hmu' := (fun H => pu_a hmu rfl H)
      rw [hno]
      repeat' (first
        | (with_reducible apply And.intro)
        | omega
        | (refine sp_pu (hof' _) ?_
           simp only [push_cast, ↓branch_true, ↓branch_false, Nat.reduceBEq, Nat.reduceAdd, Nat.reduceMul, Nat.reduceSub, Int.reduceToNat, reduceCtorEq, Int.reduceAdd, Int.reduceEq, Int.reduceLE, Int.reduceLT, Nat.reduceLT, Nat.reduceLeDiff]
           )
        | (refine sp_pu (hmu' _) ?_
           simp only [push_cast, ↓branch_true, ↓branch_false, Nat.reduceBEq, Nat.reduceAdd, Nat.reduceMul, Nat.reduceSub, Int.reduceToNat, reduceCtorEq, Int.reduceAdd, Int.reduceEq, Int.reduceLE, Int.reduceLT, Nat.reduceLT, Nat.reduceLeDiff]
           ))
      all_goals rfl
  · obtain rfl : k = ln i := by omega
    rw [h2]
    rfl
theorem cmp_of {s b : Int} {d : Nat} (hd : 0 < d) : (0 < cmpS (s * 1) (b * (d : Nat)) ↔ b * (d : Nat) < s) ∧ (cmpS (s * 1) (b * (d : Nat)) < 0 ↔ s < b * (d : Nat)) := by
  unfold cmpS
  rw [Int.mul_one]
  split
  · omega
  · split <;> omega
theorem nnB_succ (k : Nat) (N : Nat → Int) : nnB (k + 1) N = (nnB k N && decide (0 ≤ N k)) := by
  unfold nnB
  rw [Bool.eq_iff_iff]
  simp only [decide_eq_true_eq, Bool.and_eq_true]
  constructor
  · exact fun h => ⟨fun j hj => h j (by omega), h k (by omega)⟩
  · intro ⟨h1, h2⟩ j hj
    by_cases e : j = k
    · rw [e]; exact h2
    · exact h1 j (by omega)
theorem ofS_frc {f N : Nat → Int} {D : Nat → Nat} : ∀ {n : Nat} {s : Int × Nat}, (∀ k, k < n → 0 < D k) → ofS f N D n = some s → Frc s.1 s.2
  | 0, s, _, h => by
    cases h
    exact frc_one (by decide)
  | n + 1, s, hd, h => by
    rw [ofS] at h
    cases e : ofS f N D n with
    | none => rw [e] at h; cases h
    | some s0 =>
      rw [e] at h
      have h0 := ofS_frc (fun k hk => hd k (by omega)) e
      simp only [Option.bind_some] at h
      split at h
      · next hc =>
        cases h
        have hm := frc_of (hd n (by omega)) hc.1
        exact frc_of (Nat.mul_pos h0.d0 hm.d0) hc.2
      · cases h
/-- The first t rows hold. -/
def okT (p : Pm) (N : Nat → Int) (D : Nat → Nat) (t : Nat) : Bool := decide (∀ j, j < t → okO (rOk p j) (rowS p N D j) = true)
theorem okT_succ (p : Pm) (N : Nat → Int) (D : Nat → Nat) (t : Nat) : okT p N D (t + 1) = (okT p N D t && okO (rOk p t) (rowS p N D t)) := by
  unfold okT
  rw [Bool.eq_iff_iff]
  simp only [decide_eq_true_eq, Bool.and_eq_true]
  constructor
  · exact fun h => ⟨fun j hj => h j (by omega), h t (by omega)⟩
  · intro ⟨h1, h2⟩ j hj
    by_cases e : j = t
    · rw [e]; exact h2
    · exact h1 j (by omega)
set_option maxHeartbeats 16000000 in
theorem rfea_pu (p : Pm) (hp : PmOk p) (cap : Nat) (N : Nat → Int) (D : Nat → Nat) (hf : ∀ k, k < p.n → Frc (N k) (D k)) :
    Pu Try.prog 34 [svP p, .s 3 0 0 p.n cap 2] (obP p ++ [rFx p.n cap N D]) (.t [.v (.bool (decide (∀ t, t < p.m → rowS p N D t ≠ none) && feaB p N D)), .v (.int .i64 (errQ (decide (∀ t, t < p.m → rowS p N D t ≠ none))))]) := by
  have hn := hp.n
  have hm := hp.m
  have hfz := p.fzm
  have hof : ∀ t, Pu Try.prog 84 [.v (.int .i64 (p.b t))] [] (frV (p.b t) 1) := fun t => rof_pu _
  refine pu_of_ex true [(12, .pre [1, 4] [1, 2, 3, 4, 5, 6] (.alt [(0, .one 7 (.one 8 (.one 9 .fin))), (7, .one 0 (.one 8 (.one 9 .fin)))]))] mixed Try.call34 Try.func34 rfl Try.ntmps34 Try.results34 (by decide +kernel) rfl rfl rfl ?_
  simp only [push_cast, ↓branch_true, ↓branch_false, Nat.reduceBEq, Nat.reduceAdd, Nat.reduceMul, Nat.reduceSub, Int.reduceToNat, reduceCtorEq, Int.reduceAdd, Int.reduceEq, Int.reduceLE, Int.reduceLT, Nat.reduceLT, Nat.reduceLeDiff]
  refine tr_loop0 mixed (by kernel_rfl) (fun (k : Nat) => [(7, .v (.int .i64 k)), (6, .v (.bool (nnB k N))), (1, .s 3 0 0 p.n cap 2), (2, .p 4 0 0)]) (fun k => k ≤ p.n) (fun k => p.n - k) 0 (Nat.zero_le _) ?_ ?_
  · simp only [push_cast, ↓branch_true, ↓branch_false, Nat.reduceBEq, Nat.reduceAdd, Nat.reduceMul, Nat.reduceSub, Int.reduceToNat, reduceCtorEq, Int.reduceAdd, Int.reduceEq, Int.reduceLE, Int.reduceLT, Nat.reduceLT, Nat.reduceLeDiff]
    try exact vb (decide_eq_true fun k hk => absurd hk (Nat.not_lt_zero _))
  intro k hk
  have hnn : nnB (k + 1) N = (nnB k N && decide (0 ≤ N k)) := nnB_succ k N
  simp only [push_cast, ↓branch_true, ↓branch_false, Nat.reduceBEq, Nat.reduceAdd, Nat.reduceMul, Nat.reduceSub, Int.reduceToNat, reduceCtorEq, Int.reduceAdd, Int.reduceEq, Int.reduceLE, Int.reduceLT, Nat.reduceLT, Nat.reduceLeDiff]
  refine ⟨fun h1 => ?_, fun h1 => ?_⟩
  · have hkn : k < p.n := by omega
    cases hb : nnB k N with
    | true =>
      have hsg := sign_pu (hf k hkn)
      rw [hb, Bool.true_and] at hnn
      simp only [push_cast, ↓branch_true, ↓branch_false, Nat.reduceBEq, Nat.reduceAdd, Nat.reduceMul, Nat.reduceSub, Int.reduceToNat, reduceCtorEq, Int.reduceAdd, Int.reduceEq, Int.reduceLE, Int.reduceLT, Nat.reduceLT, Nat.reduceLeDiff]
      repeat (with_reducible refine And.intro (by omega) ?_)
      refine sp_c hsg rfl [] ?_
      simp only [push_cast, ↓branch_true, ↓branch_false, Nat.reduceBEq, Nat.reduceAdd, Nat.reduceMul, Nat.reduceSub, Int.reduceToNat, reduceCtorEq, Int.reduceAdd, Int.reduceEq, Int.reduceLE, Int.reduceLT, Nat.reduceLT, Nat.reduceLeDiff]
      repeat (with_reducible refine And.intro (by omega) ?_)
      refine lp0_normal (k + 1) (by omega) (by omega) ?_
      simp only [push_cast, ↓branch_true, ↓branch_false, Nat.reduceBEq, Nat.reduceAdd, Nat.reduceMul, Nat.reduceSub, Int.reduceToNat, reduceCtorEq, Int.reduceAdd, Int.reduceEq, Int.reduceLE, Int.reduceLT, Nat.reduceLT, Nat.reduceLeDiff]
      rw [hnn]
      try exact vb (by unfold sgS; rw [decide_eq_decide]; split <;> (try split) <;> omega)
    | false =>
      rw [hb, Bool.false_and] at hnn
      simp only [push_cast, ↓branch_true, ↓branch_false, Nat.reduceBEq, Nat.reduceAdd, Nat.reduceMul, Nat.reduceSub, Int.reduceToNat, reduceCtorEq, Int.reduceAdd, Int.reduceEq, Int.reduceLE, Int.reduceLT, Nat.reduceLT, Nat.reduceLeDiff]
      repeat (with_reducible refine And.intro (by omega) ?_)
      refine lp0_normal (k + 1) (by omega) (by omega) ?_
      simp only [push_cast, ↓branch_true, ↓branch_false, Nat.reduceBEq, Nat.reduceAdd, Nat.reduceMul, Nat.reduceSub, Int.reduceToNat, reduceCtorEq, Int.reduceAdd, Int.reduceEq, Int.reduceLE, Int.reduceLT, Nat.reduceLT, Nat.reduceLeDiff]
      rw [hnn]
      try trivial
  obtain rfl : k = p.n := by omega
  clear hnn
  refine tr_loop mixed (by kernel_rfl) (fun (t : Nat) => [(8, .v (.int .i64 t)), (6, .v (.bool (nnB p.n N && okT p N D t))), (1, .s 3 0 0 p.n cap 2), (2, .p 4 0 0)]) (fun _ => obP p ++ [rFx p.n cap N D, rBx p]) (fun t => t ≤ p.m ∧ ∀ j, j < t → rowS p N D j ≠ none) (fun t => p.m - t) 0 ⟨Nat.zero_le _, fun j hj => absurd hj (Nat.not_lt_zero _)⟩ (Mt.wk (rl := [0, 1, 2, 3, 4]) ⟨by kernel_rfl, ?_, ?_⟩) ?_
  · simp only [push_cast, ↓branch_true, ↓branch_false, Nat.reduceBEq, Nat.reduceAdd, Nat.reduceMul, Nat.reduceSub, Int.reduceToNat, reduceCtorEq, Int.reduceAdd, Int.reduceEq, Int.reduceLE, Int.reduceLT, Nat.reduceLT, Nat.reduceLeDiff]
    refine congrArg Value.bool ?_
    rw [show okT p N D 0 = true from decide_eq_true fun j hj => absurd hj (Nat.not_lt_zero _), Bool.and_true]
  · simp only [push_cast, ↓branch_true, ↓branch_false, Nat.reduceBEq, Nat.reduceAdd, Nat.reduceMul, Nat.reduceSub, Int.reduceToNat, reduceCtorEq, Int.reduceAdd, Int.reduceEq, Int.reduceLE, Int.reduceLT, Nat.reduceLT, Nat.reduceLeDiff]
    try trivial
  rintro t ⟨g1, g2⟩
  simp only [push_cast, ↓branch_true, ↓branch_false, Nat.reduceBEq, Nat.reduceAdd, Nat.reduceMul, Nat.reduceSub, Int.reduceToNat, reduceCtorEq, Int.reduceAdd, Int.reduceEq, Int.reduceLE, Int.reduceLT, Nat.reduceLT, Nat.reduceLeDiff]
  refine ⟨fun h1 => ?_, fun h1 => ?_⟩
  · have htm : t < p.m := by omega
    have hln := hp.ln t htm
    have hs := rsum_pu p.fz t p.ln p.cp p.a p.n cap N D (by omega) (by omega) (by omega) (fun k hk => by have := hp.a t k htm (by omega); omega) hf
    rw [hln] at hs
    have hrow : ofS (p.a t) N D p.n = rowS p N D t := rfl
    rw [hrow] at hs
    simp only [push_cast, ↓branch_true, ↓branch_false, Nat.reduceBEq, Nat.reduceAdd, Nat.reduceMul, Nat.reduceSub, Int.reduceToNat, reduceCtorEq, Int.reduceAdd, Int.reduceEq, Int.reduceLE, Int.reduceLT, Nat.reduceLT, Nat.reduceLeDiff, hln]
    repeat (with_reducible refine And.intro (by omega) ?_)
    refine sp_c hs rfl [2, 3] ?_
    cases hr : rowS p N D t with
    | none =>
      have hA : decide (∀ t, t < p.m → rowS p N D t ≠ none) = false := decide_eq_false fun h => h t htm hr
      rw [hA]
      simp only [push_cast, ↓branch_true, ↓branch_false, Nat.reduceBEq, Nat.reduceAdd, Nat.reduceMul, Nat.reduceSub, Int.reduceToNat, reduceCtorEq, Int.reduceAdd, Int.reduceEq, Int.reduceLE, Int.reduceLT, Nat.reduceLT, Nat.reduceLeDiff]
      rfl
    | some s =>
      obtain ⟨fn, fd⟩ := s
      have hfr : Frc fn fd := ofS_frc (fun k hk => (hf k hk).d0) (hrow.trans hr)
      have hcm := rcmp_pu hfr (frc_one (n := p.b t) (by have := hp.b t htm; omega))
      rw [show ((1 : Nat) : Int) = 1 from rfl, Int.mul_one] at hcm
      have hrk := rOk_cmp p t (fn, fd) _ rfl
      change rOk p t (fn, fd) = ((decide (p.kd t ≠ 1) || decide (cmpS fn (p.b t * (fd : Nat)) ≤ 0)) && ((decide (p.kd t ≠ 2) || decide (0 ≤ cmpS fn (p.b t * (fd : Nat)))) && (decide (p.kd t ≠ 3) || decide (cmpS fn (p.b t * (fd : Nat)) = 0)))) at hrk
      have hnx : okT p N D (t + 1) = (okT p N D t && rOk p t (fn, fd)) := by rw [okT_succ, hr]; rfl
      generalize cmpS fn (p.b t * (fd : Nat)) = c at *
      generalize rOk p t (fn, fd) = R at *
      generalize hnb : (nnB p.n N && okT p N D t) = ok at *
      have hnx : (nnB p.n N && okT p N D (t + 1)) = (ok && R) := by rw [hnx, ← hnb, Bool.and_assoc]
      have hkd := hp.kd t htm
      have hnext : ∀ j, j < t + 1 → rowS p N D j ≠ none := fun j hj => by
        by_cases e : j = t
        · rw [e, hr]; exact fun h => by cases h
        · exact g2 j (by omega)
      have hof' := (fun H => pu_a (hof t) rfl H)
      have hcm' := (fun H => pu_a hcm rfl H)
      simp only [push_cast, ↓branch_true, ↓branch_false, Nat.reduceBEq, Nat.reduceAdd, Nat.reduceMul, Nat.reduceSub, Int.reduceToNat, reduceCtorEq, Int.reduceAdd, Int.reduceEq, Int.reduceLE, Int.reduceLT, Nat.reduceLT, Nat.reduceLeDiff]
      repeat' (first
        | (with_reducible apply And.intro)
        | omega
        | (refine sp_pu (hof' _) ?_
           simp only [push_cast, ↓branch_true, ↓branch_false, Nat.reduceBEq, Nat.reduceAdd, Nat.reduceMul, Nat.reduceSub, Int.reduceToNat, reduceCtorEq, Int.reduceAdd, Int.reduceEq, Int.reduceLE, Int.reduceLT, Nat.reduceLT, Nat.reduceLeDiff]
           )
        | (refine sp_pu (hcm' _) ?_
           simp only [push_cast, ↓branch_true, ↓branch_false, Nat.reduceBEq, Nat.reduceAdd, Nat.reduceMul, Nat.reduceSub, Int.reduceToNat, reduceCtorEq, Int.reduceAdd, Int.reduceEq, Int.reduceLE, Int.reduceLT, Nat.reduceLT, Nat.reduceLeDiff]
           ))
      all_goals
        repeat' (first
          | (with_reducible apply And.intro)
          | (with_reducible intro _)
          | omega)
      all_goals
        refine lpK_normal (t + 1) [0, 1, 2, 3, 4] ⟨by omega, hnext⟩ (by omega) (by kernel_rfl) ?_ ?_
        · simp only [push_cast, ↓branch_true, ↓branch_false, Nat.reduceBEq, Nat.reduceAdd, Nat.reduceMul, Nat.reduceSub, Int.reduceToNat, reduceCtorEq, Int.reduceAdd, Int.reduceEq, Int.reduceLE, Int.reduceLT, Nat.reduceLT, Nat.reduceLeDiff]
          first
            | (have hR : R = true := by
                 rw [hrk]
                 simp only [Bool.and_eq_true, Bool.or_eq_true, decide_eq_true_eq]
                 omega
               rw [hnx, hR, Bool.and_true])
            | (have hR : R = false := by
                 rw [hrk, ← Bool.not_eq_true]
                 simp only [Bool.and_eq_true, Bool.or_eq_true, decide_eq_true_eq]
                 omega
               rw [hnx, hR, Bool.and_false])
        · simp only [push_cast, ↓branch_true, ↓branch_false, Nat.reduceBEq, Nat.reduceAdd, Nat.reduceMul, Nat.reduceSub, Int.reduceToNat, reduceCtorEq, Int.reduceAdd, Int.reduceEq, Int.reduceLE, Int.reduceLT, Nat.reduceLT, Nat.reduceLeDiff]
  · obtain rfl : t = p.m := by omega
    have hA : decide (∀ t, t < p.m → rowS p N D t ≠ none) = true := decide_eq_true g2
    rw [hA]
    rfl
end Go.Proofs.Ytmefgachdnlaoaa
