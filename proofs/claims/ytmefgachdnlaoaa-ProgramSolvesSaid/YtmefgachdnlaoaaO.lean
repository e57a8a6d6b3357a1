/- Contracts of package ratio: Mul, Add, Cmp. -/
import Derived.Test.YtmefgachdnlaoaaN
set_option maxRecDepth 100000
set_option linter.unusedSimpArgs false
set_option linter.unusedVariables false
namespace Go.Proofs.Ytmefgachdnlaoaa
open Go.RowKit Lp
/-- A valid fraction. -/
structure Frc (n : Int) (d : Nat) : Prop where
  d0 : 0 < d
  d1 : d ≤ 1152921504606846976
  n1 : n.natAbs ≤ 1152921504606846976
  cop : Nat.gcd n.natAbs d = 1
theorem Frc.vF {n : Int} {d : Nat} (h : Frc n d) : vF n (d : Int) = true := by
  have h1 := h.d0
  have h2 := h.d1
  have h3 := h.n1
  rw [vF_nat n d 1 h.cop]
  simp
  omega
theorem fr_of {n d : Int} (h : vF n d = true) : ∃ D : Nat, d = D ∧ Frc n D := by
  unfold vF at h
  simp only [Bool.and_eq_true, decide_eq_true_eq, beq_iff_eq] at h
  obtain ⟨h1, h2, h3, h4, h5⟩ := h
  exact ⟨d.toNat, by omega, by omega, by omega, by omega, h5⟩
/-- What a sum or product returns. -/
def rsQ (N : Int) (D : Nat) : SV := sgR (decide (N < 0)) (rn N D).natAbs (rd N D)
theorem sgR_big {neg : Bool} {n d : Nat} (h : ¬ (n ≤ 1152921504606846976 ∧ d ≤ 1152921504606846976)) : sgR neg n d = .t [frV 0 0, .v (.int .i64 5)] := by
  unfold sgR sgN sgD sgE
  rw [if_neg h, if_neg h, if_neg h]
theorem pu_any {P : Program} {f : FuncId} {args : List SV} {r : SV} {v : Value} (h : Pu P f args [] r) (hg : gnd r = some v) (ha : mtL [] args args) : ∀ H, Pu P f args H r := fun H => pu_at h hg [] rfl ha (by (simp only [push_cast, ↓branch_true, ↓branch_false, Nat.reduceBEq, Nat.reduceAdd, Nat.reduceMul, Nat.reduceSub, Int.reduceToNat, reduceCtorEq, Int.reduceAdd, Int.reduceEq, Int.reduceLE, Int.reduceLT, Nat.reduceLT, Nat.reduceLeDiff]))
theorem pu_a {P : Program} {f : FuncId} {args : List SV} {r : SV} {v : Value} (h : Pu P f args [] r) (hg : gnd r = some v) (H : List Ob) (ha : mtL [] args args := by (simp only [push_cast, ↓branch_true, ↓branch_false, Nat.reduceBEq, Nat.reduceAdd, Nat.reduceMul, Nat.reduceSub, Int.reduceToNat, reduceCtorEq, Int.reduceAdd, Int.reduceEq, Int.reduceLE, Int.reduceLT, Nat.reduceLT, Nat.reduceLeDiff])) : Pu P f args H r := pu_any h hg ha H
theorem td {a b : Nat} : ((a : Nat) : Int).tdiv (b : Int) = ((a / b : Nat) : Int) := (Int.ofNat_tdiv _ _).symm
set_option maxHeartbeats 8000000 in
theorem mul_pu {an bn : Int} {ad bd : Nat} (ha : Frc an ad) (hb : Frc bn bd) : Pu Try.prog 99 [frV an ad, frV bn bd] [] (rsQ (an * bn) (ad * bd)) := by
  have a0 := ha.d0
  have a1 := ha.d1
  have a2 := ha.n1
  have b0 := hb.d0
  have b1 := hb.d1
  have b2 := hb.n1
  have va := fvalid_pu an ad (by omega) (by omega)
  have vb := fvalid_pu bn bd (by omega) (by omega)
  rw [ha.vF] at va
  rw [hb.vF] at vb
  have sa := size_pu an (by omega)
  have sb := size_pu bn (by omega)
  have ga := gcd_pu an.natAbs bd (by omega) (by omega)
  have gb := gcd_pu bn.natAbs ad (by omega) (by omega)
  have q1 := Nat.div_le_self an.natAbs (Nat.gcd an.natAbs bd)
  have q2 := Nat.div_le_self bn.natAbs (Nat.gcd bn.natAbs ad)
  have q3 := Nat.div_le_self ad (Nat.gcd bn.natAbs ad)
  have q4 := Nat.div_le_self bd (Nat.gcd an.natAbs bd)
  have p1 := product_pu (an.natAbs / Nat.gcd an.natAbs bd) (bn.natAbs / Nat.gcd bn.natAbs ad) (by omega) (by omega)
  have p2 := product_pu (ad / Nat.gcd bn.natAbs ad) (bd / Nat.gcd an.natAbs bd) (by omega) (by omega)
  obtain ⟨e1, e2⟩ := mul_red a0 b0 ha.cop hb.cop
  have g1 : 0 < Nat.gcd an.natAbs bd := Nat.gcd_pos_of_pos_right _ b0
  have g2 : 0 < Nat.gcd bn.natAbs ad := Nat.gcd_pos_of_pos_right _ a0
  have g3 : Nat.gcd an.natAbs bd ≤ bd := Nat.gcd_le_right _ b0
  have g4 : Nat.gcd bn.natAbs ad ≤ ad := Nat.gcd_le_right _ a0
  have hneg : (decide (an * bn < 0)) = (decide (0 < (rn (an * bn) (ad * bd)).natAbs) && (decide (an < 0) != decide (bn < 0))) := by
    have h1 := neg_mul_iff an bn
    have h2 := rn_mul (an * bn) (ad * bd)
    have h3 : an * bn = 0 ↔ (rn (an * bn) (ad * bd)).natAbs = 0 := by
      constructor
      · intro h
        rw [rn_abs, h]
        exact Nat.zero_div _
      · intro h
        have : rn (an * bn) (ad * bd) = 0 := by omega
        rw [this, Int.zero_mul] at h2
        exact h2.symm
    generalize rn (an * bn) (ad * bd) = z at *
    rw [Bool.eq_iff_iff]
    simp only [decide_eq_true_eq, h1, Bool.and_eq_true, bne_iff_ne, ne_eq, decide_eq_decide, h3]
    constructor
    · exact fun ⟨h4, h5⟩ => ⟨by omega, fun h => h4 (propext h)⟩
    · exact fun ⟨h4, h5⟩ => ⟨fun h => h5 (iff_of_eq h), by omega⟩
  rw [e1] at p1
  rw [e2] at p2
  unfold rsQ
  rw [hneg]
  clear hneg e1 e2
  generalize hM : (rn (an * bn) (ad * bd)).natAbs = M at *
  generalize rd (an * bn) (ad * bd) = E at *
  clear hM
  have t1 := @td an.natAbs (Nat.gcd an.natAbs bd)
  have t2 := @td bn.natAbs (Nat.gcd bn.natAbs ad)
  have t3 := @td ad (Nat.gcd bn.natAbs ad)
  have t4 := @td bd (Nat.gcd an.natAbs bd)
  generalize an.natAbs / Nat.gcd an.natAbs bd = x1 at *
  generalize bn.natAbs / Nat.gcd bn.natAbs ad = x2 at *
  generalize ad / Nat.gcd bn.natAbs ad = x3 at *
  generalize bd / Nat.gcd an.natAbs bd = x4 at *
  generalize Nat.gcd an.natAbs bd = g at *
  generalize Nat.gcd bn.natAbs ad = h at *
  have hM := hl M
  have hE := hl E
  have lM := lN_lt M
  have lE := lN_lt E
  have hs := signed_pu (decide (0 < lN M) && (decide (an < 0) != decide (bn < 0))) (lN M) (lN E) lM lE
  have heq : hN M = 0 → hN E = 0 → sgR (decide (0 < M) && (decide (an < 0) != decide (bn < 0))) M E = sgR (decide (0 < lN M) && (decide (an < 0) != decide (bn < 0))) (lN M) (lN E) := fun h1 h2 => by
    rw [show lN M = M by omega, show lN E = E by omega]
  have hbig : ¬ (hN M = 0 ∧ hN E = 0) → sgR (decide (0 < M) && (decide (an < 0) != decide (bn < 0))) M E = .t [frV 0 0, .v (.int .i64 5)] := fun h1 => sgR_big (by omega)
  obtain ⟨rn0, rd0, re0, hR⟩ : ∃ n d e : Int, sgR (decide (0 < M) && (decide (an < 0) != decide (bn < 0))) M E = .t [frV n d, .v (.int .i64 e)] := ⟨_, _, _, rfl⟩
  rw [hR] at heq hbig ⊢
  clear hR
  simp only [push_cast] at heq hbig
  have sa' := (fun H => pu_a sa rfl H)
  have sb' := (fun H => pu_a sb rfl H)
  have p1' := (fun H => pu_a p1 rfl H)
  have p2' := (fun H => pu_a p2 rfl H)
  refine pu_of_ex true [(3, .pre [0, 1] [0, 1, 3, 4, 5, 7, 8, 10, 11, 12] (.one 2 (.one 6 (.one 9 (.one 13 (.one 14 (.one 15 .fin))))))), (4, .jn (.pre [0, 1] [0, 1, 3, 5, 6, 8, 11, 12, 13, 14, 15, 16, 17, 18, 19, 20] (.alt [(2, .one 4 (.alt [(7, .one 9 (.alt [(10, .alt [(21, .alt [(22, .one 23 (.one 24 (.one 25 .fin))), (23, .one 22 (.one 24 (.one 25 .fin)))]), (22, .alt [(21, .one 23 (.one 24 (.one 25 .fin))), (23, .one 21 (.one 24 (.one 25 .fin)))]), (23, .alt [(21, .one 22 (.one 24 (.one 25 .fin))), (22, .one 21 (.one 24 (.one 25 .fin)))])]), (22, .alt [(10, .alt [(21, .one 23 (.one 24 (.one 25 .fin))), (23, .one 21 (.one 24 (.one 25 .fin)))]), (23, .one 10 (.one 21 (.one 24 (.one 25 .fin))))]), (23, .alt [(10, .alt [(21, .one 22 (.one 24 (.one 25 .fin))), (22, .one 21 (.one 24 (.one 25 .fin)))]), (22, .one 10 (.one 21 (.one 24 (.one 25 .fin))))])])), (22, .alt [(7, .one 9 (.alt [(10, .alt [(21, .one 23 (.one 24 (.one 25 .fin))), (23, .one 21 (.one 24 (.one 25 .fin)))]), (23, .one 10 (.one 21 (.one 24 (.one 25 .fin))))])), (23, .one 7 (.one 9 (.one 10 (.one 21 (.one 24 (.one 25 .fin))))))]), (23, .alt [(7, .one 9 (.alt [(10, .alt [(21, .one 22 (.one 24 (.one 25 .fin))), (22, .one 21 (.one 24 (.one 25 .fin)))]), (22, .one 10 (.one 21 (.one 24 (.one 25 .fin))))])), (22, .one 7 (.one 9 (.one 10 (.one 21 (.one 24 (.one 25 .fin))))))])])), (22, .alt [(2, .one 4 (.alt [(7, .one 9 (.alt [(10, .alt [(21, .one 23 (.one 24 (.one 25 .fin))), (23, .one 21 (.one 24 (.one 25 .fin)))]), (23, .one 10 (.one 21 (.one 24 (.one 25 .fin))))])), (23, .one 7 (.one 9 (.one 10 (.one 21 (.one 24 (.one 25 .fin))))))])), (23, .one 2 (.one 4 (.one 7 (.one 9 (.one 10 (.one 21 (.one 24 (.one 25 .fin))))))))]), (23, .alt [(2, .one 4 (.alt [(7, .one 9 (.alt [(10, .alt [(21, .one 22 (.one 24 (.one 25 .fin))), (22, .one 21 (.one 24 (.one 25 .fin)))]), (22, .one 10 (.one 21 (.one 24 (.one 25 .fin))))])), (22, .one 7 (.one 9 (.one 10 (.one 21 (.one 24 (.one 25 .fin))))))])), (22, .one 2 (.one 4 (.one 7 (.one 9 (.one 10 (.one 21 (.one 24 (.one 25 .fin))))))))])])))] mixed Try.call99 Try.func99 rfl Try.ntmps99 Try.results99 (by decide +kernel) rfl rfl rfl ?_
  simp only [push_cast, ↓branch_true, ↓branch_false, Nat.reduceBEq, Nat.reduceAdd, Nat.reduceMul, Nat.reduceSub, Int.reduceToNat, reduceCtorEq, Int.reduceAdd, Int.reduceEq, Int.reduceLE, Int.reduceLT, Nat.reduceLT, Nat.reduceLeDiff]
  refine sp_c va rfl [] ?_
  simp only [push_cast, ↓branch_true, ↓branch_false, Nat.reduceBEq, Nat.reduceAdd, Nat.reduceMul, Nat.reduceSub, Int.reduceToNat, reduceCtorEq, Int.reduceAdd, Int.reduceEq, Int.reduceLE, Int.reduceLT, Nat.reduceLT, Nat.reduceLeDiff]
  refine sp_c vb rfl [] ?_
  simp only [push_cast, ↓branch_true, ↓branch_false, Nat.reduceBEq, Nat.reduceAdd, Nat.reduceMul, Nat.reduceSub, Int.reduceToNat, reduceCtorEq, Int.reduceAdd, Int.reduceEq, Int.reduceLE, Int.reduceLT, Nat.reduceLT, Nat.reduceLeDiff]
  repeat (with_reducible refine And.intro (by omega) ?_)
  refine sp_c sa rfl [] ?_
  simp only [push_cast, ↓branch_true, ↓branch_false, Nat.reduceBEq, Nat.reduceAdd, Nat.reduceMul, Nat.reduceSub, Int.reduceToNat, reduceCtorEq, Int.reduceAdd, Int.reduceEq, Int.reduceLE, Int.reduceLT, Nat.reduceLT, Nat.reduceLeDiff]
  refine sp_c ga rfl [] ?_
  simp only [push_cast, ↓branch_true, ↓branch_false, Nat.reduceBEq, Nat.reduceAdd, Nat.reduceMul, Nat.reduceSub, Int.reduceToNat, reduceCtorEq, Int.reduceAdd, Int.reduceEq, Int.reduceLE, Int.reduceLT, Nat.reduceLT, Nat.reduceLeDiff]
  refine sp_c sb rfl [] ?_
  simp only [push_cast, ↓branch_true, ↓branch_false, Nat.reduceBEq, Nat.reduceAdd, Nat.reduceMul, Nat.reduceSub, Int.reduceToNat, reduceCtorEq, Int.reduceAdd, Int.reduceEq, Int.reduceLE, Int.reduceLT, Nat.reduceLT, Nat.reduceLeDiff]
  refine sp_c gb rfl [] ?_
  simp only [push_cast, ↓branch_true, ↓branch_false, Nat.reduceBEq, Nat.reduceAdd, Nat.reduceMul, Nat.reduceSub, Int.reduceToNat, reduceCtorEq, Int.reduceAdd, Int.reduceEq, Int.reduceLE, Int.reduceLT, Nat.reduceLT, Nat.reduceLeDiff]
  refine ⟨[(2, .p 0 0 0), (3, .p 1 0 0), (4, .p 2 0 0), (5, .v (.int .i64 0)), (8, .p 3 0 0), (9, .p 4 0 0)], [⟨27, true, .st [.v (.int .i64 an), .v (.int .i64 ad)]⟩, ⟨27, true, .st [.v (.int .i64 bn), .v (.int .i64 bd)]⟩, ⟨27, false, .st [.v (.int .i64 0), .v (.int .i64 0)]⟩, ⟨96, false, .st [.v (.int .u64 (hN M : Nat)), .v (.int .u64 (lN M : Nat))]⟩, ⟨96, false, .st [.v (.int .u64 (hN E : Nat)), .v (.int .u64 (lN E : Nat))]⟩], ?_, ?_⟩
  · simp only [push_cast, ↓branch_true, ↓branch_false, Nat.reduceBEq, Nat.reduceAdd, Nat.reduceMul, Nat.reduceSub, Int.reduceToNat, reduceCtorEq, Int.reduceAdd, Int.reduceEq, Int.reduceLE, Int.reduceLT, Nat.reduceLT, Nat.reduceLeDiff, t1, t2, t3, t4]
    repeat' (first
      | (with_reducible apply And.intro)
      | (with_reducible intro _)
      | omega
      | (refine sp_pu (sa' _) ?_
         simp only [push_cast, ↓branch_true, ↓branch_false, Nat.reduceBEq, Nat.reduceAdd, Nat.reduceMul, Nat.reduceSub, Int.reduceToNat, reduceCtorEq, Int.reduceAdd, Int.reduceEq, Int.reduceLE, Int.reduceLT, Nat.reduceLT, Nat.reduceLeDiff, t1, t2, t3, t4]
         )
      | (refine sp_pu (sb' _) ?_
         simp only [push_cast, ↓branch_true, ↓branch_false, Nat.reduceBEq, Nat.reduceAdd, Nat.reduceMul, Nat.reduceSub, Int.reduceToNat, reduceCtorEq, Int.reduceAdd, Int.reduceEq, Int.reduceLE, Int.reduceLT, Nat.reduceLT, Nat.reduceLeDiff, t1, t2, t3, t4]
         )
      | (refine sp_pu (p1' _) ?_
         simp only [push_cast, ↓branch_true, ↓branch_false, Nat.reduceBEq, Nat.reduceAdd, Nat.reduceMul, Nat.reduceSub, Int.reduceToNat, reduceCtorEq, Int.reduceAdd, Int.reduceEq, Int.reduceLE, Int.reduceLT, Nat.reduceLT, Nat.reduceLeDiff, t1, t2, t3, t4]
         )
      | (refine sp_pu (p2' _) ?_
         simp only [push_cast, ↓branch_true, ↓branch_false, Nat.reduceBEq, Nat.reduceAdd, Nat.reduceMul, Nat.reduceSub, Int.reduceToNat, reduceCtorEq, Int.reduceAdd, Int.reduceEq, Int.reduceLE, Int.reduceLT, Nat.reduceLT, Nat.reduceLeDiff, t1, t2, t3, t4]
         ))
    all_goals first
      | (refine Mt.wk (rl := [0, 1, 2, 3, 4]) ⟨by kernel_rfl, ?_, ?_⟩
         · simp only [push_cast, ↓branch_true, ↓branch_false, Nat.reduceBEq, Nat.reduceAdd, Nat.reduceMul, Nat.reduceSub, Int.reduceToNat, reduceCtorEq, Int.reduceAdd, Int.reduceEq, Int.reduceLE, Int.reduceLT, Nat.reduceLT, Nat.reduceLeDiff]
           try trivial
         · simp only [push_cast, ↓branch_true, ↓branch_false, Nat.reduceBEq, Nat.reduceAdd, Nat.reduceMul, Nat.reduceSub, Int.reduceToNat, reduceCtorEq, Int.reduceAdd, Int.reduceEq, Int.reduceLE, Int.reduceLT, Nat.reduceLT, Nat.reduceLeDiff]
         )
      | (refine Mt.wk (rl := [0, 1, 2, 4, 3]) ⟨by kernel_rfl, ?_, ?_⟩
         · simp only [push_cast, ↓branch_true, ↓branch_false, Nat.reduceBEq, Nat.reduceAdd, Nat.reduceMul, Nat.reduceSub, Int.reduceToNat, reduceCtorEq, Int.reduceAdd, Int.reduceEq, Int.reduceLE, Int.reduceLT, Nat.reduceLT, Nat.reduceLeDiff]
           try trivial
         · simp only [push_cast, ↓branch_true, ↓branch_false, Nat.reduceBEq, Nat.reduceAdd, Nat.reduceMul, Nat.reduceSub, Int.reduceToNat, reduceCtorEq, Int.reduceAdd, Int.reduceEq, Int.reduceLE, Int.reduceLT, Nat.reduceLT, Nat.reduceLeDiff]
         )
  · simp only [push_cast, ↓branch_true, ↓branch_false, Nat.reduceBEq, Nat.reduceAdd, Nat.reduceMul, Nat.reduceSub, Int.reduceToNat, reduceCtorEq, Int.reduceAdd, Int.reduceEq, Int.reduceLE, Int.reduceLT, Nat.reduceLT, Nat.reduceLeDiff, jnK]
    refine ⟨fun h1 => ?_, fun h1 => ⟨fun h2 => ?_, fun h2 => ⟨fun h3 => ?_, fun h3 => ?_⟩⟩⟩
    · exact (hbig (by omega)).symm
    · exact (hbig (by omega)).symm
    · rw [decide_eq_true (show 0 < lN M by omega), Bool.true_and] at hs heq
      refine sp_c hs rfl [] ?_
      simp only [push_cast, ↓branch_true, ↓branch_false, Nat.reduceBEq, Nat.reduceAdd, Nat.reduceMul, Nat.reduceSub, Int.reduceToNat, reduceCtorEq, Int.reduceAdd, Int.reduceEq, Int.reduceLE, Int.reduceLT, Nat.reduceLT, Nat.reduceLeDiff]
      exact (heq (by omega) (by omega)).symm
    · rw [decide_eq_false (show ¬ 0 < lN M by omega), Bool.false_and] at hs heq
      refine sp_c hs rfl [] ?_
      simp only [push_cast, ↓branch_true, ↓branch_false, Nat.reduceBEq, Nat.reduceAdd, Nat.reduceMul, Nat.reduceSub, Int.reduceToNat, reduceCtorEq, Int.reduceAdd, Int.reduceEq, Int.reduceLE, Int.reduceLT, Nat.reduceLT, Nat.reduceLeDiff]
      exact (heq (by omega) (by omega)).symm
end Go.Proofs.Ytmefgachdnlaoaa
