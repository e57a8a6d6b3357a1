/- The law: the least value of the dual is the opposite. -/
import Derived.Test.YtmefgachdnlaoaaSC
import Derived.Test.YtmefgachdnlaoaaV
import Derived.Test.YtmefgachdnlaoaaUB
set_option maxRecDepth 100000
set_option linter.unusedSimpArgs false
set_option linter.unusedVariables false
namespace Go.Proofs.Ytmefgachdnlaoaa
open Go.RowKit Lp
/-- **Strong duality**, for two last tables. -/
theorem strong {p : Pm} {oc : Nat} {cps : Nat → Nat} {hb2 : p.n ≤ big + 2} {s s' : Tabl} (hp : PmOk p) (hL : Last p s) (hdp : PmOk (dualP p oc cps hb2)) (hL' : Last (dualP p oc cps hb2) s') :
    rn (valP p s) s.d.toNat * (rd (valP (dualP p oc cps hb2) s') s'.d.toNat : Nat) + rn (valP (dualP p oc cps hb2) s') s'.d.toNat * (rd (valP p s) s.d.toNat : Nat) = 0 := by
  have hd := last_pos hL
  have hd' := last_pos hL'
  have hY := last_dual hp hL
  have hX := last_prim hp hL
  have hV := last_pval hp hL
  obtain ⟨q1, q2⟩ := prim_of_dual (oc := oc) (cps := cps) (hb2 := hb2) hp hd hY.1
  obtain ⟨q3, q4⟩ := dual_dual (oc := oc) (cps := cps) (hb2 := hb2) hp hX
  rw [hY.2] at q2
  rw [hV] at q4
  have hv := val_uniq hdp hL' q1 hd q3 (v := -valP p s) (by rw [q2]) q4
  have v1 := r_val (valP p s) s.d.toNat
  have v2 := r_val (valP (dualP p oc cps hb2) s') s'.d.toNat
  rw [show ((s.d.toNat : Nat) : Int) = s.d by omega] at v1
  rw [show ((s'.d.toNat : Nat) : Int) = s'.d by omega] at v2
  generalize rn (valP p s) s.d.toNat = a at *
  generalize rd (valP p s) s.d.toNat = b at *
  generalize rn (valP (dualP p oc cps hb2) s') s'.d.toNat = a' at *
  generalize rd (valP (dualP p oc cps hb2) s') s'.d.toNat = b' at *
  generalize valP (dualP p oc cps hb2) s' = V' at *
  generalize valP p s = V at *
  generalize s.d = d at *
  generalize s'.d = d' at *
  have hne : d * d' ≠ 0 := by have := Int.mul_pos hd hd'; omega
  refine Int.eq_of_mul_eq_mul_right hne ?_
  rw [Int.zero_mul]
  have e : (a * (b' : Int) + a' * (b : Int)) * (d * d') = a * d * (b' : Int) * d' + a' * d' * (b : Int) * d := by grind
  rw [e, v1, v2]
  have e2 : V * (b : Int) * (b' : Int) * d' + V' * (b' : Int) * (b : Int) * d = (b : Int) * (b' : Int) * (V * d' + V' * d) := by grind
  rw [e2, hv]
  grind
theorem r_zero' {d : Nat} (hd : 0 < d) : rn 0 d = 0 ∧ rd 0 d = 1 := by
  have := r_same (N := 0) (D := d) (N' := 0) (D' := 1) hd (by decide) (by simp)
  rw [this.1, this.2]
  exact ⟨rfl, rfl⟩
theorem rsQ_zero {D : Nat} (hD : 0 < D) : rsQ 0 D = .t [frV 0 1, .v (.int .i64 0)] := by
  obtain ⟨h1, h2⟩ := r_zero' hD
  rw [rsQ_ok hD (by unfold OkQ; rw [h1, h2]; decide), h1, h2]
  rfl
set_option maxHeartbeats 16000000 in
theorem lstrong_sp (p : Pm) (hnc : p.n ≤ p.nc) (hmc : p.m ≤ p.mc) (hl : ∀ t, t < p.m → p.ln t ≤ 9223372036854775807) (hm : p.m ≤ 9223372036854775807) (hn : p.n ≤ 9223372036854775807) : Sp Try.prog 9 [svP p] (obP p) (isK (.v (.bool true))) := by
  have hfw := few_pu p hl hm hn
  have hin : vPm p = true → PmOk p := pmok_of hnc hmc
  refine sp_of_ex true [] mixed Try.call9 Try.func9 rfl Try.ntmps9 Try.results9 (by decide +kernel) rfl ?_
  simp only [push_cast, ↓branch_true, ↓branch_false, Nat.reduceBEq, Nat.reduceAdd, Nat.reduceMul, Nat.reduceSub, Int.reduceToNat, reduceCtorEq, branch_decide, branch_not, branch_beq, branch_bne, Int.reduceAdd, Int.reduceEq, Int.reduceLE, Int.reduceLT, Nat.reduceLT, Nat.reduceLeDiff, false_imp_iff, true_imp_iff]
  refine sp_at awake_sp [] rfl ?_ ?_ ?_
  · simp only [push_cast, ↓branch_true, ↓branch_false, Nat.reduceBEq, Nat.reduceAdd, Nat.reduceMul, Nat.reduceSub, Int.reduceToNat, reduceCtorEq, branch_decide, branch_not, branch_beq, branch_bne, Int.reduceAdd, Int.reduceEq, Int.reduceLE, Int.reduceLT, Nat.reduceLT, Nat.reduceLeDiff, false_imp_iff, true_imp_iff]
  · simp only [push_cast, ↓branch_true, ↓branch_false, Nat.reduceBEq, Nat.reduceAdd, Nat.reduceMul, Nat.reduceSub, Int.reduceToNat, reduceCtorEq, branch_decide, branch_not, branch_beq, branch_bne, Int.reduceAdd, Int.reduceEq, Int.reduceLE, Int.reduceLT, Nat.reduceLT, Nat.reduceLeDiff, false_imp_iff, true_imp_iff]
  rintro _ _ ⟨rfl, rfl⟩
  simp only [push_cast, ↓branch_true, ↓branch_false, Nat.reduceBEq, Nat.reduceAdd, Nat.reduceMul, Nat.reduceSub, Int.reduceToNat, reduceCtorEq, branch_decide, branch_not, branch_beq, branch_bne, Int.reduceAdd, Int.reduceEq, Int.reduceLE, Int.reduceLT, Nat.reduceLT, Nat.reduceLeDiff, false_imp_iff, true_imp_iff]
  refine sp_call hfw rfl [0, 1, 2] rfl (by (simp only [push_cast, ↓branch_true, ↓branch_false, Nat.reduceBEq, Nat.reduceAdd, Nat.reduceMul, Nat.reduceSub, Int.reduceToNat, reduceCtorEq, branch_decide, branch_not, branch_beq, branch_bne, Int.reduceAdd, Int.reduceEq, Int.reduceLE, Int.reduceLT, Nat.reduceLT, Nat.reduceLeDiff, false_imp_iff, true_imp_iff])) (by (simp only [push_cast, ↓branch_true, ↓branch_false, Nat.reduceBEq, Nat.reduceAdd, Nat.reduceMul, Nat.reduceSub, Int.reduceToNat, reduceCtorEq, branch_decide, branch_not, branch_beq, branch_bne, Int.reduceAdd, Int.reduceEq, Int.reduceLE, Int.reduceLT, Nat.reduceLT, Nat.reduceLeDiff, false_imp_iff, true_imp_iff])) ?_
  simp only [push_cast, ↓branch_true, ↓branch_false, Nat.reduceBEq, Nat.reduceAdd, Nat.reduceMul, Nat.reduceSub, Int.reduceToNat, reduceCtorEq, branch_decide, branch_not, branch_beq, branch_bne, Int.reduceAdd, Int.reduceEq, Int.reduceLE, Int.reduceLT, Nat.reduceLT, Nat.reduceLeDiff, false_imp_iff, true_imp_iff]
  cases hfe : fewB p with
  | false =>
    simp only [push_cast, ↓branch_true, ↓branch_false, Nat.reduceBEq, Nat.reduceAdd, Nat.reduceMul, Nat.reduceSub, Int.reduceToNat, reduceCtorEq, branch_decide, branch_not, branch_beq, branch_bne, Int.reduceAdd, Int.reduceEq, Int.reduceLE, Int.reduceLT, Nat.reduceLT, Nat.reduceLeDiff, false_imp_iff, true_imp_iff]
    try rfl
  | true =>
  unfold fewB at hfe
  rw [Bool.and_eq_true, Bool.and_eq_true, decide_eq_true_eq, decide_eq_true_eq, decide_eq_true_eq] at hfe
  obtain ⟨f1, f2, f3⟩ := hfe
  have hl6 : ∀ t, t < p.m → p.ln t ≤ 1000000 := fun t ht => by have := f3 t ht; omega
  simp only [push_cast, ↓branch_true, ↓branch_false, Nat.reduceBEq, Nat.reduceAdd, Nat.reduceMul, Nat.reduceSub, Int.reduceToNat, reduceCtorEq, branch_decide, branch_not, branch_beq, branch_bne, Int.reduceAdd, Int.reduceEq, Int.reduceLE, Int.reduceLT, Nat.reduceLT, Nat.reduceLeDiff, false_imp_iff, true_imp_iff]
  refine sp_at (dual_sp p hin hl6 (by omega) (by omega)) [0, 1, 2] (by kernel_rfl) ?_ ?_ ?_
  · simp only [push_cast, ↓branch_true, ↓branch_false, Nat.reduceBEq, Nat.reduceAdd, Nat.reduceMul, Nat.reduceSub, Int.reduceToNat, reduceCtorEq, branch_decide, branch_not, branch_beq, branch_bne, Int.reduceAdd, Int.reduceEq, Int.reduceLE, Int.reduceLT, Nat.reduceLT, Nat.reduceLeDiff, false_imp_iff, true_imp_iff]
  · simp only [push_cast, ↓branch_true, ↓branch_false, Nat.reduceBEq, Nat.reduceAdd, Nat.reduceMul, Nat.reduceSub, Int.reduceToNat, reduceCtorEq, branch_decide, branch_not, branch_beq, branch_bne, Int.reduceAdd, Int.reduceEq, Int.reduceLE, Int.reduceLT, Nat.reduceLT, Nat.reduceLeDiff, false_imp_iff, true_imp_iff]
  intro r2 H2 hD
  cases hD with
  | bad g h =>
    rcases h with ⟨_, rfl⟩ | ⟨_, _, rfl⟩ | ⟨_, _, _, rfl⟩ | ⟨_, _, _, _, rfl⟩
    all_goals
      simp only [push_cast, ↓branch_true, ↓branch_false, Nat.reduceBEq, Nat.reduceAdd, Nat.reduceMul, Nat.reduceSub, Int.reduceToNat, reduceCtorEq, branch_decide, branch_not, branch_beq, branch_bne, Int.reduceAdd, Int.reduceEq, Int.reduceLE, Int.reduceLT, Nat.reduceLT, Nat.reduceLeDiff, false_imp_iff, true_imp_iff]
      try rfl
  | ok oc cps hv hm0 hns hbg hoc hcp =>
  have hp := hin hv
  have hbig := big_eq
  have hb2 : p.n ≤ big + 2 := by omega
  have hdv := dual_v (oc := oc) (cps := cps) (hb2 := hb2) hp hm0 hns hbg
  have hdp : PmOk (dualP p oc cps hb2) := pmok_of hoc (Nat.le_refl _) hdv
  have hsd := solve_sp (dualP p oc cps hb2) (fun _ => hdp) (fun t _ => by show (bif decide (t < p.n) then dL p else 0) ≤ 1000000; cases decide (t < p.n) <;> simp only [cond_true, cond_false] <;> omega) (by show dL p ≤ 1000000; omega) (by show p.n ≤ 1000000; omega)
  simp only [push_cast, ↓branch_true, ↓branch_false, Nat.reduceBEq, Nat.reduceAdd, Nat.reduceMul, Nat.reduceSub, Int.reduceToNat, reduceCtorEq, branch_decide, branch_not, branch_beq, branch_bne, Int.reduceAdd, Int.reduceEq, Int.reduceLE, Int.reduceLT, Nat.reduceLT, Nat.reduceLeDiff, false_imp_iff, true_imp_iff]
  refine sp_at (solve_sp p hin hl6 (by omega) (by omega)) [0, 1, 2] (by kernel_rfl) ?_ ?_ ?_
  · simp only [push_cast, ↓branch_true, ↓branch_false, Nat.reduceBEq, Nat.reduceAdd, Nat.reduceMul, Nat.reduceSub, Int.reduceToNat, reduceCtorEq, branch_decide, branch_not, branch_beq, branch_bne, Int.reduceAdd, Int.reduceEq, Int.reduceLE, Int.reduceLT, Nat.reduceLT, Nat.reduceLeDiff, false_imp_iff, true_imp_iff]
  · simp only [push_cast, ↓branch_true, ↓branch_false, Nat.reduceBEq, Nat.reduceAdd, Nat.reduceMul, Nat.reduceSub, Int.reduceToNat, reduceCtorEq, branch_decide, branch_not, branch_beq, branch_bne, Int.reduceAdd, Int.reduceEq, Int.reduceLE, Int.reduceLT, Nat.reduceLT, Nat.reduceLeDiff, false_imp_iff, true_imp_iff]
  intro r3 H3 hS
  cases hS with
  | ok s cx cy _ hfi hL hx hy =>
    simp only [push_cast, ↓branch_true, ↓branch_false, Nat.reduceBEq, Nat.reduceAdd, Nat.reduceMul, Nat.reduceSub, Int.reduceToNat, reduceCtorEq, branch_decide, branch_not, branch_beq, branch_bne, Int.reduceAdd, Int.reduceEq, Int.reduceLE, Int.reduceLT, Nat.reduceLT, Nat.reduceLeDiff, false_imp_iff, true_imp_iff]
    refine sp_at hsd [4, 5, 6] (by kernel_rfl) ?_ ?_ ?_
    · simp only [push_cast, ↓branch_true, ↓branch_false, Nat.reduceBEq, Nat.reduceAdd, Nat.reduceMul, Nat.reduceSub, Int.reduceToNat, reduceCtorEq, branch_decide, branch_not, branch_beq, branch_bne, Int.reduceAdd, Int.reduceEq, Int.reduceLE, Int.reduceLT, Nat.reduceLT, Nat.reduceLeDiff, false_imp_iff, true_imp_iff]
    · simp only [push_cast, ↓branch_true, ↓branch_false, Nat.reduceBEq, Nat.reduceAdd, Nat.reduceMul, Nat.reduceSub, Int.reduceToNat, reduceCtorEq, branch_decide, branch_not, branch_beq, branch_bne, Int.reduceAdd, Int.reduceEq, Int.reduceLE, Int.reduceLT, Nat.reduceLT, Nat.reduceLeDiff, false_imp_iff, true_imp_iff]
      exact fun _ _ k hk => by rw [decide_eq_true hk]; rfl
    intro r4 H4 hS'
    cases hS' with
    | ok s' cx' cy' _ hfi' hL' _ _ =>
      have hst := strong hp hL hdp hL'
      have had := add_pu (last_frc hp (fit_of hfi) hL) (last_frc hdp (fit_of hfi') hL')
      rw [hst, rsQ_zero (Nat.mul_pos (last_frc hp (fit_of hfi) hL).d0 (last_frc hdp (fit_of hfi') hL').d0)] at had
      simp only [push_cast, ↓branch_true, ↓branch_false, Nat.reduceBEq, Nat.reduceAdd, Nat.reduceMul, Nat.reduceSub, Int.reduceToNat, reduceCtorEq, branch_decide, branch_not, branch_beq, branch_bne, Int.reduceAdd, Int.reduceEq, Int.reduceLE, Int.reduceLT, Nat.reduceLT, Nat.reduceLeDiff, false_imp_iff, true_imp_iff]
      refine sp_call had rfl [] rfl (by (simp only [push_cast, ↓branch_true, ↓branch_false, Nat.reduceBEq, Nat.reduceAdd, Nat.reduceMul, Nat.reduceSub, Int.reduceToNat, reduceCtorEq, branch_decide, branch_not, branch_beq, branch_bne, Int.reduceAdd, Int.reduceEq, Int.reduceLE, Int.reduceLT, Nat.reduceLT, Nat.reduceLeDiff, false_imp_iff, true_imp_iff])) (by (simp only [push_cast, ↓branch_true, ↓branch_false, Nat.reduceBEq, Nat.reduceAdd, Nat.reduceMul, Nat.reduceSub, Int.reduceToNat, reduceCtorEq, branch_decide, branch_not, branch_beq, branch_bne, Int.reduceAdd, Int.reduceEq, Int.reduceLE, Int.reduceLT, Nat.reduceLT, Nat.reduceLeDiff, false_imp_iff, true_imp_iff])) ?_
      simp only [push_cast, ↓branch_true, ↓branch_false, Nat.reduceBEq, Nat.reduceAdd, Nat.reduceMul, Nat.reduceSub, Int.reduceToNat, reduceCtorEq, branch_decide, branch_not, branch_beq, branch_bne, Int.reduceAdd, Int.reduceEq, Int.reduceLE, Int.reduceLT, Nat.reduceLT, Nat.reduceLeDiff, false_imp_iff, true_imp_iff]
      exact agg27 _ _ _ _
    | bad e h =>
      rcases h with ⟨h, _⟩ | ⟨_, _, rfl⟩ | ⟨_, _, ⟨_, Y, hG⟩ | ⟨_, _, W, hW⟩⟩
      · rw [hdv] at h; cases h
      · simp only [push_cast, ↓branch_true, ↓branch_false, Nat.reduceBEq, Nat.reduceAdd, Nat.reduceMul, Nat.reduceSub, Int.reduceToNat, reduceCtorEq, branch_decide, branch_not, branch_beq, branch_bne, Int.reduceAdd, Int.reduceEq, Int.reduceLE, Int.reduceLT, Nat.reduceLT, Nat.reduceLeDiff, false_imp_iff, true_imp_iff]
        try rfl
      · exact (farkas_no (prim_of_dual hp (last_pos hL) (last_dual hp hL).1).1 hG.1 hG.2).elim
      · exact (ray_no hW (last_pos hL) (dual_dual hp (last_prim hp hL)).1).elim
  | bad e h =>
    simp only [push_cast, ↓branch_true, ↓branch_false, Nat.reduceBEq, Nat.reduceAdd, Nat.reduceMul, Nat.reduceSub, Int.reduceToNat, reduceCtorEq, branch_decide, branch_not, branch_beq, branch_bne, Int.reduceAdd, Int.reduceEq, Int.reduceLE, Int.reduceLT, Nat.reduceLT, Nat.reduceLeDiff, false_imp_iff, true_imp_iff]
    refine sp_at hsd [4, 5, 6] (by kernel_rfl) ?_ ?_ ?_
    · simp only [push_cast, ↓branch_true, ↓branch_false, Nat.reduceBEq, Nat.reduceAdd, Nat.reduceMul, Nat.reduceSub, Int.reduceToNat, reduceCtorEq, branch_decide, branch_not, branch_beq, branch_bne, Int.reduceAdd, Int.reduceEq, Int.reduceLE, Int.reduceLT, Nat.reduceLT, Nat.reduceLeDiff, false_imp_iff, true_imp_iff]
    · simp only [push_cast, ↓branch_true, ↓branch_false, Nat.reduceBEq, Nat.reduceAdd, Nat.reduceMul, Nat.reduceSub, Int.reduceToNat, reduceCtorEq, branch_decide, branch_not, branch_beq, branch_bne, Int.reduceAdd, Int.reduceEq, Int.reduceLE, Int.reduceLT, Nat.reduceLT, Nat.reduceLeDiff, false_imp_iff, true_imp_iff]
      exact fun _ _ k hk => by rw [decide_eq_true hk]; rfl
    intro r4 H4 hS'
    rcases h with ⟨h, _⟩ | ⟨_, _, rfl⟩ | ⟨_, _, ⟨rfl, Y, hG⟩ | ⟨rfl, ⟨X, d, hX⟩, W, hW⟩⟩
    · rw [hv] at h; cases h
    · cases hS' with
      | ok s' cx' cy' _ hfi' hL' _ _ =>
        simp only [push_cast, ↓branch_true, ↓branch_false, Nat.reduceBEq, Nat.reduceAdd, Nat.reduceMul, Nat.reduceSub, Int.reduceToNat, reduceCtorEq, branch_decide, branch_not, branch_beq, branch_bne, Int.reduceAdd, Int.reduceEq, Int.reduceLE, Int.reduceLT, Nat.reduceLT, Nat.reduceLeDiff, false_imp_iff, true_imp_iff]
        try rfl
      | bad e h =>
        simp only [push_cast, ↓branch_true, ↓branch_false, Nat.reduceBEq, Nat.reduceAdd, Nat.reduceMul, Nat.reduceSub, Int.reduceToNat, reduceCtorEq, branch_decide, branch_not, branch_beq, branch_bne, Int.reduceAdd, Int.reduceEq, Int.reduceLE, Int.reduceLT, Nat.reduceLT, Nat.reduceLeDiff, false_imp_iff, true_imp_iff]
        try rfl
    · cases hS' with
      | ok s' cx' cy' _ hfi' hL' _ _ => exact (farkas_no (prim_dual hp (last_pos hL') (last_dual hdp hL').1) hG.1 hG.2).elim
      | bad e h =>
        rcases h with ⟨h, _⟩ | ⟨_, _, rfl⟩ | ⟨_, _, ⟨rfl, _⟩ | ⟨rfl, _⟩⟩
        · rw [hdv] at h; cases h
        all_goals
          simp only [push_cast, ↓branch_true, ↓branch_false, Nat.reduceBEq, Nat.reduceAdd, Nat.reduceMul, Nat.reduceSub, Int.reduceToNat, reduceCtorEq, branch_decide, branch_not, branch_beq, branch_bne, Int.reduceAdd, Int.reduceEq, Int.reduceLE, Int.reduceLT, Nat.reduceLT, Nat.reduceLeDiff, false_imp_iff, true_imp_iff]
          try rfl
    · have hno : ∀ X' d', Prim (lpP (dualP p oc cps hb2)) X' d' → False := fun X' d' hX' => ray_no hW hX'.pos (dual_of_prim hp hX').1
      cases hS' with
      | ok s' cx' cy' _ hfi' hL' _ _ => exact (hno _ _ (last_prim hdp hL')).elim
      | bad e h =>
        rcases h with ⟨h, _⟩ | ⟨_, _, rfl⟩ | ⟨_, _, ⟨rfl, _⟩ | ⟨_, ⟨X', d', hX'⟩, _⟩⟩
        · rw [hdv] at h; cases h
        · simp only [push_cast, ↓branch_true, ↓branch_false, Nat.reduceBEq, Nat.reduceAdd, Nat.reduceMul, Nat.reduceSub, Int.reduceToNat, reduceCtorEq, branch_decide, branch_not, branch_beq, branch_bne, Int.reduceAdd, Int.reduceEq, Int.reduceLE, Int.reduceLT, Nat.reduceLT, Nat.reduceLeDiff, false_imp_iff, true_imp_iff]
          try rfl
        · simp only [push_cast, ↓branch_true, ↓branch_false, Nat.reduceBEq, Nat.reduceAdd, Nat.reduceMul, Nat.reduceSub, Int.reduceToNat, reduceCtorEq, branch_decide, branch_not, branch_beq, branch_bne, Int.reduceAdd, Int.reduceEq, Int.reduceLE, Int.reduceLT, Nat.reduceLT, Nat.reduceLeDiff, false_imp_iff, true_imp_iff]
          try rfl
        · exact (hno _ _ hX').elim
end Go.Proofs.Ytmefgachdnlaoaa
