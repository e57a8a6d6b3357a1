/- BoundWhole: the walk. -/
import Derived.Test.YtdeaaonppokgkaaBP
set_option maxRecDepth 100000
set_option linter.unusedSimpArgs false
set_option linter.unusedVariables false
namespace Go.Proofs.Ytdeaaonppokgkaa.Pat
open Go.RowKit Lp
def oVx (vn vd : Int) : Ob := ⟨34, false, .st [.v (.int .i64 vn), .v (.int .i64 vd)]⟩
attribute [push_cast] oVx
set_option maxHeartbeats 4000000 in
theorem lwhole_sp (lim : Int) (l : List Pc) (c : Nat) (hl : l.length ≤ 9223372036854775807) : Sp Try.prog 4 [.v (.int .i64 lim), .s 0 0 0 l.length c 2] [rPc l] (isK (.v (.bool true))) := by
  refine sp_of_ex true [(27, .pre [4] [0, 1, 2, 3, 4, 5, 6, 7] (.one 8 (.one 9 (.one 10 .fin))))] mixed Try.call4 Try.func4 rfl Try.ntmps4 Try.results4 (by decide +kernel) rfl ?_
  simp only [push_cast, ↓branch_true, ↓branch_false, Nat.reduceBEq, Nat.reduceAdd, Nat.reduceMul, Nat.reduceSub, Int.reduceToNat, reduceCtorEq, Int.reduceAdd, Int.reduceEq, Int.reduceLE, Int.reduceLT, Nat.reduceLT, Nat.reduceLeDiff]
  refine sp_at awake_sp [] rfl ?_ ?_ ?_
  · simp only [push_cast, ↓branch_true, ↓branch_false, Nat.reduceBEq, Nat.reduceAdd, Nat.reduceMul, Nat.reduceSub, Int.reduceToNat, reduceCtorEq, Int.reduceAdd, Int.reduceEq, Int.reduceLE, Int.reduceLT, Nat.reduceLT, Nat.reduceLeDiff]
  · simp only [push_cast, ↓branch_true, ↓branch_false, Nat.reduceBEq, Nat.reduceAdd, Nat.reduceMul, Nat.reduceSub, Int.reduceToNat, reduceCtorEq, Int.reduceAdd, Int.reduceEq, Int.reduceLE, Int.reduceLT, Nat.reduceLT, Nat.reduceLeDiff]
  rintro _ _ ⟨rfl, rfl⟩
  simp only [push_cast, ↓branch_true, ↓branch_false, Nat.reduceBEq, Nat.reduceAdd, Nat.reduceMul, Nat.reduceSub, Int.reduceToNat, reduceCtorEq, Int.reduceAdd, Int.reduceEq, Int.reduceLE, Int.reduceLT, Nat.reduceLT, Nat.reduceLeDiff]
  intro d0
  refine sp_c (few_pu lim l c hl) rfl [0] ?_
  cases hf : fewB lim l with
  | false =>
    simp only [push_cast, ↓branch_true, ↓branch_false, Nat.reduceBEq, Nat.reduceAdd, Nat.reduceMul, Nat.reduceSub, Int.reduceToNat, reduceCtorEq, Int.reduceAdd, Int.reduceEq, Int.reduceLE, Int.reduceLT, Nat.reduceLT, Nat.reduceLeDiff]
    try rfl
  | true =>
  simp only [push_cast, ↓branch_true, ↓branch_false, Nat.reduceBEq, Nat.reduceAdd, Nat.reduceMul, Nat.reduceSub, Int.reduceToNat, reduceCtorEq, Int.reduceAdd, Int.reduceEq, Int.reduceLE, Int.reduceLT, Nat.reduceLT, Nat.reduceLeDiff]
  refine sp_at (prices_sp lim l c hl) [0] (by kernel_rfl) ?_ ?_ ?_
  · simp only [push_cast, ↓branch_true, ↓branch_false, Nat.reduceBEq, Nat.reduceAdd, Nat.reduceMul, Nat.reduceSub, Int.reduceToNat, reduceCtorEq, Int.reduceAdd, Int.reduceEq, Int.reduceLE, Int.reduceLT, Nat.reduceLT, Nat.reduceLeDiff]
  · simp only [push_cast, ↓branch_true, ↓branch_false, Nat.reduceBEq, Nat.reduceAdd, Nat.reduceMul, Nat.reduceSub, Int.reduceToNat, reduceCtorEq, Int.reduceAdd, Int.reduceEq, Int.reduceLE, Int.reduceLT, Nat.reduceLT, Nat.reduceLeDiff]
  intro r0 H0 hR
  have hcase : (∃ e : Int, e ≠ 0 ∧ r0 = nilP e ∧ H0 = [rPc l]) ∨ ∃ (cy : Nat) (N : Nat → Int) (d : Nat) (vn vd : Int), r0 = .t [.s 1 0 0 l.length cy 2, frV vn vd, .v (.int .i64 0)] ∧ H0 = [rPc l, oFr l.length cy N d] ∧ PF lim l N d vn vd := by
    cases hR with
    | given h => exact .inl ⟨_, h, rfl, rfl⟩
    | none h h0 =>
      have e : (0 : Nat) = l.length := h0.symm
      exact .inr ⟨0, fun _ => 0, 1, 0, 1, by rw [← e], by rw [← e], pf_none h h0⟩
    | limit _ _ _ => exact .inl ⟨6, by decide, rfl, rfl⟩
    | big _ _ _ _ _ _ _ _ _ _ _ => exact .inl ⟨5, by decide, rfl, rfl⟩
    | ok nc mc cy cps hb s g _ _ hE _ hp _ _ hL hz => exact .inr ⟨cy, _, _, _, _, rfl, rfl, pf_ok g hE hp hL hz⟩
  clear hR
  rcases hcase with ⟨e, he, rfl, rfl⟩ | ⟨cy, N, d, vn, vd, rfl, rfl, hP⟩
  · simp only [push_cast, ↓branch_true, ↓branch_false, Nat.reduceBEq, Nat.reduceAdd, Nat.reduceMul, Nat.reduceSub, Int.reduceToNat, reduceCtorEq, Int.reduceAdd, Int.reduceEq, Int.reduceLE, Int.reduceLT, Nat.reduceLT, Nat.reduceLeDiff]
    exact ⟨fun h => absurd h he, fun _ => agg34 _ _ _ _⟩
  have hd0 := hP.d0
  simp only [push_cast, ↓branch_true, ↓branch_false, Nat.reduceBEq, Nat.reduceAdd, Nat.reduceMul, Nat.reduceSub, Int.reduceToNat, reduceCtorEq, Int.reduceAdd, Int.reduceEq, Int.reduceLE, Int.reduceLT, Nat.reduceLT, Nat.reduceLeDiff]
  refine tr_loop mixed (by kernel_rfl) (fun (x : Nat × Nat) => [(48, .v (.int .i64 x.1)), (47, .v (.int .i64 l.length)), (46, .s 1 0 0 l.length cy 2), (8, .v (.int .i64 x.2)), (5, .s 1 0 0 l.length cy 2), (6, .p 2 0 0), (0, .v (.int .i64 lim)), (1, .s 0 0 0 l.length c 2)])
    (fun _ => [rPc l, oFr l.length cy N d, oVx vn vd]) (fun x => x.1 ≤ l.length ∧ 1 ≤ x.2 ∧ x.2 ≤ 1073741824 ∧ ∀ i, i < x.1 → rd (N i) d ∣ x.2) (fun x => l.length - x.1) (0, 1) ⟨Nat.zero_le _, Nat.le_refl _, by decide, fun i h => absurd h (Nat.not_lt_zero i)⟩ (Mt.wk (rl := [0, 1, 2]) ⟨by kernel_rfl, ?_, ?_⟩) ?_
  · simp only [push_cast, ↓branch_true, ↓branch_false, Nat.reduceBEq, Nat.reduceAdd, Nat.reduceMul, Nat.reduceSub, Int.reduceToNat, reduceCtorEq, Int.reduceAdd, Int.reduceEq, Int.reduceLE, Int.reduceLT, Nat.reduceLT, Nat.reduceLeDiff]
  · simp only [push_cast, ↓branch_true, ↓branch_false, Nat.reduceBEq, Nat.reduceAdd, Nat.reduceMul, Nat.reduceSub, Int.reduceToNat, reduceCtorEq, Int.reduceAdd, Int.reduceEq, Int.reduceLE, Int.reduceLT, Nat.reduceLT, Nat.reduceLeDiff]
  rintro ⟨k, S⟩ ⟨hk, hS1, hS2, hdv⟩
  simp only at hk hS1 hS2 hdv
  simp only [push_cast, ↓branch_true, ↓branch_false, Nat.reduceBEq, Nat.reduceAdd, Nat.reduceMul, Nat.reduceSub, Int.reduceToNat, reduceCtorEq, Int.reduceAdd, Int.reduceEq, Int.reduceLE, Int.reduceLT, Nat.reduceLT, Nat.reduceLeDiff]
  refine ⟨fun e1 => ?_, fun e1 => ?_⟩
  · have hkl : k < l.length := by omega
    have hde := rd_pos (N k) hd0
    have hnu : ¬ rn (N k) d < 0 := fun h => by have := (rn_neg (N k) hd0).1 h; have := hP.nn k hkl; omega
    generalize hde2 : rd (N k) d = D at *
    generalize hnu2 : rn (N k) d = nu at *
    repeat (with_reducible refine And.intro (by omega) ?_)
    intro _
    refine ⟨fun h => absurd h hnu, fun _ => ?_⟩
    obtain ⟨g, hg⟩ : ∃ g, g = Nat.gcd S D := ⟨_, rfl⟩
    have hg0 : 0 < g := by rw [hg]; exact Nat.gcd_pos_of_pos_left _ (by omega)
    refine tr_loop mixed (by kernel_rfl) (fun (x : Nat × Nat) => [(11, .v (.int .i64 x.1)), (12, .v (.int .i64 x.2)), (10, .p 3 0 0), (48, .v (.int .i64 k)), (47, .v (.int .i64 l.length)), (46, .s 1 0 0 l.length cy 2), (8, .v (.int .i64 S)), (5, .s 1 0 0 l.length cy 2), (6, .p 2 0 0), (0, .v (.int .i64 lim)), (1, .s 0 0 0 l.length c 2)])
      (fun _ => [rPc l, oFr l.length cy N d, oVx vn vd, oVx nu D]) (fun x => Nat.gcd x.1 x.2 = g) (fun x => x.2) (S, D) hg.symm (Mt.wk (rl := [0, 1, 2, 3]) ⟨by kernel_rfl, ?_, ?_⟩) ?_
    · simp only [push_cast, ↓branch_true, ↓branch_false, Nat.reduceBEq, Nat.reduceAdd, Nat.reduceMul, Nat.reduceSub, Int.reduceToNat, reduceCtorEq, Int.reduceAdd, Int.reduceEq, Int.reduceLE, Int.reduceLT, Nat.reduceLT, Nat.reduceLeDiff]
    · simp only [push_cast, ↓branch_true, ↓branch_false, Nat.reduceBEq, Nat.reduceAdd, Nat.reduceMul, Nat.reduceSub, Int.reduceToNat, reduceCtorEq, Int.reduceAdd, Int.reduceEq, Int.reduceLE, Int.reduceLT, Nat.reduceLT, Nat.reduceLeDiff]
    rintro ⟨a, b⟩ hab
    simp only at hab
    simp only [push_cast, ↓branch_true, ↓branch_false, Nat.reduceBEq, Nat.reduceAdd, Nat.reduceMul, Nat.reduceSub, Int.reduceToNat, reduceCtorEq, Int.reduceAdd, Int.reduceEq, Int.reduceLE, Int.reduceLT, Nat.reduceLT, Nat.reduceLeDiff]
    refine ⟨fun e2 => ?_, fun e2 => ?_⟩
    · obtain rfl : b = 0 := by omega
      obtain rfl : a = g := by rw [← hab]; exact (Nat.gcd_zero_right a).symm
      obtain ⟨S', hS'⟩ : a ∣ S := by rw [hg]; exact Nat.gcd_dvd_left S D
      obtain ⟨D', hD'⟩ : a ∣ D := by rw [hg]; exact Nat.gcd_dvd_right S D
      have q1 : (D : Int).tdiv (a : Nat) = (D' : Nat) := by
        show ((D / a : Nat) : Int) = _
        rw [hD', Nat.mul_div_cancel_left _ hg0]
      have q3 : (S : Int).tdiv (a : Nat) = (S' : Nat) := by
        show ((S / a : Nat) : Int) = _
        rw [hS', Nat.mul_div_cancel_left _ hg0]
      obtain ⟨M, hM⟩ : ∃ M : Nat, M = 1073741824 / S := ⟨_, rfl⟩
      have q2 : Int.tdiv 1073741824 (S : Nat) = (M : Nat) := by rw [hM]; rfl
      have hDb : D ≤ 144115188075855872 := by
        have := rd_le (N k) d
        have := hP.dB
        omega
      have hD1 : D' ≤ D := by rw [hD']; exact Nat.le_mul_of_pos_left _ hg0
      have hS1' : S' ≤ S := by rw [hS']; exact Nat.le_mul_of_pos_left _ hg0
      have hM1 : M ≤ 1073741824 := by rw [hM]; exact Nat.div_le_self _ _
      rw [q1, q2, q3]
      repeat (with_reducible refine And.intro (by omega) ?_)
      intro e3
      obtain ⟨T, hT⟩ : ∃ T : Nat, T = S' * D := ⟨_, rfl⟩
      have q4 : (S' : Int) * (D : Nat) = (T : Nat) := by rw [hT]; exact (Int.natCast_mul S' D).symm
      have hT2 : T = S * D' := by rw [hT, hS', hD', Nat.mul_left_comm, Nat.mul_assoc]
      have hT3 : T ≤ 1073741824 := by
        rw [hT2]
        have h6 : S * M ≤ 1073741824 := by rw [hM]; exact Nat.mul_div_le _ _
        exact Nat.le_trans (Nat.mul_le_mul_left S (show D' ≤ M by omega)) h6
      have hT1 : 1 ≤ T := by
        rw [hT2]
        refine Nat.mul_pos (by omega) ?_
        refine Nat.pos_of_ne_zero fun h => ?_
        rw [h] at hD'
        omega
      rw [q4]
      repeat (with_reducible refine And.intro (by omega) ?_)
      refine lpK_normal (k + 1, T) [0, 1, 2] ⟨by simp only; omega, hT1, hT3, fun i hi => ?_⟩ (by simp only; omega) (by kernel_rfl) ?_ ?_
      · by_cases e : i = k
        · subst e
          rw [hde2, hT]
          exact Nat.dvd_mul_left D S'
        · rw [hT2]
          exact Nat.dvd_trans (hdv i (by simp only at hi; omega)) (Nat.dvd_mul_right S D')
      · simp only [push_cast, ↓branch_true, ↓branch_false, Nat.reduceBEq, Nat.reduceAdd, Nat.reduceMul, Nat.reduceSub, Int.reduceToNat, reduceCtorEq, Int.reduceAdd, Int.reduceEq, Int.reduceLE, Int.reduceLT, Nat.reduceLT, Nat.reduceLeDiff]
      · simp only [push_cast, ↓branch_true, ↓branch_false, Nat.reduceBEq, Nat.reduceAdd, Nat.reduceMul, Nat.reduceSub, Int.reduceToNat, reduceCtorEq, Int.reduceAdd, Int.reduceEq, Int.reduceLE, Int.reduceLT, Nat.reduceLT, Nat.reduceLeDiff]
    · obtain ⟨r, hr⟩ : ∃ r, r = a % b := ⟨_, rfl⟩
      have er : (a : Int).tmod (b : Nat) = (r : Nat) := by rw [hr]; rfl
      have hrb : r < b := by rw [hr]; exact Nat.mod_lt _ (by omega)
      rw [er]
      repeat (with_reducible refine And.intro (by omega) ?_)
      refine lpK_normal (b, r) [0, 1, 2, 3] ?_ hrb (by kernel_rfl) ?_ ?_
      · show Nat.gcd b r = g
        rw [hr, Nat.gcd_comm, ← Nat.gcd_rec, Nat.gcd_comm]
        exact hab
      · simp only [push_cast, ↓branch_true, ↓branch_false, Nat.reduceBEq, Nat.reduceAdd, Nat.reduceMul, Nat.reduceSub, Int.reduceToNat, reduceCtorEq, Int.reduceAdd, Int.reduceEq, Int.reduceLE, Int.reduceLT, Nat.reduceLT, Nat.reduceLeDiff]
      · simp only [push_cast, ↓branch_true, ↓branch_false, Nat.reduceBEq, Nat.reduceAdd, Nat.reduceMul, Nat.reduceSub, Int.reduceToNat, reduceCtorEq, Int.reduceAdd, Int.reduceEq, Int.reduceLE, Int.reduceLT, Nat.reduceLT, Nat.reduceLeDiff]
  obtain rfl : k = l.length := by omega
  obtain ⟨pf, hpf⟩ : ∃ pf : Nat → Int, ∀ i, pf i = rn (N i) d * ((S / rd (N i) d : Nat) : Int) := ⟨fun i => rn (N i) d * ((S / rd (N i) d : Nat) : Int), fun _ => rfl⟩
  refine tr_loop mixed (by kernel_rfl) (fun (x : Nat × Nat) => [(85, .v (.int .i64 x.1)), (84, .v (.int .i64 l.length)), (83, .s 1 0 0 l.length cy 2), (13, .s 3 0 0 x.1 x.2 1), (8, .v (.int .i64 S)), (6, .p 2 0 0), (0, .v (.int .i64 lim)), (1, .s 0 0 0 l.length c 2)])
    (fun x => [rPc l, oFr l.length cy N d, oVx vn vd, rOwn 3 x.1 x.2 pf]) (fun x => x.1 ≤ l.length ∧ x.1 ≤ x.2 ∧ ∀ i, i < x.1 → pf i ≤ 1073741824) (fun x => l.length - x.1) (0, 0) ⟨Nat.zero_le _, Nat.le_refl _, fun i h => absurd h (Nat.not_lt_zero i)⟩ (Mt.wk (rl := [0, 1, 2, 1001]) ⟨by kernel_rfl, ?_, ?_⟩) ?_
  · simp only [push_cast, ↓branch_true, ↓branch_false, Nat.reduceBEq, Nat.reduceAdd, Nat.reduceMul, Nat.reduceSub, Int.reduceToNat, reduceCtorEq, Int.reduceAdd, Int.reduceEq, Int.reduceLE, Int.reduceLT, Nat.reduceLT, Nat.reduceLeDiff]
  · simp only [push_cast, ↓branch_true, ↓branch_false, Nat.reduceBEq, Nat.reduceAdd, Nat.reduceMul, Nat.reduceSub, Int.reduceToNat, reduceCtorEq, Int.reduceAdd, Int.reduceEq, Int.reduceLE, Int.reduceLT, Nat.reduceLT, Nat.reduceLeDiff]
  rintro ⟨k, cap⟩ ⟨hk, hkc, hpr⟩
  simp only at hk hkc hpr
  simp only [push_cast, ↓branch_true, ↓branch_false, Nat.reduceBEq, Nat.reduceAdd, Nat.reduceMul, Nat.reduceSub, Int.reduceToNat, reduceCtorEq, Int.reduceAdd, Int.reduceEq, Int.reduceLE, Int.reduceLT, Nat.reduceLT, Nat.reduceLeDiff]
  refine ⟨fun e1 => ?_, fun e1 => ?_⟩
  · have hkl : k < l.length := by omega
    have hde := rd_pos (N k) hd0
    have hnu : ¬ rn (N k) d < 0 := fun h => by have := (rn_neg (N k) hd0).1 h; have := hP.nn k hkl; omega
    obtain ⟨C, hC⟩ := hdv k hkl
    have hpk := hpf k
    generalize hde2 : rd (N k) d = D at *
    generalize hnu2 : rn (N k) d = nu at *
    have hSD : S / D = C := by rw [hC, Nat.mul_div_cancel_left _ hde]
    have hC0 : 0 < C := Nat.pos_of_ne_zero fun h => by rw [h] at hC; omega
    have hCS : C ≤ S := by rw [hC]; exact Nat.le_mul_of_pos_left _ hde
    have q1 : (S : Int).tdiv (D : Nat) = (C : Nat) := by
      show ((S / D : Nat) : Int) = _
      rw [hSD]
    obtain ⟨M, hM⟩ : ∃ M : Nat, M = 1073741824 / C := ⟨_, rfl⟩
    have q2 : Int.tdiv 1073741824 (C : Nat) = (M : Nat) := by rw [hM]; rfl
    have hM1 : M ≤ 1073741824 := by rw [hM]; exact Nat.div_le_self _ _
    rw [q1, q2]
    rw [hSD] at hpk
    rw [← hpk]
    repeat (with_reducible refine And.intro (by omega) ?_)
    intro e3
    have hpk2 : 0 ≤ pf k ∧ pf k ≤ 1073741824 := by
      have h6 : M * C ≤ 1073741824 := by rw [hM]; exact Nat.div_mul_le_self _ _
      have h7 := Int.mul_le_mul_of_nonneg_right (show nu ≤ (M : Nat) by omega) (show (0 : Int) ≤ (C : Nat) by omega)
      have h8 : ((M : Nat) : Int) * (C : Nat) = ((M * C : Nat) : Int) := (Int.natCast_mul M C).symm
      rw [hpk]
      exact ⟨Int.mul_nonneg (by omega) (by omega), by omega⟩
    repeat (with_reducible refine And.intro (by omega) ?_)
    refine Or.inr ⟨by omega, by omega, fun cap2 hcap2 => ?_⟩
    repeat (with_reducible refine And.intro (by omega) ?_)
    refine lpK_normal (k + 1, cap2) [0, 1, 2, 6] ⟨by simp only; omega, by simp only; omega, fun i hi => ?_⟩ (by simp only; omega) (by kernel_rfl) ?_ ?_
    · by_cases e : i = k
      · rw [e]; exact hpk2.2
      · exact hpr i (by simp only at hi; omega)
    · simp only [push_cast, ↓branch_true, ↓branch_false, Nat.reduceBEq, Nat.reduceAdd, Nat.reduceMul, Nat.reduceSub, Int.reduceToNat, reduceCtorEq, Int.reduceAdd, Int.reduceEq, Int.reduceLE, Int.reduceLT, Nat.reduceLT, Nat.reduceLeDiff]
    · simp only [push_cast, ↓branch_true, ↓branch_false, Nat.reduceBEq, Nat.reduceAdd, Nat.reduceMul, Nat.reduceSub, Int.reduceToNat, reduceCtorEq, Int.reduceAdd, Int.reduceEq, Int.reduceLE, Int.reduceLT, Nat.reduceLT, Nat.reduceLeDiff]
      exact lf3 pf
  · obtain rfl : k = l.length := by omega
    obtain ⟨pr, hprl, hpri⟩ : ∃ pr : List Int, pr.length = l.length ∧ ∀ i, i < l.length → ix pr i = pf i := ⟨(List.range l.length).map pf, by simp, fun i hi => by rw [ix_eq (by simpa using hi)]; simp⟩
    have hdn : (0 : Int) < (d : Nat) := by omega
    obtain ⟨f1, f2⟩ := pf_fin (S := (S : Nat)) (pr := pr) hP (by omega) (by omega) hprl fun i hi => by
      have hde := rd_pos (N i) hd0
      have hnu : ¬ rn (N i) d < 0 := fun h => by have := (rn_neg (N i) hd0).1 h; have := hP.nn i hi; omega
      obtain ⟨C, hC⟩ := hdv i hi
      have h5 := hpr i hi
      have hrv := r_val (N i) d
      rw [hpri i hi]
      rw [hpf i] at h5 ⊢
      have hSD : S / rd (N i) d = C := by
        have e : S / rd (N i) d = rd (N i) d * C / rd (N i) d := congrArg (fun z => z / rd (N i) d) hC
        rw [e, Nat.mul_div_cancel_left _ hde]
      rw [hSD] at h5 ⊢
      refine ⟨?_, Int.mul_nonneg (by omega) (by omega), h5⟩
      have hC2 : (S : Int) = (rd (N i) d : Nat) * (C : Nat) := by
        have e : (S : Int) = ((rd (N i) d * C : Nat) : Int) := congrArg (fun z : Nat => (z : Int)) hC
        rw [e, Int.natCast_mul]
      rw [hC2, Int.mul_assoc, Int.mul_comm (C : Int), ← Int.mul_assoc, hrv, Int.mul_assoc]
    have hbp := bproves_sp lim l c pr cap (S : Nat) hl (by omega)
    rw [hprl] at hbp
    refine sp_at hbp [0, 3] (by kernel_rfl) ?_ ?_ ?_
    · simp only [push_cast, ↓branch_true, ↓branch_false, Nat.reduceBEq, Nat.reduceAdd, Nat.reduceMul, Nat.reduceSub, Int.reduceToNat, reduceCtorEq, Int.reduceAdd, Int.reduceEq, Int.reduceLE, Int.reduceLT, Nat.reduceLT, Nat.reduceLeDiff]
    · simp only [push_cast, ↓branch_true, ↓branch_false, Nat.reduceBEq, Nat.reduceAdd, Nat.reduceMul, Nat.reduceSub, Int.reduceToNat, reduceCtorEq, Int.reduceAdd, Int.reduceEq, Int.reduceLE, Int.reduceLT, Nat.reduceLT, Nat.reduceLeDiff, hprl]
      exact fun _ _ k hk => congrArg (Value.int .i64) (hpri k hk)
    rintro _ _ ⟨rfl, rfl⟩
    rw [f1, f2]
    simp only [push_cast, ↓branch_true, ↓branch_false, Nat.reduceBEq, Nat.reduceAdd, Nat.reduceMul, Nat.reduceSub, Int.reduceToNat, reduceCtorEq, Int.reduceAdd, Int.reduceEq, Int.reduceLE, Int.reduceLT, Nat.reduceLT, Nat.reduceLeDiff]
    refine sp_c (rceil_pu vn vd ⟨hP.vn0.1, by have := hP.vn0.2; omega⟩ ⟨hP.vd0.1, by have := hP.vd0.2; omega⟩) rfl [] ?_
    simp only [push_cast, ↓branch_true, ↓branch_false, Nat.reduceBEq, Nat.reduceAdd, Nat.reduceMul, Nat.reduceSub, Int.reduceToNat, reduceCtorEq, Int.reduceAdd, Int.reduceEq, Int.reduceLE, Int.reduceLT, Nat.reduceLT, Nat.reduceLeDiff]
end Go.Proofs.Ytdeaaonppokgkaa.Pat
