/- Contract of package ratio: Add, for valid fractions. -/
import Derived.Test.YtmefgachdnlaoaaOB
set_option maxRecDepth 100000
set_option linter.unusedSimpArgs false
set_option linter.unusedVariables false
namespace Go.Proofs.Ytmefgachdnlaoaa
open Go.RowKit Lp
theorem mul_le60 {a b : Nat} (ha : a ≤ 1152921504606846976) (hb : b ≤ 1152921504606846976) : a * b ≤ 1329227995784915872903807060280344576 := Nat.le_trans (Nat.mul_le_mul ha hb) (by decide)
theorem add_pu {an bn : Int} {ad bd : Nat} (ha : Frc an ad) (hb : Frc bn bd) : Pu Try.prog 39 [frV an ad, frV bn bd] [] (rsQ (an * (bd : Nat) + bn * (ad : Nat)) (ad * bd)) := by
  have a0 := ha.d0
  have a1 := ha.d1
  have a2 := ha.n1
  have b0 := hb.d0
  have b1 := hb.d1
  have b2 := hb.n1
  have va := fvalid_pu an ad (by omega) (by omega)
  have vb := fvalid_pu bn bd (by omega) (by omega)
  rw [ha.vF] at va
  rw [hb.vF] at vb
  have hg : 0 < Nat.gcd ad bd := Nat.gcd_pos_of_pos_left _ a0
  have hga : Nat.gcd ad bd ≤ ad := Nat.gcd_le_left _ a0
  have hc : 0 < Nat.gcd (Nat.gcd ad bd) (addT an bn ad bd).natAbs := Nat.gcd_pos_of_pos_left _ hg
  have hcg : Nat.gcd (Nat.gcd ad bd) (addT an bn ad bd).natAbs ≤ Nat.gcd ad bd := Nat.gcd_le_left _ hg
  have qb := Nat.div_le_self bd (Nat.gcd ad bd)
  have qa := Nat.div_le_self ad (Nat.gcd ad bd)
  have qc := Nat.div_le_self bd (Nat.gcd (Nat.gcd ad bd) (addT an bn ad bd).natAbs)
  have gp := gcd_pu ad bd (by omega) (by omega)
  have sa := size_pu an (by omega)
  have sb := size_pu bn (by omega)
  have p1 := product_pu an.natAbs (bd / Nat.gcd ad bd) (by omega) (by omega)
  have p2 := product_pu bn.natAbs (ad / Nat.gcd ad bd) (by omega) (by omega)
  have bX := mul_le60 a2 (show bd / Nat.gcd ad bd ≤ _ by omega)
  have bY := mul_le60 b2 (show ad / Nat.gcd ad bd ≤ _ by omega)
  obtain ⟨s1, s2⟩ := addT_size an bn ad bd
  have ht : (addT an bn ad bd).natAbs ≤ an.natAbs * (bd / Nat.gcd ad bd) + bn.natAbs * (ad / Nat.gcd ad bd) := by
    cases h : decide (an < 0) == decide (bn < 0) with
    | true => exact Nat.le_of_eq (s1 h).1
    | false =>
      by_cases h2 : an.natAbs * (bd / Nat.gcd ad bd) < bn.natAbs * (ad / Nat.gcd ad bd)
      · have := ((s2 h).1 h2).1; omega
      · have := ((s2 h).2 h2).1; omega
  have hN : decide (an * (bd : Nat) + bn * (ad : Nat) < 0) = decide (addT an bn ad bd < 0) := by
    rw [addT_mul, decide_eq_decide]
    constructor
    · intro h
      refine Int.lt_of_not_ge fun h2 => ?_
      have := Int.mul_nonneg h2 (show (0 : Int) ≤ (Nat.gcd ad bd : Nat) by omega)
      omega
    · exact fun h => Int.mul_neg_of_neg_of_pos h (by omega)
  obtain ⟨e1, e2⟩ := add_red a0 b0 ha.cop hb.cop rfl
  have h0 : (addT an bn ad bd).natAbs = 0 → (rn (an * (bd : Nat) + bn * (ad : Nat)) (ad * bd)).natAbs = 0 ∧ rd (an * (bd : Nat) + bn * (ad : Nat)) (ad * bd) = 1 := fun h => by
    have hz : an * (bd : Nat) + bn * (ad : Nat) = 0 := by
      rw [addT_mul, show addT an bn ad bd = 0 by omega, Int.zero_mul]
    rw [rn_abs, rd, hz]
    refine ⟨Nat.zero_div _, ?_⟩
    show ad * bd / Nat.gcd 0 (ad * bd) = 1
    rw [Nat.gcd_zero_left, Nat.div_self (Nat.mul_pos a0 b0)]
  have ov1 := overw_pu (addT an bn ad bd).natAbs (Nat.gcd ad bd) (by omega) ⟨hg, by omega⟩
  have ov2 := overw_pu (addT an bn ad bd).natAbs (Nat.gcd (Nat.gcd ad bd) (addT an bn ad bd).natAbs) (by omega) ⟨hc, by omega⟩
  have hmod : (addT an bn ad bd).natAbs % Nat.gcd ad bd < Nat.gcd ad bd := Nat.mod_lt _ hg
  have gc := gcd_pu (Nat.gcd ad bd) ((addT an bn ad bd).natAbs % Nat.gcd ad bd) (by omega) (by omega)
  rw [gcd_mod'] at gc
  have p3 := product_pu (ad / Nat.gcd ad bd) (bd / Nat.gcd (Nat.gcd ad bd) (addT an bn ad bd).natAbs) (by omega) (by omega)
  rw [e1] at ov2
  rw [e2] at p3
  have hpl := plusw_pu (an.natAbs * (bd / Nat.gcd ad bd)) (bn.natAbs * (ad / Nat.gcd ad bd)) (by omega)
  have hls := less_pu (an.natAbs * (bd / Nat.gcd ad bd)) (bn.natAbs * (ad / Nat.gcd ad bd))
  have hmi1 := fun h => minusw_pu (bn.natAbs * (ad / Nat.gcd ad bd)) (an.natAbs * (bd / Nat.gcd ad bd)) h (by omega)
  have hmi2 := fun h => minusw_pu (an.natAbs * (bd / Nat.gcd ad bd)) (bn.natAbs * (ad / Nat.gcd ad bd)) h (by omega)
  unfold rsQ
  rw [hN]
  clear hN
  have t1 := @td bd (Nat.gcd ad bd)
  have t2 := @td ad (Nat.gcd ad bd)
  have t3 := @td bd (Nat.gcd (Nat.gcd ad bd) (addT an bn ad bd).natAbs)
  clear e1 e2
  generalize an.natAbs * (bd / Nat.gcd ad bd) = X at *
  generalize bn.natAbs * (ad / Nat.gcd ad bd) = Y at *
  generalize bd / Nat.gcd (Nat.gcd ad bd) (addT an bn ad bd).natAbs = B1 at *
  generalize Nat.gcd (Nat.gcd ad bd) (addT an bn ad bd).natAbs = c at *
  generalize (rn (an * (bd : Nat) + bn * (ad : Nat)) (ad * bd)).natAbs = M at *
  generalize rd (an * (bd : Nat) + bn * (ad : Nat)) (ad * bd) = E at *
  generalize decide (addT an bn ad bd < 0) = tneg at *
  generalize (addT an bn ad bd).natAbs = t at *
  generalize bd / Nat.gcd ad bd = Q1 at *
  generalize ad / Nat.gcd ad bd = P1 at *
  generalize Nat.gcd ad bd = g at *
  have hM := hl M
  have hE := hl E
  have lM := lN_lt M
  have lE := lN_lt E
  have hsg := signed_pu tneg (lN M) (lN E) lM lE
  rw [← t1] at p1
  rw [← t2] at p2
  rw [← t2, ← t3] at p3
  refine add_core (an := an) (bn := bn) (ad := (ad : Int)) (bd := (bd : Int)) (A := an.natAbs) (B := bn.natAbs) (g := g) (X := X) (Y := Y) (t := t) (c := c) (M := M) (E := E) (tneg := tneg)
    ((fun H => pu_a va rfl H)) ((fun H => pu_a vb rfl H)) (by omega) ((fun H => pu_a gp rfl H)) ⟨hg, hc⟩ ((fun H => pu_a sa rfl H)) ((fun H => pu_a sb rfl H)) ((fun H => pu_a p1 rfl H)) ((fun H => pu_a p2 rfl H)) (by rw [t1, t2, t3]; omega)
    (fun h => ⟨?_, fun hp => (s1 h).2 hp⟩) ((fun H => pu_a hls rfl H)) (fun h h2 => ⟨?_, ((s2 h).1 h2).2⟩) (fun h h2 => ⟨?_, ((s2 h).2 h2).2⟩) ((fun H => pu_a ov1 rfl H)) ((fun H => pu_a gc rfl H)) ((fun H => pu_a ov2 rfl H)) ((fun H => pu_a p3 rfl H)) ((fun H => pu_a hsg rfl H)) ?_ ?_ ?_
  · rw [(s1 h).1]; exact (fun H => pu_a hpl rfl H)
  · rw [((s2 h).1 h2).1]; exact pu_any (hmi1 (by omega)) rfl (by (simp only [push_cast, ↓branch_true, ↓branch_false, Nat.reduceBEq, Nat.reduceAdd, Nat.reduceMul, Nat.reduceSub, Int.reduceToNat, reduceCtorEq, Int.reduceAdd, Int.reduceEq, Int.reduceLE, Int.reduceLT, Nat.reduceLT, Nat.reduceLeDiff]))
  · rw [((s2 h).2 h2).1]; exact pu_any (hmi2 (by omega)) rfl (by (simp only [push_cast, ↓branch_true, ↓branch_false, Nat.reduceBEq, Nat.reduceAdd, Nat.reduceMul, Nat.reduceSub, Int.reduceToNat, reduceCtorEq, Int.reduceAdd, Int.reduceEq, Int.reduceLE, Int.reduceLT, Nat.reduceLT, Nat.reduceLeDiff]))
  · intro h
    obtain ⟨e1, e2⟩ := h0 h
    unfold sgN sgD sgE
    rw [e1, e2]
    cases tneg <;> exact ⟨rfl, rfl, rfl⟩
  · intro _ h
    unfold sgN sgD sgE
    rw [if_neg (by omega), if_neg (by omega), if_neg (by omega)]
    exact ⟨rfl, rfl, rfl⟩
  · intro _ h1 h2
    rw [show lN M = M by omega, show lN E = E by omega]
    exact ⟨rfl, rfl, rfl⟩
end Go.Proofs.Ytmefgachdnlaoaa
