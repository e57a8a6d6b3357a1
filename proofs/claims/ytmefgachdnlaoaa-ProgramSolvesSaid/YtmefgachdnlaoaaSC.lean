/- Plain: what sums of fractions say of a point. -/
import Derived.Test.YtmefgachdnlaoaaSB
import Derived.Test.YtmefgachdnlaoaaW
set_option maxRecDepth 100000
set_option linter.unusedSimpArgs false
set_option linter.unusedVariables false
namespace Go.Proofs.Ytmefgachdnlaoaa
open Go.RowKit Lp
theorem prd_dvd {D : Nat → Nat} {i : Nat} : ∀ {n : Nat}, i < n → D i ∣ prd n D
  | n + 1, h => by
    rw [prd]
    by_cases e : i = n
    · rw [e]; exact Nat.dvd_mul_left _ _
    · exact Nat.dvd_trans (prd_dvd (i := i) (n := n) (by omega)) (Nat.dvd_mul_right _ _)
/-- The numerators over one denominator. -/
def xN (n : Nat) (N : Nat → Int) (D : Nat → Nat) (j : Nat) : Int := N j * (prd n D / D j : Nat)
theorem ofS_val {f N : Nat → Int} {D : Nat → Nat} {n : Nat} (hD : ∀ k, k < n → 0 < D k) : ∀ {k : Nat} {s : Int × Nat}, k ≤ n → ofS f N D k = some s → 0 < s.2 ∧ s.1 * (prd n D : Nat) = (sm k fun i => f i * xN n N D i) * (s.2 : Nat)
  | 0, s, _, h => by
    rw [ofS] at h
    cases h
    exact ⟨by decide, by simp [sm]⟩
  | k + 1, s, hk, h => by
    rw [ofS] at h
    cases hs : ofS f N D k with
    | none => rw [hs] at h; cases h
    | some s0 =>
      rw [hs] at h
      obtain ⟨h1, h2⟩ := ofS_val hD (by omega) hs
      have h : (if _ then _ else _) = some s := h
      split at h
      · cases h
        have hDk := hD k (by omega)
        have hv := r_val (f k * N k) (D k)
        have hp := rd_pos (f k * N k) hDk
        obtain ⟨q, hq⟩ := prd_dvd (D := D) (i := k) (n := n) (by omega)
        have hx : xN n N D k = N k * (q : Nat) := by
          unfold xN
          rw [hq, Nat.mul_div_cancel_left _ hDk]
        rw [sm]
        simp only [hx]
        generalize rn (f k * N k) (D k) = mn at *
        generalize rd (f k * N k) (D k) = md at *
        have hD' : 0 < s0.2 * md := Nat.mul_pos h1 hp
        have hv2 := r_val (s0.1 * (md : Nat) + mn * (s0.2 : Nat)) (s0.2 * md)
        have hp2 := rd_pos (s0.1 * (md : Nat) + mn * (s0.2 : Nat)) hD'
        generalize rn (s0.1 * (md : Nat) + mn * (s0.2 : Nat)) (s0.2 * md) = tn at *
        generalize rd (s0.1 * (md : Nat) + mn * (s0.2 : Nat)) (s0.2 * md) = td at *
        refine ⟨hp2, ?_⟩
        generalize (sm k fun i => f i * xN n N D i) = S at *
        rw [hq] at h2 ⊢
        have hne : ((s0.2 * md : Nat) : Int) ≠ 0 := by omega
        refine Int.eq_of_mul_eq_mul_right hne ?_
        rw [Int.natCast_mul] at hv2 h2 ⊢
        rw [Int.natCast_mul] at hne
        show tn * ((D k : Int) * (q : Int)) * ((s0.2 : Int) * (md : Int)) = _
        have e1 : tn * ((D k : Int) * (q : Int)) * ((s0.2 : Int) * (md : Int)) = tn * ((s0.2 : Int) * (md : Int)) * ((D k : Int) * (q : Int)) := by grind
        rw [e1, hv2]
        have e2 : (s0.1 * (md : Int) + mn * (s0.2 : Int)) * (td : Int) * ((D k : Int) * (q : Int)) = (s0.1 * ((D k : Int) * (q : Int)) * (md : Int) + mn * (D k : Int) * (q : Int) * (s0.2 : Int)) * (td : Int) := by grind
        rw [e2, h2, hv]
        grind
      · cases h
/-- A point that came in, as a point of the plain program. -/
theorem prim_of {p : Pm} {N : Nat → Int} {D : Nat → Nat} (hp : PmOk p) (hD : ∀ k, k < p.n → 0 < D k) (hall : ∀ t, t < p.m → rowS p N D t ≠ none) (hf : feaB p N D = true) : Prim (lpP p) (xN p.n N D) (prd p.n D : Nat) := by
  unfold feaB at hf
  rw [Bool.and_eq_true, decide_eq_true_eq] at hf
  obtain ⟨h1, h2⟩ := hf
  unfold nnB at h1
  have h1 := of_decide_eq_true h1
  have hE : 0 < prd p.n D := prd_pos hD
  refine ⟨by omega, fun j hj => Int.mul_nonneg (h1 j hj) (Int.natCast_nonneg _), fun t ht => ?_⟩
  have ht : t < p.m := ht
  have h3 := h2 t ht
  have h4 := hall t ht
  cases hs : rowS p N D t with
  | none => exact absurd hs h4
  | some s =>
    rw [hs] at h3
    have h3 : rOk p t s = true := h3
    obtain ⟨h5, h6⟩ := ofS_val hD (Nat.le_refl _) hs
    show (kdOf (p.kd t)).ok (sm p.n fun j => p.a t j * xN p.n N D j) (p.b t * (prd p.n D : Nat))
    unfold rOk at h3
    rw [Bool.and_eq_true, Bool.and_eq_true, Bool.or_eq_true, Bool.or_eq_true, Bool.or_eq_true, decide_eq_true_eq, decide_eq_true_eq, decide_eq_true_eq, decide_eq_true_eq, decide_eq_true_eq, decide_eq_true_eq] at h3
    obtain ⟨c1, c2, c3⟩ := h3
    generalize (sm p.n fun j => p.a t j * xN p.n N D j) = S at *
    generalize prd p.n D = E at *
    have hs2 : (0 : Int) < (s.2 : Nat) := by omega
    have hE2 : (0 : Int) < (E : Nat) := by omega
    have le1 : s.1 ≤ p.b t * (s.2 : Nat) → S ≤ p.b t * (E : Nat) := fun h => by
      have := Int.mul_le_mul_of_nonneg_right h (Int.le_of_lt hE2)
      rw [h6] at this
      refine Int.le_of_mul_le_mul_right ?_ hs2
      have e : p.b t * (s.2 : Int) * (E : Int) = p.b t * (E : Int) * (s.2 : Int) := by grind
      omega
    have le2 : p.b t * (s.2 : Nat) ≤ s.1 → p.b t * (E : Nat) ≤ S := fun h => by
      have := Int.mul_le_mul_of_nonneg_right h (Int.le_of_lt hE2)
      rw [h6] at this
      refine Int.le_of_mul_le_mul_right ?_ hs2
      have e : p.b t * (s.2 : Int) * (E : Int) = p.b t * (E : Int) * (s.2 : Int) := by grind
      omega
    rcases hp.kd t ht with k | k | k
    · rw [k]; exact le1 (by omega)
    · rw [k]; exact le2 (by omega)
    · rw [k]; exact Int.le_antisymm (le1 (by omega)) (le2 (by omega))
section
variable {p : Pm} {s : Tabl}
theorem last_sml (hp : PmOk p) (hf : Fit p) (hL : Last p s) : Sml (qF p 0 0 0 0) s := sml_of hp hf hL.feas
theorem last_bound (hp : PmOk p) (hf : Fit p) (hL : Last p s) : (valP p s).natAbs ≤ 1152921504606846976 ∧ s.d ≤ 144115188075855872 ∧ 0 < s.d := by
  have hS := last_sml hp hf hL
  have h1 : (sm p.m fun k => cqP p (s.b k) * s.T k p.R).natAbs ≤ 1152921504606846976 := sm_small (Nat.le_refl _) hp.m fun k hk => hS.cT k p.R hk (by show p.R < p.R + 1; omega)
  exact ⟨h1, hS.d.2, hS.d.1⟩
theorem last_frc (hp : PmOk p) (hf : Fit p) (hL : Last p s) : Frc (rn (valP p s) s.d.toNat) (rd (valP p s) s.d.toNat) := by
  obtain ⟨h1, h2, h3⟩ := last_bound hp hf hL
  have h4 := rn_le (valP p s) s.d.toNat
  have h5 := rd_le (valP p s) s.d.toNat
  exact ⟨rd_pos _ (by omega), by omega, by omega, r_cop _ (by omega)⟩
/-- No point beats the value that was found. -/
theorem beats {N : Nat → Int} {D : Nat → Nat} (hp : PmOk p) (hL : Last p s) (hD : ∀ k, k < p.n → 0 < D k) (hall : ∀ t, t < p.m → rowS p N D t ≠ none) (hf : feaB p N D = true) {w : Int × Nat} (hw : ofS p.co N D p.n = some w) :
    rn (valP p s) s.d.toNat * (w.2 : Nat) ≤ w.1 * (rd (valP p s) s.d.toNat : Nat) := by
  have hX := prim_of hp hD hall hf
  have hd := last_pos hL
  have w1 := weak_dual hX (last_dual hp hL).1
  rw [(last_dual hp hL).2] at w1
  obtain ⟨h5, h6⟩ := ofS_val hD (Nat.le_refl _) hw
  have hv := r_val (valP p s) s.d.toNat
  have hp2 := rd_pos (valP p s) (D := s.d.toNat) (by omega)
  have hE : 0 < prd p.n D := prd_pos hD
  rw [show ((s.d.toNat : Nat) : Int) = s.d by omega] at hv
  change w.1 * (prd p.n D : Nat) = pval (lpP p) (xN p.n N D) * (w.2 : Nat) at h6
  generalize pval (lpP p) (xN p.n N D) = PV at *
  generalize rn (valP p s) s.d.toNat = a at *
  generalize rd (valP p s) s.d.toNat = b at *
  generalize valP p s = V at *
  generalize prd p.n D = E at *
  generalize s.d = d at *
  have hb : (0 : Int) ≤ (b : Nat) := by omega
  have hw2 : (0 : Int) ≤ (w.2 : Nat) := by omega
  have hE2 : (0 : Int) < (E : Nat) := by omega
  have hdE : 0 < d * (E : Nat) := Int.mul_pos hd hE2
  refine Int.le_of_mul_le_mul_right ?_ hdE
  have m1 := Int.mul_le_mul_of_nonneg_right w1 (Int.mul_nonneg hb hw2)
  have e1 : a * (w.2 : Int) * (d * (E : Int)) = a * d * (w.2 : Int) * (E : Int) := by grind
  have e2 : V * (E : Int) * ((b : Int) * (w.2 : Int)) = V * (b : Int) * (w.2 : Int) * (E : Int) := by grind
  have e3 : PV * d * ((b : Int) * (w.2 : Int)) = PV * (w.2 : Int) * (b : Int) * d := by grind
  have e4 : w.1 * (b : Int) * (d * (E : Int)) = w.1 * (E : Int) * (b : Int) * d := by grind
  rw [e1, hv, e4, h6, ← e2, ← e3]
  exact m1
end
end Go.Proofs.Ytmefgachdnlaoaa
