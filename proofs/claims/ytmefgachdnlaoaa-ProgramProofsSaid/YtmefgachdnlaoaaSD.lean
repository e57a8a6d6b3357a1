/- Plain: sums of fractions with one denominator; the proofs that Solve and Farkas return are accepted. -/
import Derived.Test.YtmefgachdnlaoaaSC
set_option maxRecDepth 100000
set_option linter.unusedSimpArgs false
set_option linter.unusedVariables false
namespace Go.Proofs.Ytmefgachdnlaoaa
open Go.RowKit Lp
theorem r_zero {d : Nat} (hd : 0 < d) : rn 0 d = 0 ∧ rd 0 d = 1 := by
  have := r_same (N := 0) (D := d) (N' := 0) (D' := 1) hd (by decide) (by simp)
  rw [this.1, this.2]
  exact ⟨rfl, rfl⟩
theorem ok_of {N : Int} {d : Nat} (h : N.natAbs ≤ 1152921504606846976) (hd : d ≤ 1152921504606846976) : OkQ N d := ⟨Nat.le_trans (rn_le N d) h, Nat.le_trans (rd_le N d) hd⟩
/-- Fractions with one denominator add up. -/
theorem ofS_one {f X : Nat → Int} {d : Nat} (hd : 0 < d) (hd2 : d ≤ 1152921504606846976) : ∀ {n : Nat}, (∀ k, k < n → (f k * X k).natAbs ≤ 1152921504606846976) → (∀ k, k ≤ n → (sm k fun i => f i * X i).natAbs ≤ 1152921504606846976) →
    ofS f (fun k => rn (X k) d) (fun k => rd (X k) d) n = some (rn (sm n fun i => f i * X i) d, rd (sm n fun i => f i * X i) d)
  | 0, _, _ => by
    rw [ofS, sm, (r_zero hd).1, (r_zero hd).2]
  | n + 1, h1, h2 => by
    rw [ofS, ofS_one hd hd2 (fun k hk => h1 k (by omega)) (fun k hk => h2 k (by omega))]
    have e1 : rn (f n * rn (X n) d) (rd (X n) d) = rn (f n * X n) d ∧ rd (f n * rn (X n) d) (rd (X n) d) = rd (f n * X n) d := by
      refine r_same (rd_pos _ hd) hd ?_
      rw [Int.mul_assoc, r_val, Int.mul_assoc]
    have hs2 := h2 (n + 1) (Nat.le_refl _)
    rw [sm] at hs2 ⊢
    generalize (sm n fun i => f i * X i) = S at *
    have e2 : rn (rn S d * (rd (f n * X n) d : Nat) + rn (f n * X n) d * (rd S d : Nat)) (rd S d * rd (f n * X n) d) = rn (S + f n * X n) d ∧ rd (rn S d * (rd (f n * X n) d : Nat) + rn (f n * X n) d * (rd S d : Nat)) (rd S d * rd (f n * X n) d) = rd (S + f n * X n) d := by
      refine r_same (Nat.mul_pos (rd_pos _ hd) (rd_pos _ hd)) hd ?_
      have v1 := r_val S d
      have v2 := r_val (f n * X n) d
      generalize f n * X n = Z at *
      generalize rn S d = a at *
      generalize rd S d = b at *
      generalize rn Z d = c at *
      generalize rd Z d = g at *
      rw [Int.natCast_mul]
      have : (a * (g : Int) + c * (b : Int)) * (d : Int) = a * (d : Int) * (g : Int) + c * (d : Int) * (b : Int) := by grind
      rw [this, v1, v2]
      grind
    have o1 : OkQ (f n * rn (X n) d) (rd (X n) d) := by
      unfold OkQ
      rw [e1.1, e1.2]
      exact ok_of (h1 n (by omega)) hd2
    show (if _ ∧ _ then _ else _) = _
    rw [if_pos]
    · simp only [e1.1, e1.2, e2.1, e2.2]
    · refine ⟨o1, ?_⟩
      simp only [e1.1, e1.2]
      unfold OkQ
      rw [e2.1, e2.2]
      exact ok_of hs2 hd2
/-- A comparison over one denominator. -/
theorem q_le {S b : Int} {d : Nat} (hd : 0 < d) : rn S d ≤ b * (rd S d : Nat) ↔ S ≤ b * (d : Nat) := by
  have hv := r_val S d
  have hp := rd_pos S hd
  have h1 : (0 : Int) < (d : Nat) := by omega
  have h2 : (0 : Int) < (rd S d : Nat) := by omega
  generalize rn S d = a at *
  generalize rd S d = c at *
  constructor
  · intro h
    refine Int.le_of_mul_le_mul_right ?_ h2
    rw [← hv]
    have := Int.mul_le_mul_of_nonneg_right h (Int.le_of_lt h1)
    have e : b * (c : Int) * (d : Int) = b * (d : Int) * (c : Int) := by grind
    omega
  · intro h
    refine Int.le_of_mul_le_mul_right ?_ h1
    rw [hv]
    have := Int.mul_le_mul_of_nonneg_right h (Int.le_of_lt h2)
    have e : b * (c : Int) * (d : Int) = b * (d : Int) * (c : Int) := by grind
    omega
theorem q_ge {S b : Int} {d : Nat} (hd : 0 < d) : b * (rd S d : Nat) ≤ rn S d ↔ b * (d : Nat) ≤ S := by
  have hv := r_val S d
  have hp := rd_pos S hd
  have h1 : (0 : Int) < (d : Nat) := by omega
  have h2 : (0 : Int) < (rd S d : Nat) := by omega
  generalize rn S d = a at *
  generalize rd S d = c at *
  constructor
  · intro h
    refine Int.le_of_mul_le_mul_right ?_ h2
    rw [← hv]
    have := Int.mul_le_mul_of_nonneg_right h (Int.le_of_lt h1)
    have e : b * (c : Int) * (d : Int) = b * (d : Int) * (c : Int) := by grind
    omega
  · intro h
    refine Int.le_of_mul_le_mul_right ?_ h1
    rw [hv]
    have := Int.mul_le_mul_of_nonneg_right h (Int.le_of_lt h2)
    have e : b * (c : Int) * (d : Int) = b * (d : Int) * (c : Int) := by grind
    omega
theorem rn_pos {N : Int} {d : Nat} (hd : 0 < d) : 0 < rn N d ↔ 0 < N := by
  have hv := r_val N d
  have hp := rd_pos N hd
  generalize rn N d = a at *
  generalize rd N d = c at *
  constructor
  · intro h
    refine Int.lt_of_not_ge fun h2 => ?_
    have q1 := Int.mul_pos h (show (0 : Int) < (d : Nat) by omega)
    have q2 := Int.mul_nonpos_of_nonpos_of_nonneg h2 (show (0 : Int) ≤ (c : Nat) by omega)
    omega
  · intro h
    refine Int.lt_of_not_ge fun h2 => ?_
    have q1 := Int.mul_pos h (show (0 : Int) < (c : Nat) by omega)
    have q2 := Int.mul_nonpos_of_nonpos_of_nonneg h2 (show (0 : Int) ≤ (d : Nat) by omega)
    omega
theorem rn_nn {N : Int} {d : Nat} (hd : 0 < d) : 0 ≤ rn N d ↔ 0 ≤ N := by
  have := rn_neg N hd
  omega
theorem xvF_val {R m : Nat} {s : Tabl} (hi : ∀ i k, i < m → k < m → s.b i = s.b k → i = k) : ∀ {n : Nat}, n ≤ m → ∀ j, xvF R s n j = xval n R s j
  | 0, _, j => rfl
  | n + 1, hn, j => by
    show (if s.b n = j then s.T n R else xvF R s n j) = (sm n fun k => if s.b k = j then s.T k R else 0) + (if s.b n = j then s.T n R else 0)
    rw [xvF_val hi (by omega)]
    by_cases e : s.b n = j
    · rw [if_pos e, if_pos e, sm_zero fun k hk => ?_, Int.zero_add]
      rw [if_neg fun e2 => ?_]
      have := hi k n (by omega) (by omega) (e2.trans e.symm)
      omega
    · rw [if_neg e, if_neg e, Int.add_zero]
      rfl
theorem sm_abs_le {f X : Nat → Int} {B : Nat} {more : Int} : ∀ {k : Nat}, (∀ i, i < k → (X i).natAbs ≤ B) → (sm k fun i => f i * X i).natAbs ≤ szs f more k * B
  | 0, _ => by simp [sm]
  | k + 1, h => by
    have h1 := sm_abs_le (f := f) (more := more) (k := k) fun i hi => h i (by omega)
    have h2 := Nat.mul_le_mul_left (f k).natAbs (h k (by omega))
    rw [← Int.natAbs_mul] at h2
    rw [sm, szs, Nat.add_mul]
    omega
theorem frc_rn {N : Int} {d : Nat} (h : N.natAbs ≤ 1152921504606846976) (hd : 0 < d) (hd2 : d ≤ 1152921504606846976) : Frc (rn N d) (rd N d) := ⟨rd_pos _ hd, Nat.le_trans (rd_le _ _) hd2, Nat.le_trans (rn_le _ _) h, r_cop _ hd⟩
theorem rgt_rn {X : Nat → Int} {n d : Nat} (h : ∀ k, k < n → (X k).natAbs ≤ 1152921504606846976) (hd : 0 < d) (hd2 : d ≤ 1152921504606846976) : rgt n (fun k => rn (X k) d) (fun k => (rd (X k) d : Nat)) = true := decide_eq_true fun k hk => (frc_rn (h k hk) hd hd2).vF
end Go.Proofs.Ytmefgachdnlaoaa
