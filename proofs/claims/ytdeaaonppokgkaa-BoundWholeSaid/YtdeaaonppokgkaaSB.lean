/- Plain: the least value is one number; which programs are valid. -/
import Derived.Test.YtdeaaonppokgkaaS
set_option maxRecDepth 100000
set_option linter.unusedSimpArgs false
set_option linter.unusedVariables false
namespace Go.Proofs.Ytdeaaonppokgkaa
open Go.RowKit Lp
theorem ent_all (q : Nat → Bool) (n : Nat) : decide (0 ≤ ent q n) = !decide (∀ k, k < n → q k = false) := by
  rcases ent_spec (p := q) (F := n) with ⟨h1, h2⟩ | ⟨e, h1, h2, h3, _⟩
  · rw [h1, decide_eq_true h2]; rfl
  · have e1 : ¬ ∀ k, k < n → q k = false := fun h => by rw [h e h1] at h3; cases h3
    rw [h2, decide_eq_false e1, decide_eq_true (show (0 : Int) ≤ (e : Nat) by omega)]; rfl
theorem vPm_iff (p : Pm) : vPm p = true ↔ (1 ≤ p.n ∧ p.n ≤ 12 ∧ p.m ≤ 6 ∧ (∀ j, j < p.n → far 1048576 (p.co j) = false)) ∧ ∀ t, t < p.m → badR p t = false := by
  unfold vPm
  rw [ent_all, ent_all, Bool.not_not, Bool.and_eq_true, decide_eq_true_eq, Bool.not_eq_true', Bool.or_eq_false_iff, Bool.or_eq_false_iff, Bool.or_eq_false_iff, decide_eq_false_iff_not, decide_eq_false_iff_not, decide_eq_false_iff_not, Bool.not_eq_false', decide_eq_true_eq]
  constructor
  · rintro ⟨⟨h1, h2, h3, h4⟩, h5⟩
    exact ⟨⟨by omega, by omega, by omega, h4⟩, h5⟩
  · rintro ⟨⟨h1, h2, h3, h4⟩, h5⟩
    exact ⟨⟨by omega, by omega, by omega, h4⟩, h5⟩
theorem far_iff (most x : Int) : far most x = false ↔ -most ≤ x ∧ x ≤ most := by
  unfold far
  rw [Bool.or_eq_false_iff, decide_eq_false_iff_not, decide_eq_false_iff_not]
  omega
theorem badR_iff (p : Pm) (t : Nat) : badR p t = false ↔ p.ln t = p.n ∧ (∀ k, k < p.ln t → -1048576 ≤ p.a t k ∧ p.a t k ≤ 1048576) ∧ (1 ≤ p.kd t ∧ p.kd t ≤ 3) ∧ -1073741824 ≤ p.b t ∧ p.b t ≤ 1073741824 := by
  unfold badR
  rw [Bool.or_eq_false_iff, Bool.or_eq_false_iff, Bool.or_eq_false_iff, Bool.or_eq_false_iff, ent_all, Bool.not_eq_false', decide_eq_true_eq, decide_eq_false_iff_not, decide_eq_false_iff_not, decide_eq_false_iff_not, far_iff]
  constructor
  · rintro ⟨h1, h2, h3, h4, h5⟩
    exact ⟨by simpa using h1, fun k hk => (far_iff _ _).1 (h2 k hk), by omega, h5⟩
  · rintro ⟨h1, h2, h3, h5⟩
    exact ⟨by simpa using h1, fun k hk => (far_iff _ _).2 (h2 k hk), by omega, by omega, h5⟩
theorem pmok_of {p : Pm} (hnc : p.n ≤ p.nc) (hmc : p.m ≤ p.mc) (h : vPm p = true) : PmOk p := by
  obtain ⟨⟨h1, h2, h3, h4⟩, h5⟩ := (vPm_iff p).1 h
  have h6 := fun t ht => (badR_iff p t).1 (h5 t ht)
  refine ⟨⟨h1, h2⟩, h3, hnc, hmc, fun t ht => (h6 t ht).1, fun t ht => by have := (h6 t ht).2.2.1; omega, fun j hj => by have := (far_iff _ _).1 (h4 j hj); omega, fun t k ht hk => ?_, fun t ht => by have := (h6 t ht).2.2.2; omega⟩
  have h7 := h6 t ht
  have := h7.2.1 k (by rw [h7.1]; exact hk)
  omega
section
variable {p : Pm} {s : Tabl}
theorem last_prim (hp : PmOk p) (hL : Last p s) : Prim (lpP p) (xval p.m p.R s) s.d := (form hp).prim hL.feas hL.noart
theorem last_pval (hp : PmOk p) (hL : Last p s) : pval (lpP p) (xval p.m p.R s) = valP p s := (form hp).pval hL.feas (fun j hj => cq_lo j hj) (fun j hj _ => cq_hi hp j hj)
theorem last_dual (hp : PmOk p) (hL : Last p s) : Dual (lpP p) (fun j => p.co j * s.d) (mulP p s) ∧ dval (lpP p) (mulP p s) = valP p s := by
  obtain ⟨g, ht⟩ := hL.feas.tab
  obtain ⟨h1, h2⟩ := (form hp).dual ht (cqP p) (fun j hj _ => cq_hi hp j hj) hL.rc
  refine ⟨⟨fun j hj => ?_, h1.sgn⟩, h2⟩
  have := h1.col j hj
  have e : cqP p j = p.co j := cq_lo j hj
  rw [e] at this
  exact this
theorem last_pos (hL : Last p s) : 0 < s.d := by
  obtain ⟨g, ht⟩ := hL.feas.tab
  exact ht.pos
/-- A point and multipliers that agree tell the value. -/
theorem val_uniq (hp : PmOk p) (hL : Last p s) {X Y : Nat → Int} {d d' v : Int} (hX : Prim (lpP p) X d) (hd : 0 < d') (hY : Dual (lpP p) (fun j => p.co j * d') Y) (h1 : pval (lpP p) X * d' = v * d) (h2 : dval (lpP p) Y = v) : valP p s * d' = v * s.d := by
  have hd0 := hX.pos
  have hs := last_pos hL
  have w1 := weak_dual hX (last_dual hp hL).1
  have w2 := weak_dual (last_prim hp hL) hY
  rw [(last_dual hp hL).2] at w1
  rw [last_pval hp hL, h2] at w2
  refine Int.le_antisymm ?_ (by rw [Int.mul_comm v]; rw [Int.mul_comm v] at w2; exact w2)
  have w3 := Int.mul_le_mul_of_nonneg_right w1 (Int.le_of_lt hd)
  have e1 : valP p s * d * d' = valP p s * d' * d := by grind
  have e2 : pval (lpP p) X * s.d * d' = v * s.d * d := by
    have : pval (lpP p) X * s.d * d' = pval (lpP p) X * d' * s.d := by grind
    rw [this, h1]; grind
  rw [e1, e2] at w3
  exact Int.le_of_mul_le_mul_right w3 hd0
end
end Go.Proofs.Ytdeaaonppokgkaa
