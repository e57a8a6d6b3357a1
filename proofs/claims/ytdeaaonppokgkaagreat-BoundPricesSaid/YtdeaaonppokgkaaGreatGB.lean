/- Plain: what sums of fractions say of a point. Plain: sums of fractions with one denominator; the proofs that Solve and Farkas return are accepted. Plain: the answers of Solve are proved, those of Farkas refute. Plain: programs whose columns and rows are turned round, and programs with a further row. -/
import Derived.Test.YtdeaaonppokgkaaGreatGE
import Derived.Test.YtdeaaonppokgkaaGreatGA
set_option maxRecDepth 100000
set_option linter.unusedSimpArgs false
set_option linter.unusedVariables false
namespace Go.Proofs.YtdeaaonppokgkaaGreat
open Go.RowKit Lp
section
variable {p : Pm} {s : Tabl}
theorem last_sml (hp : PmOk p) (hf : Fit p) (hL : Last p s) : Sml (qF p 0 0 0 0) s := sml_of hp hf hL.feas
theorem last_bound (hp : PmOk p) (hf : Fit p) (hL : Last p s) : (valP p s).natAbs ≤ 1152921504606846976 ∧ s.d ≤ 144115188075855872 ∧ 0 < s.d := by
  have hS := last_sml hp hf hL
  have h1 : (sm p.m fun k => cqP p (s.b k) * s.T k p.R).natAbs ≤ 1152921504606846976 := sm_small (Nat.le_refl _) hp.m fun k hk => hS.cT k p.R hk (by show p.R < p.R + 1; omega)
  exact ⟨h1, hS.d.2, hS.d.1⟩
end
end Go.Proofs.YtdeaaonppokgkaaGreat
namespace Go.Proofs.YtdeaaonppokgkaaGreat
open Go.RowKit Lp
theorem r_zero {d : Nat} (hd : 0 < d) : rn 0 d = 0 ∧ rd 0 d = 1 := by
  have := r_same (N := 0) (D := d) (N' := 0) (D' := 1) hd (by decide) (by simp)
  rw [this.1, this.2]
  exact ⟨rfl, rfl⟩
theorem ok_of {N : Int} {d : Nat} (h : N.natAbs ≤ 1152921504606846976) (hd : d ≤ 1152921504606846976) : OkQ N d := ⟨Nat.le_trans (rn_le N d) h, Nat.le_trans (rd_le N d) hd⟩
/-- Fractions with one denominator add up. -/
theorem ofS_one {f X : Nat → Int} {d : Nat} (hd : 0 < d) (hd2 : d ≤ 1152921504606846976) : ∀ {n : Nat}, (∀ k, k < n → (f k * X k).natAbs ≤ 1152921504606846976) → (∀ k, k ≤ n → (sm k fun i => f i * X i).natAbs ≤ 1152921504606846976) →
    ofS f (fun k => rn (X k) d) (fun k => rd (X k) d) n = some (rn (sm n fun i => f i * X i) d, rd (sm n fun i => f i * X i) d)
  | 0, _, _ => by
    rw [ofS, sm, (r_zero hd).1, (r_zero hd).2]
  | n + 1, h1, h2 => by
    rw [ofS, ofS_one hd hd2 (fun k hk => h1 k (by omega)) (fun k hk => h2 k (by omega))]
    have e1 : rn (f n * rn (X n) d) (rd (X n) d) = rn (f n * X n) d ∧ rd (f n * rn (X n) d) (rd (X n) d) = rd (f n * X n) d := by
      refine r_same (rd_pos _ hd) hd ?_
      rw [Int.mul_assoc, r_val, Int.mul_assoc]
    have hs2 := h2 (n + 1) (Nat.le_refl _)
    rw [sm] at hs2 ⊢
    generalize (sm n fun i => f i * X i) = S at *
    have e2 : rn (rn S d * (rd (f n * X n) d : Nat) + rn (f n * X n) d * (rd S d : Nat)) (rd S d * rd (f n * X n) d) = rn (S + f n * X n) d ∧ rd (rn S d * (rd (f n * X n) d : Nat) + rn (f n * X n) d * (rd S d : Nat)) (rd S d * rd (f n * X n) d) = rd (S + f n * X n) d := by
      refine r_same (Nat.mul_pos (rd_pos _ hd) (rd_pos _ hd)) hd ?_
      have v1 := r_val S d
      have v2 := r_val (f n * X n) d
      generalize f n * X n = Z at *
      generalize rn S d = a at *
      generalize rd S d = b at *
      generalize rn Z d = c at *
      generalize rd Z d = g at *
      rw [Int.natCast_mul]
      have : (a * (g : Int) + c * (b : Int)) * (d : Int) = a * (d : Int) * (g : Int) + c * (d : Int) * (b : Int) := by grind
      rw [this, v1, v2]
      grind
    have o1 : OkQ (f n * rn (X n) d) (rd (X n) d) := by
      unfold OkQ
      rw [e1.1, e1.2]
      exact ok_of (h1 n (by omega)) hd2
    show (if _ ∧ _ then _ else _) = _
    rw [if_pos]
    · simp only [e1.1, e1.2, e2.1, e2.2]
    · refine ⟨o1, ?_⟩
      simp only [e1.1, e1.2]
      unfold OkQ
      rw [e2.1, e2.2]
      exact ok_of hs2 hd2
/-- A comparison over one denominator. -/
theorem q_le {S b : Int} {d : Nat} (hd : 0 < d) : rn S d ≤ b * (rd S d : Nat) ↔ S ≤ b * (d : Nat) := by
  have hv := r_val S d
  have hp := rd_pos S hd
  have h1 : (0 : Int) < (d : Nat) := by omega
  have h2 : (0 : Int) < (rd S d : Nat) := by omega
  generalize rn S d = a at *
  generalize rd S d = c at *
  constructor
  · intro h
    refine Int.le_of_mul_le_mul_right ?_ h2
    rw [← hv]
    have := Int.mul_le_mul_of_nonneg_right h (Int.le_of_lt h1)
    have e : b * (c : Int) * (d : Int) = b * (d : Int) * (c : Int) := by grind
    omega
  · intro h
    refine Int.le_of_mul_le_mul_right ?_ h1
    rw [hv]
    have := Int.mul_le_mul_of_nonneg_right h (Int.le_of_lt h2)
    have e : b * (c : Int) * (d : Int) = b * (d : Int) * (c : Int) := by grind
    omega
theorem q_ge {S b : Int} {d : Nat} (hd : 0 < d) : b * (rd S d : Nat) ≤ rn S d ↔ b * (d : Nat) ≤ S := by
  have hv := r_val S d
  have hp := rd_pos S hd
  have h1 : (0 : Int) < (d : Nat) := by omega
  have h2 : (0 : Int) < (rd S d : Nat) := by omega
  generalize rn S d = a at *
  generalize rd S d = c at *
  constructor
  · intro h
    refine Int.le_of_mul_le_mul_right ?_ h2
    rw [← hv]
    have := Int.mul_le_mul_of_nonneg_right h (Int.le_of_lt h1)
    have e : b * (c : Int) * (d : Int) = b * (d : Int) * (c : Int) := by grind
    omega
  · intro h
    refine Int.le_of_mul_le_mul_right ?_ h1
    rw [hv]
    have := Int.mul_le_mul_of_nonneg_right h (Int.le_of_lt h2)
    have e : b * (c : Int) * (d : Int) = b * (d : Int) * (c : Int) := by grind
    omega
theorem rn_pos {N : Int} {d : Nat} (hd : 0 < d) : 0 < rn N d ↔ 0 < N := by
  have hv := r_val N d
  have hp := rd_pos N hd
  generalize rn N d = a at *
  generalize rd N d = c at *
  constructor
  · intro h
    refine Int.lt_of_not_ge fun h2 => ?_
    have q1 := Int.mul_pos h (show (0 : Int) < (d : Nat) by omega)
    have q2 := Int.mul_nonpos_of_nonpos_of_nonneg h2 (show (0 : Int) ≤ (c : Nat) by omega)
    omega
  · intro h
    refine Int.lt_of_not_ge fun h2 => ?_
    have q1 := Int.mul_pos h (show (0 : Int) < (c : Nat) by omega)
    have q2 := Int.mul_nonpos_of_nonpos_of_nonneg h2 (show (0 : Int) ≤ (d : Nat) by omega)
    omega
theorem rn_nn {N : Int} {d : Nat} (hd : 0 < d) : 0 ≤ rn N d ↔ 0 ≤ N := by
  have := rn_neg N hd
  omega
theorem xvF_val {R m : Nat} {s : Tabl} (hi : ∀ i k, i < m → k < m → s.b i = s.b k → i = k) : ∀ {n : Nat}, n ≤ m → ∀ j, xvF R s n j = xval n R s j
  | 0, _, j => rfl
  | n + 1, hn, j => by
    show (if s.b n = j then s.T n R else xvF R s n j) = (sm n fun k => if s.b k = j then s.T k R else 0) + (if s.b n = j then s.T n R else 0)
    rw [xvF_val hi (by omega)]
    by_cases e : s.b n = j
    · rw [if_pos e, if_pos e, sm_zero fun k hk => ?_, Int.zero_add]
      rw [if_neg fun e2 => ?_]
      have := hi k n (by omega) (by omega) (e2.trans e.symm)
      omega
    · rw [if_neg e, if_neg e, Int.add_zero]
      rfl
theorem sm_abs_le {f X : Nat → Int} {B : Nat} {more : Int} : ∀ {k : Nat}, (∀ i, i < k → (X i).natAbs ≤ B) → (sm k fun i => f i * X i).natAbs ≤ szs f more k * B
  | 0, _ => by simp [sm]
  | k + 1, h => by
    have h1 := sm_abs_le (f := f) (more := more) (k := k) fun i hi => h i (by omega)
    have h2 := Nat.mul_le_mul_left (f k).natAbs (h k (by omega))
    rw [← Int.natAbs_mul] at h2
    rw [sm, szs, Nat.add_mul]
    omega
theorem frc_rn {N : Int} {d : Nat} (h : N.natAbs ≤ 1152921504606846976) (hd : 0 < d) (hd2 : d ≤ 1152921504606846976) : Frc (rn N d) (rd N d) := ⟨rd_pos _ hd, Nat.le_trans (rd_le _ _) hd2, Nat.le_trans (rn_le _ _) h, r_cop _ hd⟩
end Go.Proofs.YtdeaaonppokgkaaGreat
namespace Go.Proofs.YtdeaaonppokgkaaGreat
open Go.RowKit Lp
section
variable {p : Pm} {s : Tabl}
theorem wsum_fac (hp : PmOk p) (hs : Feas (tA p) p.m p.R s) {c : Nat → Int} {C : Nat} (hc : ∀ k, k < p.m → (c (s.b k)).natAbs ≤ C) {t : Nat} (ht : t < p.m) : (wsum p.m c s (p.F + t)).natAbs * fac (lpP p) t ≤ 6 * (C * PrR p) := by
  obtain ⟨g, hT⟩ := hs.tab
  have h1 : (sm p.m fun k => c (s.b k) * s.T k (p.F + t) * (fac (lpP p) t : Nat)).natAbs ≤ p.m * (C * PrR p) := by
    refine sm_bound fun k hk => ?_
    have h2 := (form hp).art_le hT hk ht
    rw [Int.natAbs_mul, Int.natAbs_mul, Int.natAbs_natCast, Nat.mul_assoc]
    exact Nat.mul_le_mul (hc k hk) h2
  rw [sm_mul', Int.natAbs_mul, Int.natAbs_natCast] at h1
  exact Nat.le_trans h1 (Nat.mul_le_mul_right _ hp.m)
theorem mulP_fac (hp : PmOk p) (hf : Fit p) (hs : Feas (tA p) p.m p.R s) {t : Nat} (ht : t < p.m) : (mulP p s t).natAbs * fac (lpP p) t ≤ 105553116266496 := by
  have h1 := wsum_fac hp hs (c := cqP p) (C := fcs p 0) (fun k _ => cqP_le p _) ht
  have h2 := hf.all
  have h3 : (mulP p s t).natAbs = (wsum p.m (cqP p) s (p.F + t)).natAbs := abs_sgn ((form hp).unit t ht)
  rw [h3]
  omega
theorem a_fac (p : Pm) {t j : Nat} (hj : j < p.n) : (p.a t j).natAbs ≤ fac (lpP p) t := by rw [fac_is]; exact szs_at _ _ hj
theorem b_fac (p : Pm) (t : Nat) : (p.b t).natAbs ≤ fac (lpP p) t := by
  rw [fac_is]
  show _ ≤ szs (p.a t) (p.b t) p.n
  have := szs_mono (p.a t) (p.b t) (Nat.zero_le p.n)
  rw [szs] at this
  omega
/-- Sums of multipliers that are small enough. -/
theorem ofS_mult {Y f : Nat → Int} {d m : Nat} {F : Nat → Nat} (hm : m ≤ 6) (hd : 0 < d) (hd2 : d ≤ 1152921504606846976) (hf : ∀ t, t < m → (f t).natAbs ≤ F t) (hY : ∀ t, t < m → (Y t).natAbs * F t ≤ 105553116266496) :
    ofS f (fun k => rn (Y k) d) (fun k => rd (Y k) d) m = some (rn (sm m fun i => f i * Y i) d, rd (sm m fun i => f i * Y i) d) := by
  have h1 : ∀ k, k < m → (f k * Y k).natAbs ≤ 105553116266496 := fun k hk => by
    have h2 := hY k hk
    have h3 := Nat.mul_le_mul_left (Y k).natAbs (hf k hk)
    rw [Int.natAbs_mul, Nat.mul_comm]
    omega
  refine ofS_one hd hd2 (fun k hk => Nat.le_trans (h1 k hk) (by decide)) fun k hk => ?_
  have h2 := sm_bound (f := fun i => f i * Y i) (n := k) (B := 105553116266496) fun i hi => h1 i (by omega)
  have h3 : k * 105553116266496 ≤ 6 * 105553116266496 := Nat.mul_le_mul_right _ (by omega)
  omega
theorem fac_pos (p : Pm) (t : Nat) : 0 < fac (lpP p) t := by rw [fac_is]; exact fcs_pos p _
theorem yAll_true {Y : Nat → Int} {d : Nat} (hp : PmOk p) (hd : 0 < d) (hd2 : d ≤ 1152921504606846976) (hY : ∀ t, t < p.m → (Y t).natAbs * fac (lpP p) t ≤ 105553116266496) :
    yAll p (fun k => rn (Y k) d) (fun k => rd (Y k) d) = true ∧ (∀ j, j < p.n → colS p (fun k => rn (Y k) d) (fun k => rd (Y k) d) j = some (rn (sm p.m fun t => p.a t j * Y t) d, rd (sm p.m fun t => p.a t j * Y t) d)) ∧
      ofS p.b (fun k => rn (Y k) d) (fun k => rd (Y k) d) p.m = some (rn (sm p.m fun t => p.b t * Y t) d, rd (sm p.m fun t => p.b t * Y t) d) := by
  have h1 : ∀ j, j < p.n → colS p (fun k => rn (Y k) d) (fun k => rd (Y k) d) j = some (rn (sm p.m fun t => p.a t j * Y t) d, rd (sm p.m fun t => p.a t j * Y t) d) := fun j hj => ofS_mult hp.m hd hd2 (fun t _ => a_fac p hj) hY
  have h2 := ofS_mult (f := p.b) hp.m hd hd2 (fun t _ => b_fac p t) hY
  refine ⟨?_, h1, h2⟩
  unfold yAll
  rw [h2, Bool.and_eq_true, decide_eq_true_eq]
  exact ⟨fun j hj => by rw [h1 j hj]; exact Option.some_ne_none _, rfl⟩
theorem sgB_true {Y e : Nat → Int} {d : Nat} (hp : PmOk p) (hd : 0 < d) (hY : Dual (lpP p) e Y) : sgB p (fun k => rn (Y k) d) = true := decide_eq_true fun t ht => by
  have h := hY.sgn t ht
  have h : (kdOf (p.kd t)).sgn (Y t) := h
  have h1 := rn_pos (N := Y t) hd
  have h2 := rn_neg (Y t) hd
  unfold sgOk
  rcases hp.kd t ht with k | k | k
  · rw [k] at h ⊢
    have h : Y t ≤ 0 := h
    rw [decide_eq_false (fun h3 => by have := h1.1 h3; omega)]
    rfl
  · rw [k] at h ⊢
    have h : 0 ≤ Y t := h
    rw [decide_eq_false (p := rn (Y t) d < 0) (fun h3 => by have := h2.1 h3; omega)]
    rfl
  · rw [k]; rfl
theorem belB_true {Y c : Nat → Int} {d : Nat} (hp : PmOk p) (hd : 0 < d) (hd2 : d ≤ 1152921504606846976) (hB : ∀ t, t < p.m → (Y t).natAbs * fac (lpP p) t ≤ 105553116266496) (hY : Dual (lpP p) (fun j => c j * (d : Nat)) Y) : belB p c (fun k => rn (Y k) d) (fun k => rd (Y k) d) = true := decide_eq_true fun j hj => by
  rw [(yAll_true hp hd hd2 hB).2.1 j hj]
  show decide (rn _ d ≤ c j * (rd _ d : Nat)) = true
  exact decide_eq_true ((q_le hd).2 (hY.col j hj))
/-- **What Solve returns is proved.** -/
theorem chk_true (hp : PmOk p) (hf : Fit p) (hL : Last p s) :
    (xAll p (fun k => rn (xvF p.R s p.m k) s.d.toNat) (fun k => rd (xvF p.R s p.m k) s.d.toNat) && yAll p (fun k => rn (mulP p s k) s.d.toNat) (fun k => rd (mulP p s k) s.d.toNat)) = true ∧
    chkB p (rn (valP p s) s.d.toNat) (rd (valP p s) s.d.toNat) (fun k => rn (xvF p.R s p.m k) s.d.toNat) (fun k => rd (xvF p.R s p.m k) s.d.toNat) (fun k => rn (mulP p s k) s.d.toNat) (fun k => rd (mulP p s k) s.d.toNat) = true := by
  obtain ⟨g, ht⟩ := hL.feas.tab
  have hd0 := last_pos hL
  have hdb := (last_bound hp hf hL).2.1
  have hd : 0 < s.d.toNat := by omega
  have hd2 : s.d.toNat ≤ 1152921504606846976 := by omega
  have hdc : ((s.d.toNat : Nat) : Int) = s.d := by omega
  have hxv : xvF p.R s p.m = xval p.m p.R s := funext fun j => xvF_val (fun i k hi hk => ht.inj hi hk) (Nat.le_refl _) j
  have hX := last_prim hp hL
  have hV := last_pval hp hL
  have hY := last_dual hp hL
  have hXB : ∀ j, (xval p.m p.R s j).natAbs ≤ PrR p := fun j => by
    rw [← hxv]
    exact xvF_le (fun k hk => cell_P hp ht hk (by omega)) (Nat.le_refl _) j
  have hYB := fun t ht => mulP_fac hp hf hL.feas (t := t) ht
  rw [hxv]
  generalize xval p.m p.R s = X at *
  rw [← hdc] at hX hY
  generalize mulP p s = Y at *
  generalize s.d.toNat = d at *
  obtain ⟨y1, y2, y3⟩ := yAll_true hp hd hd2 hYB
  have hrow : ∀ t, t < p.m → rowS p (fun k => rn (X k) d) (fun k => rd (X k) d) t = some (rn (sm p.n fun j => p.a t j * X j) d, rd (sm p.n fun j => p.a t j * X j) d) := fun t ht => by
    have hft := hf.prt ht
    rw [fac_is] at hft
    have hk : ∀ k, k ≤ p.n → (sm k fun i => p.a t i * X i).natAbs ≤ 144115188075855872 := fun k hk => by
      have h1 := sm_abs_le (f := p.a t) (X := X) (B := PrR p) (more := p.b t) (k := k) fun i _ => hXB i
      have h2 := Nat.mul_le_mul_right (PrR p) (szs_mono (p.a t) (p.b t) hk)
      change szs (p.a t) (p.b t) p.n * PrR p ≤ _ at hft
      omega
    refine ofS_one hd hd2 (fun k hk => ?_) fun k hkn => Nat.le_trans (hk k hkn) (by decide)
    have h1 := Nat.mul_le_mul (szs_at (p.a t) (p.b t) hk) (hXB k)
    rw [← Int.natAbs_mul] at h1
    change szs (p.a t) (p.b t) p.n * PrR p ≤ _ at hft
    omega
  have hco : ofS p.co (fun k => rn (X k) d) (fun k => rd (X k) d) p.n = some (rn (valP p s) d, rd (valP p s) d) := by
    rw [← hV]
    have hft := hf.all
    have hk : ∀ k, k ≤ p.n → (sm k fun i => p.co i * X i).natAbs ≤ 144115188075855872 := fun k hk => by
      have h1 := sm_abs_le (f := p.co) (X := X) (B := PrR p) (more := 0) (k := k) fun i _ => hXB i
      have h2 := Nat.mul_le_mul_right (PrR p) (szs_mono p.co 0 hk)
      change szs p.co 0 p.n * PrR p ≤ _ at hft
      omega
    refine ofS_one hd hd2 (fun k hk => ?_) fun k hkn => Nat.le_trans (hk k hkn) (by decide)
    have h1 := Nat.mul_le_mul (szs_at p.co 0 hk) (hXB k)
    rw [← Int.natAbs_mul] at h1
    change szs p.co 0 p.n * PrR p ≤ _ at hft
    omega
  have hx1 : xAll p (fun k => rn (X k) d) (fun k => rd (X k) d) = true := by
    unfold xAll
    rw [hco, Bool.and_eq_true, decide_eq_true_eq]
    exact ⟨fun t ht => by rw [hrow t ht]; exact Option.some_ne_none _, rfl⟩
  have hfe : feaB p (fun k => rn (X k) d) (fun k => rd (X k) d) = true := by
    unfold feaB nnB
    rw [Bool.and_eq_true, decide_eq_true_eq, decide_eq_true_eq]
    refine ⟨fun k hk => (rn_nn hd).2 (hX.nn k hk), fun t ht => ?_⟩
    rw [hrow t ht]
    show rOk p t (_, _) = true
    have hr := hX.row t ht
    have hr : (kdOf (p.kd t)).ok (sm p.n fun j => p.a t j * X j) (p.b t * (d : Nat)) := hr
    generalize (sm p.n fun j => p.a t j * X j) = S at *
    have q1 := q_le (S := S) (b := p.b t) hd
    have q2 := q_ge (S := S) (b := p.b t) hd
    unfold rOk
    rw [Bool.and_eq_true, Bool.and_eq_true, Bool.or_eq_true, Bool.or_eq_true, Bool.or_eq_true, decide_eq_true_eq, decide_eq_true_eq, decide_eq_true_eq, decide_eq_true_eq, decide_eq_true_eq, decide_eq_true_eq]
    simp only
    rcases hp.kd t ht with k | k | k
    · rw [k] at hr ⊢
      have hr : S ≤ p.b t * (d : Nat) := hr
      exact ⟨.inr (q1.2 hr), .inl (by decide), .inl (by decide)⟩
    · rw [k] at hr ⊢
      have hr : p.b t * (d : Nat) ≤ S := hr
      exact ⟨.inl (by decide), .inr (q2.2 hr), .inl (by decide)⟩
    · rw [k] at hr ⊢
      have hr : S = p.b t * (d : Nat) := hr
      exact ⟨.inl (by decide), .inl (by decide), .inr (Int.le_antisymm (q1.2 (by omega)) (q2.2 (by omega)))⟩
  refine ⟨by rw [hx1, y1]; rfl, ?_⟩
  unfold chkB
  have hv2 : (sm p.m fun t => p.b t * Y t) = valP p s := hY.2
  rw [hfe, hco, y3, hv2, belB_true hp hd hd2 hYB hY.1, sgB_true hp hd hY.1]
  simp [isQ]
end
end Go.Proofs.YtdeaaonppokgkaaGreat
namespace Go.Proofs.YtdeaaonppokgkaaGreat
open Go.RowKit Lp
theorem sm_rev (f : Nat → Int) : ∀ n, (sm n fun k => f (n - 1 - k)) = sm n f
  | 0 => rfl
  | n + 1 => by
    rw [show n + 1 = 1 + n by omega, sm_split (fun k => f (1 + n - 1 - k)) 1 n]
    have e1 : (sm n fun k => f (1 + n - 1 - (1 + k))) = sm n f := by
      rw [← sm_rev f n]
      exact sm_congr fun k _ => by rw [show 1 + n - 1 - (1 + k) = n - 1 - k by omega]
    have e2 : (sm 1 fun k => f (1 + n - 1 - k)) = f n := by simp [sm]
    rw [e1, e2, show 1 + n = n + 1 by omega, sm]
    omega
theorem prd_rev (f : Nat → Nat) : ∀ n, (prd n fun k => f (n - 1 - k)) = prd n f
  | 0 => rfl
  | n + 1 => by
    rw [prd_shift]
    have e1 : (prd n fun k => f (n + 1 - 1 - (k + 1))) = prd n f := by
      rw [← prd_rev f n]
      exact prd_congr fun k _ => by rw [show n + 1 - 1 - (k + 1) = n - 1 - k by omega]
    rw [e1, show n + 1 - 1 - 0 = n by omega, prd, Nat.mul_comm]
/-- All factors count. -/
theorem fit_to {p : Pm} (h : Fit p) : fitB p = true := by
  unfold fitB
  rw [Bool.and_eq_true, decide_eq_true_eq, decide_eq_true_eq]
  refine ⟨fun q hq => ?_, ?_⟩
  · rw [Nat.le_div_iff_mul_le (fcs_pos p _)]
    have h1 : ∀ k, q + 1 + k ≤ p.m + 1 → prd (q + 1) (fcs p) ≤ prd (q + 1 + k) (fcs p) := by
      intro k
      induction k with
      | zero => intro _; exact Nat.le_refl _
      | succ k ih =>
        intro hk
        refine Nat.le_trans (ih (by omega)) ?_
        show _ ≤ prd (q + 1 + k) (fcs p) * fcs p (q + 1 + k)
        exact Nat.le_mul_of_pos_right _ (fcs_pos p _)
    have h2 := h1 (p.m + 1 - (q + 1)) (by omega)
    rw [show q + 1 + (p.m + 1 - (q + 1)) = p.m + 1 by omega, prd_all] at h2
    exact Nat.le_trans h2 h.all
  · obtain ⟨i, h1, h2⟩ := mxk_is (fcs p) (p.m + 1)
    rw [h2, Nat.le_div_iff_mul_le (fcs_pos p _), prd_all]
    exact h.each i (by omega)
theorem fit_iff (p : Pm) : fitB p = true ↔ Fit p := ⟨fit_of, fit_to⟩
/- ===== turned round ===== -/
structure Rv (p q : Pm) : Prop where
  n : q.n = p.n
  m : q.m = p.m
  co : ∀ j, j < p.n → q.co j = p.co (p.n - 1 - j)
  ln : ∀ t, t < p.m → q.ln t = p.ln (p.m - 1 - t)
  a : ∀ t k, t < p.m → k < q.ln t → q.a t k = p.a (p.m - 1 - t) (q.ln t - 1 - k)
  kd : ∀ t, t < p.m → q.kd t = p.kd (p.m - 1 - t)
  b : ∀ t, t < p.m → q.b t = p.b (p.m - 1 - t)
section
variable {p q : Pm}
theorem Rv.symm (h : Rv p q) : Rv q p := by
  have hm := h.m
  have hn := h.n
  have back : ∀ t, t < q.m → p.m - 1 - (q.m - 1 - t) = t := fun t ht => by omega
  refine ⟨hn.symm, hm.symm, fun j hj => ?_, fun t ht => ?_, fun t k ht hk => ?_, fun t ht => ?_, fun t ht => ?_⟩
  · rw [h.co _ (by omega), show p.n - 1 - (q.n - 1 - j) = j by omega]
  · rw [h.ln _ (by omega), back t ht]
  · have e := h.ln (q.m - 1 - t) (by omega)
    rw [back t ht] at e
    have e2 := h.a (q.m - 1 - t) (p.ln t - 1 - k) (by omega) (by omega)
    rw [back t ht, e] at e2
    rw [e2, show p.ln t - 1 - (p.ln t - 1 - k) = k by omega]
  · rw [h.kd _ (by omega), back t ht]
  · rw [h.b _ (by omega), back t ht]
theorem Rv.valid (h : Rv p q) (hv : vPm p = true) : vPm q = true := by
  have hm := h.m
  have hn := h.n
  obtain ⟨⟨h1, h2, h3, h4⟩, h5⟩ := (vPm_iff p).1 hv
  refine (vPm_iff q).2 ⟨⟨by omega, by omega, by omega, fun j hj => ?_⟩, fun t ht => (badR_iff q t).2 ?_⟩
  · rw [h.co j (by omega)]
    exact h4 _ (by omega)
  · obtain ⟨b1, b2, b3, b4⟩ := (badR_iff p (p.m - 1 - t)).1 (h5 _ (by omega))
    have e := h.ln t (by omega)
    refine ⟨by omega, fun k hk => ?_, by rw [h.kd t (by omega)]; exact b3, by rw [h.b t (by omega)]; exact b4⟩
    rw [h.a t k (by omega) hk]
    exact b2 _ (by omega)
theorem Rv.sums (h : Rv p q) (hp : PmOk p) (hq : PmOk q) {t : Nat} (ht : t < p.m) (X : Nat → Int) : (sm q.n fun j => q.a t j * X (p.n - 1 - j)) = sm p.n fun j => p.a (p.m - 1 - t) j * X j := by
  have hn := h.n
  have hm := h.m
  rw [← sm_rev (fun j => p.a (p.m - 1 - t) j * X j), hn]
  have e := hq.ln t (by omega)
  exact sm_congr fun j hj => by rw [h.a t j ht (by omega), e, hn]
theorem Rv.cols (h : Rv p q) (hp : PmOk p) (hq : PmOk q) {j : Nat} (hj : j < p.n) (Y : Nat → Int) : (sm q.m fun t => q.a t j * Y (p.m - 1 - t)) = sm p.m fun t => p.a t (p.n - 1 - j) * Y t := by
  have hn := h.n
  have hm := h.m
  rw [← sm_rev (fun t => p.a t (p.n - 1 - j) * Y t), hm]
  exact sm_congr fun t ht => by
    have e := hq.ln t (by omega)
    rw [h.a t j ht (by omega), e, hn]
theorem Rv.prim (h : Rv p q) (hp : PmOk p) (hq : PmOk q) {X : Nat → Int} {d : Int} (hX : Prim (lpP p) X d) : Prim (lpP q) (fun j => X (p.n - 1 - j)) d ∧ pval (lpP q) (fun j => X (p.n - 1 - j)) = pval (lpP p) X := by
  have hn := h.n
  have hm := h.m
  refine ⟨⟨hX.pos, fun j hj => ?_, fun t ht => ?_⟩, ?_⟩
  · have hj : j < q.n := hj
    exact hX.nn _ (by show _ < p.n; omega)
  · have ht : t < q.m := ht
    have r := hX.row (p.m - 1 - t) (by show _ < p.m; omega)
    show (kdOf (q.kd t)).ok (sm q.n fun j => q.a t j * X (p.n - 1 - j)) (q.b t * d)
    rw [h.sums hp hq (by omega), h.kd t (by omega), h.b t (by omega)]
    exact r
  · show (sm q.n fun j => q.co j * X (p.n - 1 - j)) = sm p.n fun j => p.co j * X j
    rw [← sm_rev (fun j => p.co j * X j), hn]
    exact sm_congr fun j hj => by rw [h.co j (by omega)]
theorem Rv.dual (h : Rv p q) (hp : PmOk p) (hq : PmOk q) {Y : Nat → Int} {d : Int} (hY : Dual (lpP p) (fun j => p.co j * d) Y) : Dual (lpP q) (fun j => q.co j * d) (fun t => Y (p.m - 1 - t)) ∧ dval (lpP q) (fun t => Y (p.m - 1 - t)) = dval (lpP p) Y := by
  have hn := h.n
  have hm := h.m
  refine ⟨⟨fun j hj => ?_, fun t ht => ?_⟩, ?_⟩
  · have hj : j < q.n := hj
    have r := hY.col (p.n - 1 - j) (by show _ < p.n; omega)
    show (sm q.m fun t => q.a t j * Y (p.m - 1 - t)) ≤ q.co j * d
    rw [h.cols hp hq (by omega), h.co j (by omega)]
    exact r
  · have ht : t < q.m := ht
    have r := hY.sgn (p.m - 1 - t) (by show _ < p.m; omega)
    show (kdOf (q.kd t)).sgn (Y (p.m - 1 - t))
    rw [h.kd t (by omega)]
    exact r
  · show (sm q.m fun t => q.b t * Y (p.m - 1 - t)) = sm p.m fun t => p.b t * Y t
    rw [← sm_rev (fun t => p.b t * Y t), hm]
    exact sm_congr fun t ht => by rw [h.b t (by omega)]
theorem Rv.fcs0 (h : Rv p q) : fcs q 0 = fcs p 0 := by
  have e1 := szs_sm q.co 0 q.n
  have e2 := szs_sm p.co 0 p.n
  rw [← sm_rev (fun j => ((p.co j).natAbs : Int)), ← h.n] at e2
  have e3 : (sm q.n fun j => ((q.co j).natAbs : Int)) = sm q.n fun k => ((p.co (q.n - 1 - k)).natAbs : Int) := sm_congr fun j hj => by
    rw [h.co j (by have := h.n; omega), h.n]
  show szs q.co 0 q.n = szs p.co 0 p.n
  rw [← h.n]
  omega
theorem Rv.fcs1 (h : Rv p q) (hp : PmOk p) (hq : PmOk q) {t : Nat} (ht : t < p.m) : fcs q (t + 1) = fcs p (p.m - 1 - t + 1) := by
  have hn := h.n
  have hm := h.m
  have hl := hq.ln t (by omega)
  have e1 := szs_sm (q.a t) (q.b t) q.n
  have e2 := szs_sm (p.a (p.m - 1 - t)) (p.b (p.m - 1 - t)) p.n
  rw [← sm_rev (fun j => ((p.a (p.m - 1 - t) j).natAbs : Int)), ← h.n] at e2
  have e3 : (sm q.n fun j => ((q.a t j).natAbs : Int)) = sm q.n fun k => ((p.a (p.m - 1 - t) (q.n - 1 - k)).natAbs : Int) := sm_congr fun j hj => by
    rw [h.a t j ht (by omega), hl]
  have e4 := h.b t ht
  show szs (q.a t) (q.b t) q.n = szs (p.a (p.m - 1 - t)) (p.b (p.m - 1 - t)) p.n
  rw [e4] at e1 ⊢
  rw [← h.n]
  omega
theorem Rv.fit (h : Rv p q) (hp : PmOk p) (hq : PmOk q) (hf : Fit p) : Fit q := by
  have hm := h.m
  have e : PrR q = PrR p := by
    unfold PrR
    rw [← prd_rev (fac (lpP p)), hm]
    exact prd_congr fun t ht => by rw [fac_is, fac_is, h.fcs1 hp hq ht]
  refine ⟨by rw [e, h.fcs0]; exact hf.all, fun t ht => ?_⟩
  rw [e, h.fcs0]
  cases t with
  | zero => rw [h.fcs0]; exact hf.each 0 (by omega)
  | succ t => rw [h.fcs1 hp hq (by omega)]; exact hf.each _ (by omega)
end
/- ===== what Solve finds ===== -/
inductive OutP (p : Pm) : Int → Int → Int → Prop
  | ok (s : Tabl) (hv : vPm p = true) (hf : fitB p = true) (hL : Last p s) : OutP p 0 (rn (valP p s) s.d.toNat) (rd (valP p s) s.d.toNat : Nat)
  | arg (hv : vPm p = false) : OutP p 1 0 0
  | big (hv : vPm p = true) (hf : fitB p = false) : OutP p 5 0 0
  | gap (hv : vPm p = true) (hf : fitB p = true) (Y : Nat → Int) (h : Gap p Y) : OutP p 22 0 0
  | free (hv : vPm p = true) (hf : fitB p = true) (h : Free p) : OutP p 21 0 0
section
variable {p q : Pm}
/- ===== a further row ===== -/
structure Mr (p q : Pm) : Prop where
  n : q.n = p.n
  m : q.m = p.m + 1
  co : ∀ j, q.co j = p.co j
  ln : ∀ t, t < p.m → q.ln t = p.ln t
  a : ∀ t k, t < p.m → q.a t k = p.a t k
  kd : ∀ t, t < p.m → q.kd t = p.kd t
  b : ∀ t, t < p.m → q.b t = p.b t
theorem Mr.valid (h : Mr p q) (hv : vPm q = true) : vPm p = true := by
  have hm := h.m
  have hn := h.n
  obtain ⟨⟨h1, h2, h3, h4⟩, h5⟩ := (vPm_iff q).1 hv
  refine (vPm_iff p).2 ⟨⟨by omega, by omega, by omega, fun j hj => ?_⟩, fun t ht => (badR_iff p t).2 ?_⟩
  · rw [← h.co j]
    exact h4 _ (by omega)
  · obtain ⟨b1, b2, b3, b4⟩ := (badR_iff q t).1 (h5 _ (by omega))
    have e := h.ln t (by omega)
    refine ⟨by omega, fun k hk => ?_, by rw [← h.kd t ht]; exact b3, by rw [← h.b t ht]; exact b4⟩
    rw [← h.a t k ht]
    exact b2 _ (by omega)
theorem Mr.same (h : Mr p q) {t : Nat} (ht : t < p.m + 1) : fcs q t = fcs p t := by
  cases t with
  | zero =>
    show szs q.co 0 q.n = szs p.co 0 p.n
    rw [h.n, show q.co = p.co from funext h.co]
  | succ t =>
    show szs (q.a t) (q.b t) q.n = szs (p.a t) (p.b t) p.n
    rw [h.n, show q.a t = p.a t from funext fun k => h.a t k (by omega), h.b t (by omega)]
theorem Mr.fit (h : Mr p q) (hf : Fit q) : Fit p := by
  have hm := h.m
  have e : PrR p ≤ PrR q := by
    unfold PrR
    rw [hm, prd]
    have : prd p.m (fac (lpP q)) = prd p.m (fac (lpP p)) := prd_congr fun t ht => by rw [fac_is, fac_is, h.same (by omega)]
    rw [this]
    exact Nat.le_mul_of_pos_right _ (by rw [fac_is]; exact fcs_pos _ _)
  have e0 := h.same (t := 0) (by omega)
  have e1 : fcs p 0 * PrR p ≤ fcs q 0 * PrR q := by rw [e0]; exact Nat.mul_le_mul_left _ e
  refine ⟨Nat.le_trans e1 hf.all, fun t ht => ?_⟩
  have := hf.each t (by omega)
  rw [h.same ht] at this
  exact Nat.le_trans (Nat.mul_le_mul_right _ e1) this
theorem Mr.prim (h : Mr p q) {X : Nat → Int} {d : Int} (hX : Prim (lpP q) X d) : Prim (lpP p) X d ∧ pval (lpP p) X = pval (lpP q) X := by
  have hn := h.n
  have hm := h.m
  refine ⟨⟨hX.pos, fun j hj => hX.nn j (by show _ < q.n; have hj : j < p.n := hj; omega), fun t ht => ?_⟩, ?_⟩
  · have ht : t < p.m := ht
    have r := hX.row t (by show _ < q.m; omega)
    have r : (kdOf (q.kd t)).ok (sm q.n fun j => q.a t j * X j) (q.b t * d) := r
    rw [hn, h.kd t ht, h.b t ht, show q.a t = p.a t from funext fun k => h.a t k ht] at r
    exact r
  · show (sm p.n fun j => p.co j * X j) = sm q.n fun j => q.co j * X j
    rw [hn, show q.co = p.co from funext h.co]
theorem sgn_zero (k : Kd) : k.sgn 0 := by
  cases k
  · exact Int.le_refl _
  · exact Int.le_refl _
  · trivial
theorem Mr.dual (h : Mr p q) {e Y : Nat → Int} (hY : Dual (lpP p) e Y) : Dual (lpP q) e (fun t => if t < p.m then Y t else 0) ∧ dval (lpP q) (fun t => if t < p.m then Y t else 0) = dval (lpP p) Y := by
  have hn := h.n
  have hm := h.m
  have key : ∀ f g : Nat → Int, (∀ t, t < p.m → f t = g t) → (sm q.m fun t => f t * if t < p.m then Y t else 0) = sm p.m fun t => g t * Y t := by
    intro f g hfg
    rw [hm, sm, if_neg (by omega), Int.mul_zero, Int.add_zero]
    exact sm_congr fun t ht => by rw [if_pos ht, hfg t ht]
  refine ⟨⟨fun j hj => ?_, fun t ht => ?_⟩, key _ _ h.b⟩
  · have hj : j < q.n := hj
    have r := hY.col j (by show _ < p.n; omega)
    show (sm q.m fun t => q.a t j * if t < p.m then Y t else 0) ≤ e j
    rw [key (fun t => q.a t j) (fun t => p.a t j) fun t ht => h.a t j ht]
    exact r
  · have ht : t < q.m := ht
    show (kdOf (q.kd t)).sgn (if t < p.m then Y t else 0)
    by_cases e : t < p.m
    · rw [if_pos e, h.kd t e]
      exact hY.sgn t e
    · rw [if_neg e]
      exact sgn_zero _
end
end Go.Proofs.YtdeaaonppokgkaaGreat
