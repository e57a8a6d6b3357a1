/- Plain: the answers of Solve are proved, those of Farkas refute. -/
import Derived.Test.YtmefgachdnlaoaaSD
set_option maxRecDepth 100000
set_option linter.unusedSimpArgs false
set_option linter.unusedVariables false
namespace Go.Proofs.Ytmefgachdnlaoaa
open Go.RowKit Lp
section
variable {p : Pm} {s : Tabl}
theorem wsum_fac (hp : PmOk p) (hs : Feas (tA p) p.m p.R s) {c : Nat → Int} {C : Nat} (hc : ∀ k, k < p.m → (c (s.b k)).natAbs ≤ C) {t : Nat} (ht : t < p.m) : (wsum p.m c s (p.F + t)).natAbs * fac (lpP p) t ≤ 6 * (C * PrR p) := by
  obtain ⟨g, hT⟩ := hs.tab
  have h1 : (sm p.m fun k => c (s.b k) * s.T k (p.F + t) * (fac (lpP p) t : Nat)).natAbs ≤ p.m * (C * PrR p) := by
    refine sm_bound fun k hk => ?_
    have h2 := (form hp).art_le hT hk ht
    rw [Int.natAbs_mul, Int.natAbs_mul, Int.natAbs_natCast, Nat.mul_assoc]
    exact Nat.mul_le_mul (hc k hk) h2
  rw [sm_mul', Int.natAbs_mul, Int.natAbs_natCast] at h1
  exact Nat.le_trans h1 (Nat.mul_le_mul_right _ hp.m)
theorem mulP_fac (hp : PmOk p) (hf : Fit p) (hs : Feas (tA p) p.m p.R s) {t : Nat} (ht : t < p.m) : (mulP p s t).natAbs * fac (lpP p) t ≤ 105553116266496 := by
  have h1 := wsum_fac hp hs (c := cqP p) (C := fcs p 0) (fun k _ => cqP_le p _) ht
  have h2 := hf.all
  have h3 : (mulP p s t).natAbs = (wsum p.m (cqP p) s (p.F + t)).natAbs := abs_sgn ((form hp).unit t ht)
  rw [h3]
  omega
theorem gapY_fac (hp : PmOk p) (hf : Fit p) (hs : Feas (tA p) p.m p.R s) {t : Nat} (ht : t < p.m) : (gapY p s t).natAbs * fac (lpP p) t ≤ 105553116266496 := by
  have h1 := wsum_fac hp hs (c := artC p.F p.m) (C := 1) (fun k _ => by unfold artC; split <;> decide) ht
  have h2 := hf.pr
  have h3 : (gapY p s t).natAbs = (wsum p.m (artC p.F p.m) s (p.F + t)).natAbs := abs_sgn ((form hp).unit t ht)
  rw [h3]
  omega
theorem a_fac (p : Pm) {t j : Nat} (hj : j < p.n) : (p.a t j).natAbs ≤ fac (lpP p) t := by rw [fac_is]; exact szs_at _ _ hj
theorem b_fac (p : Pm) (t : Nat) : (p.b t).natAbs ≤ fac (lpP p) t := by
  rw [fac_is]
  show _ ≤ szs (p.a t) (p.b t) p.n
  have := szs_mono (p.a t) (p.b t) (Nat.zero_le p.n)
  rw [szs] at this
  omega
/-- Sums of multipliers that are small enough. -/
theorem ofS_mult {Y f : Nat → Int} {d m : Nat} {F : Nat → Nat} (hm : m ≤ 6) (hd : 0 < d) (hd2 : d ≤ 1152921504606846976) (hf : ∀ t, t < m → (f t).natAbs ≤ F t) (hY : ∀ t, t < m → (Y t).natAbs * F t ≤ 105553116266496) :
    ofS f (fun k => rn (Y k) d) (fun k => rd (Y k) d) m = some (rn (sm m fun i => f i * Y i) d, rd (sm m fun i => f i * Y i) d) := by
  have h1 : ∀ k, k < m → (f k * Y k).natAbs ≤ 105553116266496 := fun k hk => by
    have h2 := hY k hk
    have h3 := Nat.mul_le_mul_left (Y k).natAbs (hf k hk)
    rw [Int.natAbs_mul, Nat.mul_comm]
    omega
  refine ofS_one hd hd2 (fun k hk => Nat.le_trans (h1 k hk) (by decide)) fun k hk => ?_
  have h2 := sm_bound (f := fun i => f i * Y i) (n := k) (B := 105553116266496) fun i hi => h1 i (by omega)
  have h3 : k * 105553116266496 ≤ 6 * 105553116266496 := Nat.mul_le_mul_right _ (by omega)
  omega
theorem fac_pos (p : Pm) (t : Nat) : 0 < fac (lpP p) t := by rw [fac_is]; exact fcs_pos p _
theorem mult_small {Y : Nat → Int} (hY : ∀ t, t < p.m → (Y t).natAbs * fac (lpP p) t ≤ 105553116266496) : ∀ t, t < p.m → (Y t).natAbs ≤ 1152921504606846976 := fun t ht => by
  have h1 := hY t ht
  have h2 := Nat.mul_le_mul_left (Y t).natAbs (fac_pos p t)
  omega
theorem yAll_true {Y : Nat → Int} {d : Nat} (hp : PmOk p) (hd : 0 < d) (hd2 : d ≤ 1152921504606846976) (hY : ∀ t, t < p.m → (Y t).natAbs * fac (lpP p) t ≤ 105553116266496) :
    yAll p (fun k => rn (Y k) d) (fun k => rd (Y k) d) = true ∧ (∀ j, j < p.n → colS p (fun k => rn (Y k) d) (fun k => rd (Y k) d) j = some (rn (sm p.m fun t => p.a t j * Y t) d, rd (sm p.m fun t => p.a t j * Y t) d)) ∧
      ofS p.b (fun k => rn (Y k) d) (fun k => rd (Y k) d) p.m = some (rn (sm p.m fun t => p.b t * Y t) d, rd (sm p.m fun t => p.b t * Y t) d) := by
  have h1 : ∀ j, j < p.n → colS p (fun k => rn (Y k) d) (fun k => rd (Y k) d) j = some (rn (sm p.m fun t => p.a t j * Y t) d, rd (sm p.m fun t => p.a t j * Y t) d) := fun j hj => ofS_mult hp.m hd hd2 (fun t _ => a_fac p hj) hY
  have h2 := ofS_mult (f := p.b) hp.m hd hd2 (fun t _ => b_fac p t) hY
  refine ⟨?_, h1, h2⟩
  unfold yAll
  rw [h2, Bool.and_eq_true, decide_eq_true_eq]
  exact ⟨fun j hj => by rw [h1 j hj]; exact Option.some_ne_none _, rfl⟩
theorem sgB_true {Y e : Nat → Int} {d : Nat} (hp : PmOk p) (hd : 0 < d) (hY : Dual (lpP p) e Y) : sgB p (fun k => rn (Y k) d) = true := decide_eq_true fun t ht => by
  have h := hY.sgn t ht
  have h : (kdOf (p.kd t)).sgn (Y t) := h
  have h1 := rn_pos (N := Y t) hd
  have h2 := rn_neg (Y t) hd
  unfold sgOk
  rcases hp.kd t ht with k | k | k
  · rw [k] at h ⊢
    have h : Y t ≤ 0 := h
    rw [decide_eq_false (fun h3 => by have := h1.1 h3; omega)]
    rfl
  · rw [k] at h ⊢
    have h : 0 ≤ Y t := h
    rw [decide_eq_false (p := rn (Y t) d < 0) (fun h3 => by have := h2.1 h3; omega)]
    rfl
  · rw [k]; rfl
theorem belB_true {Y c : Nat → Int} {d : Nat} (hp : PmOk p) (hd : 0 < d) (hd2 : d ≤ 1152921504606846976) (hB : ∀ t, t < p.m → (Y t).natAbs * fac (lpP p) t ≤ 105553116266496) (hY : Dual (lpP p) (fun j => c j * (d : Nat)) Y) : belB p c (fun k => rn (Y k) d) (fun k => rd (Y k) d) = true := decide_eq_true fun j hj => by
  rw [(yAll_true hp hd hd2 hB).2.1 j hj]
  show decide (rn _ d ≤ c j * (rd _ d : Nat)) = true
  exact decide_eq_true ((q_le hd).2 (hY.col j hj))
/-- **What Solve returns is proved.** -/
theorem chk_true (hp : PmOk p) (hf : Fit p) (hL : Last p s) :
    (xAll p (fun k => rn (xvF p.R s p.m k) s.d.toNat) (fun k => rd (xvF p.R s p.m k) s.d.toNat) && yAll p (fun k => rn (mulP p s k) s.d.toNat) (fun k => rd (mulP p s k) s.d.toNat)) = true ∧
    chkB p (rn (valP p s) s.d.toNat) (rd (valP p s) s.d.toNat) (fun k => rn (xvF p.R s p.m k) s.d.toNat) (fun k => rd (xvF p.R s p.m k) s.d.toNat) (fun k => rn (mulP p s k) s.d.toNat) (fun k => rd (mulP p s k) s.d.toNat) = true := by
  obtain ⟨g, ht⟩ := hL.feas.tab
  have hd0 := last_pos hL
  have hdb := (last_bound hp hf hL).2.1
  have hd : 0 < s.d.toNat := by omega
  have hd2 : s.d.toNat ≤ 1152921504606846976 := by omega
  have hdc : ((s.d.toNat : Nat) : Int) = s.d := by omega
  have hxv : xvF p.R s p.m = xval p.m p.R s := funext fun j => xvF_val (fun i k hi hk => ht.inj hi hk) (Nat.le_refl _) j
  have hX := last_prim hp hL
  have hV := last_pval hp hL
  have hY := last_dual hp hL
  have hXB : ∀ j, (xval p.m p.R s j).natAbs ≤ PrR p := fun j => by
    rw [← hxv]
    exact xvF_le (fun k hk => cell_P hp ht hk (by omega)) (Nat.le_refl _) j
  have hYB := fun t ht => mulP_fac hp hf hL.feas (t := t) ht
  rw [hxv]
  generalize xval p.m p.R s = X at *
  rw [← hdc] at hX hY
  generalize mulP p s = Y at *
  generalize s.d.toNat = d at *
  obtain ⟨y1, y2, y3⟩ := yAll_true hp hd hd2 hYB
  have hrow : ∀ t, t < p.m → rowS p (fun k => rn (X k) d) (fun k => rd (X k) d) t = some (rn (sm p.n fun j => p.a t j * X j) d, rd (sm p.n fun j => p.a t j * X j) d) := fun t ht => by
    have hft := hf.prt ht
    rw [fac_is] at hft
    have hk : ∀ k, k ≤ p.n → (sm k fun i => p.a t i * X i).natAbs ≤ 144115188075855872 := fun k hk => by
      have h1 := sm_abs_le (f := p.a t) (X := X) (B := PrR p) (more := p.b t) (k := k) fun i _ => hXB i
      have h2 := Nat.mul_le_mul_right (PrR p) (szs_mono (p.a t) (p.b t) hk)
      change szs (p.a t) (p.b t) p.n * PrR p ≤ _ at hft
      omega
    refine ofS_one hd hd2 (fun k hk => ?_) fun k hkn => Nat.le_trans (hk k hkn) (by decide)
    have h1 := Nat.mul_le_mul (szs_at (p.a t) (p.b t) hk) (hXB k)
    rw [← Int.natAbs_mul] at h1
    change szs (p.a t) (p.b t) p.n * PrR p ≤ _ at hft
    omega
  have hco : ofS p.co (fun k => rn (X k) d) (fun k => rd (X k) d) p.n = some (rn (valP p s) d, rd (valP p s) d) := by
    rw [← hV]
    have hft := hf.all
    have hk : ∀ k, k ≤ p.n → (sm k fun i => p.co i * X i).natAbs ≤ 144115188075855872 := fun k hk => by
      have h1 := sm_abs_le (f := p.co) (X := X) (B := PrR p) (more := 0) (k := k) fun i _ => hXB i
      have h2 := Nat.mul_le_mul_right (PrR p) (szs_mono p.co 0 hk)
      change szs p.co 0 p.n * PrR p ≤ _ at hft
      omega
    refine ofS_one hd hd2 (fun k hk => ?_) fun k hkn => Nat.le_trans (hk k hkn) (by decide)
    have h1 := Nat.mul_le_mul (szs_at p.co 0 hk) (hXB k)
    rw [← Int.natAbs_mul] at h1
    change szs p.co 0 p.n * PrR p ≤ _ at hft
    omega
  have hx1 : xAll p (fun k => rn (X k) d) (fun k => rd (X k) d) = true := by
    unfold xAll
    rw [hco, Bool.and_eq_true, decide_eq_true_eq]
    exact ⟨fun t ht => by rw [hrow t ht]; exact Option.some_ne_none _, rfl⟩
  have hfe : feaB p (fun k => rn (X k) d) (fun k => rd (X k) d) = true := by
    unfold feaB nnB
    rw [Bool.and_eq_true, decide_eq_true_eq, decide_eq_true_eq]
    refine ⟨fun k hk => (rn_nn hd).2 (hX.nn k hk), fun t ht => ?_⟩
    rw [hrow t ht]
    show rOk p t (_, _) = true
    have hr := hX.row t ht
    have hr : (kdOf (p.kd t)).ok (sm p.n fun j => p.a t j * X j) (p.b t * (d : Nat)) := hr
    generalize (sm p.n fun j => p.a t j * X j) = S at *
    have q1 := q_le (S := S) (b := p.b t) hd
    have q2 := q_ge (S := S) (b := p.b t) hd
    unfold rOk
    rw [Bool.and_eq_true, Bool.and_eq_true, Bool.or_eq_true, Bool.or_eq_true, Bool.or_eq_true, decide_eq_true_eq, decide_eq_true_eq, decide_eq_true_eq, decide_eq_true_eq, decide_eq_true_eq, decide_eq_true_eq]
    simp only
    rcases hp.kd t ht with k | k | k
    · rw [k] at hr ⊢
      have hr : S ≤ p.b t * (d : Nat) := hr
      exact ⟨.inr (q1.2 hr), .inl (by decide), .inl (by decide)⟩
    · rw [k] at hr ⊢
      have hr : p.b t * (d : Nat) ≤ S := hr
      exact ⟨.inl (by decide), .inr (q2.2 hr), .inl (by decide)⟩
    · rw [k] at hr ⊢
      have hr : S = p.b t * (d : Nat) := hr
      exact ⟨.inl (by decide), .inl (by decide), .inr (Int.le_antisymm (q1.2 (by omega)) (q2.2 (by omega)))⟩
  refine ⟨by rw [hx1, y1]; rfl, ?_⟩
  unfold chkB
  have hv2 : (sm p.m fun t => p.b t * Y t) = valP p s := hY.2
  rw [hfe, hco, y3, hv2, belB_true hp hd hd2 hYB hY.1, sgB_true hp hd hY.1]
  simp [isQ]
/-- **What Farkas returns refutes.** -/
theorem ref_true (hp : PmOk p) (hf : Fit p) (hs : Feas (tA p) p.m p.R s) (hG : Gap p (gapY p s)) :
    yAll p (fun k => rn (gapY p s k) s.d.toNat) (fun k => rd (gapY p s k) s.d.toNat) = true ∧ refB p (fun k => rn (gapY p s k) s.d.toNat) (fun k => rd (gapY p s k) s.d.toNat) = true := by
  have hS : Sml (qF p 0 0 0 0) s := sml_of hp hf hs
  have hdd := hS.d
  have hd : 0 < s.d.toNat := by omega
  have hd2 : s.d.toNat ≤ 1152921504606846976 := by omega
  have hYB := fun t ht => gapY_fac hp hf hs (t := t) ht
  generalize gapY p s = Y at *
  generalize s.d.toNat = d at *
  obtain ⟨y1, y2, y3⟩ := yAll_true hp hd hd2 hYB
  have hG1 : Dual (lpP p) (fun j => (fun _ => 0) j * (d : Nat)) Y := ⟨fun j hj => by show _ ≤ 0 * _; rw [Int.zero_mul]; exact hG.1.col j hj, hG.1.sgn⟩
  have hb := belB_true hp hd hd2 hYB hG1
  refine ⟨y1, ?_⟩
  unfold belB at hb
  unfold refB
  rw [hb, y3, sgB_true hp hd hG.1]
  have h2 : 0 < sm p.m fun t => p.b t * Y t := hG.2
  show (true && (decide (0 < rn _ d) && true)) = true
  rw [decide_eq_true ((rn_pos hd).2 h2)]
  rfl
end
end Go.Proofs.Ytmefgachdnlaoaa
