/- Plain: programs whose columns and rows are turned round, and programs with a further row. -/
import Derived.Test.YtmefgachdnlaoaaSC
set_option maxRecDepth 100000
set_option linter.unusedSimpArgs false
set_option linter.unusedVariables false
namespace Go.Proofs.Ytmefgachdnlaoaa
open Go.RowKit Lp
theorem sm_rev (f : Nat → Int) : ∀ n, (sm n fun k => f (n - 1 - k)) = sm n f
  | 0 => rfl
  | n + 1 => by
    rw [show n + 1 = 1 + n by omega, sm_split (fun k => f (1 + n - 1 - k)) 1 n]
    have e1 : (sm n fun k => f (1 + n - 1 - (1 + k))) = sm n f := by
      rw [← sm_rev f n]
      exact sm_congr fun k _ => by rw [show 1 + n - 1 - (1 + k) = n - 1 - k by omega]
    have e2 : (sm 1 fun k => f (1 + n - 1 - k)) = f n := by simp [sm]
    rw [e1, e2, show 1 + n = n + 1 by omega, sm]
    omega
theorem prd_rev (f : Nat → Nat) : ∀ n, (prd n fun k => f (n - 1 - k)) = prd n f
  | 0 => rfl
  | n + 1 => by
    rw [prd_shift]
    have e1 : (prd n fun k => f (n + 1 - 1 - (k + 1))) = prd n f := by
      rw [← prd_rev f n]
      exact prd_congr fun k _ => by rw [show n + 1 - 1 - (k + 1) = n - 1 - k by omega]
    rw [e1, show n + 1 - 1 - 0 = n by omega, prd, Nat.mul_comm]
/-- All factors count. -/
theorem fit_to {p : Pm} (h : Fit p) : fitB p = true := by
  unfold fitB
  rw [Bool.and_eq_true, decide_eq_true_eq, decide_eq_true_eq]
  refine ⟨fun q hq => ?_, ?_⟩
  · rw [Nat.le_div_iff_mul_le (fcs_pos p _)]
    have h1 : ∀ k, q + 1 + k ≤ p.m + 1 → prd (q + 1) (fcs p) ≤ prd (q + 1 + k) (fcs p) := by
      intro k
      induction k with
      | zero => intro _; exact Nat.le_refl _
      | succ k ih =>
        intro hk
        refine Nat.le_trans (ih (by omega)) ?_
        show _ ≤ prd (q + 1 + k) (fcs p) * fcs p (q + 1 + k)
        exact Nat.le_mul_of_pos_right _ (fcs_pos p _)
    have h2 := h1 (p.m + 1 - (q + 1)) (by omega)
    rw [show q + 1 + (p.m + 1 - (q + 1)) = p.m + 1 by omega, prd_all] at h2
    exact Nat.le_trans h2 h.all
  · obtain ⟨i, h1, h2⟩ := mxk_is (fcs p) (p.m + 1)
    rw [h2, Nat.le_div_iff_mul_le (fcs_pos p _), prd_all]
    exact h.each i (by omega)
theorem fit_iff (p : Pm) : fitB p = true ↔ Fit p := ⟨fit_of, fit_to⟩
/- ===== turned round ===== -/
structure Rv (p q : Pm) : Prop where
  n : q.n = p.n
  m : q.m = p.m
  co : ∀ j, j < p.n → q.co j = p.co (p.n - 1 - j)
  ln : ∀ t, t < p.m → q.ln t = p.ln (p.m - 1 - t)
  a : ∀ t k, t < p.m → k < q.ln t → q.a t k = p.a (p.m - 1 - t) (q.ln t - 1 - k)
  kd : ∀ t, t < p.m → q.kd t = p.kd (p.m - 1 - t)
  b : ∀ t, t < p.m → q.b t = p.b (p.m - 1 - t)
section
variable {p q : Pm}
theorem Rv.symm (h : Rv p q) : Rv q p := by
  have hm := h.m
  have hn := h.n
  have back : ∀ t, t < q.m → p.m - 1 - (q.m - 1 - t) = t := fun t ht => by omega
  refine ⟨hn.symm, hm.symm, fun j hj => ?_, fun t ht => ?_, fun t k ht hk => ?_, fun t ht => ?_, fun t ht => ?_⟩
  · rw [h.co _ (by omega), show p.n - 1 - (q.n - 1 - j) = j by omega]
  · rw [h.ln _ (by omega), back t ht]
  · have e := h.ln (q.m - 1 - t) (by omega)
    rw [back t ht] at e
    have e2 := h.a (q.m - 1 - t) (p.ln t - 1 - k) (by omega) (by omega)
    rw [back t ht, e] at e2
    rw [e2, show p.ln t - 1 - (p.ln t - 1 - k) = k by omega]
  · rw [h.kd _ (by omega), back t ht]
  · rw [h.b _ (by omega), back t ht]
theorem Rv.valid (h : Rv p q) (hv : vPm p = true) : vPm q = true := by
  have hm := h.m
  have hn := h.n
  obtain ⟨⟨h1, h2, h3, h4⟩, h5⟩ := (vPm_iff p).1 hv
  refine (vPm_iff q).2 ⟨⟨by omega, by omega, by omega, fun j hj => ?_⟩, fun t ht => (badR_iff q t).2 ?_⟩
  · rw [h.co j (by omega)]
    exact h4 _ (by omega)
  · obtain ⟨b1, b2, b3, b4⟩ := (badR_iff p (p.m - 1 - t)).1 (h5 _ (by omega))
    have e := h.ln t (by omega)
    refine ⟨by omega, fun k hk => ?_, by rw [h.kd t (by omega)]; exact b3, by rw [h.b t (by omega)]; exact b4⟩
    rw [h.a t k (by omega) hk]
    exact b2 _ (by omega)
theorem Rv.vEq (h : Rv p q) : vPm q = vPm p := by
  cases e : vPm p with
  | true => exact h.valid e
  | false =>
    cases e2 : vPm q with
    | false => rfl
    | true => rw [h.symm.valid e2] at e; cases e
theorem Rv.sums (h : Rv p q) (hp : PmOk p) (hq : PmOk q) {t : Nat} (ht : t < p.m) (X : Nat → Int) : (sm q.n fun j => q.a t j * X (p.n - 1 - j)) = sm p.n fun j => p.a (p.m - 1 - t) j * X j := by
  have hn := h.n
  have hm := h.m
  rw [← sm_rev (fun j => p.a (p.m - 1 - t) j * X j), hn]
  have e := hq.ln t (by omega)
  exact sm_congr fun j hj => by rw [h.a t j ht (by omega), e, hn]
theorem Rv.cols (h : Rv p q) (hp : PmOk p) (hq : PmOk q) {j : Nat} (hj : j < p.n) (Y : Nat → Int) : (sm q.m fun t => q.a t j * Y (p.m - 1 - t)) = sm p.m fun t => p.a t (p.n - 1 - j) * Y t := by
  have hn := h.n
  have hm := h.m
  rw [← sm_rev (fun t => p.a t (p.n - 1 - j) * Y t), hm]
  exact sm_congr fun t ht => by
    have e := hq.ln t (by omega)
    rw [h.a t j ht (by omega), e, hn]
theorem Rv.prim (h : Rv p q) (hp : PmOk p) (hq : PmOk q) {X : Nat → Int} {d : Int} (hX : Prim (lpP p) X d) : Prim (lpP q) (fun j => X (p.n - 1 - j)) d ∧ pval (lpP q) (fun j => X (p.n - 1 - j)) = pval (lpP p) X := by
  have hn := h.n
  have hm := h.m
  refine ⟨⟨hX.pos, fun j hj => ?_, fun t ht => ?_⟩, ?_⟩
  · have hj : j < q.n := hj
    exact hX.nn _ (by show _ < p.n; omega)
  · have ht : t < q.m := ht
    have r := hX.row (p.m - 1 - t) (by show _ < p.m; omega)
    show (kdOf (q.kd t)).ok (sm q.n fun j => q.a t j * X (p.n - 1 - j)) (q.b t * d)
    rw [h.sums hp hq (by omega), h.kd t (by omega), h.b t (by omega)]
    exact r
  · show (sm q.n fun j => q.co j * X (p.n - 1 - j)) = sm p.n fun j => p.co j * X j
    rw [← sm_rev (fun j => p.co j * X j), hn]
    exact sm_congr fun j hj => by rw [h.co j (by omega)]
theorem Rv.dual (h : Rv p q) (hp : PmOk p) (hq : PmOk q) {Y : Nat → Int} {d : Int} (hY : Dual (lpP p) (fun j => p.co j * d) Y) : Dual (lpP q) (fun j => q.co j * d) (fun t => Y (p.m - 1 - t)) ∧ dval (lpP q) (fun t => Y (p.m - 1 - t)) = dval (lpP p) Y := by
  have hn := h.n
  have hm := h.m
  refine ⟨⟨fun j hj => ?_, fun t ht => ?_⟩, ?_⟩
  · have hj : j < q.n := hj
    have r := hY.col (p.n - 1 - j) (by show _ < p.n; omega)
    show (sm q.m fun t => q.a t j * Y (p.m - 1 - t)) ≤ q.co j * d
    rw [h.cols hp hq (by omega), h.co j (by omega)]
    exact r
  · have ht : t < q.m := ht
    have r := hY.sgn (p.m - 1 - t) (by show _ < p.m; omega)
    show (kdOf (q.kd t)).sgn (Y (p.m - 1 - t))
    rw [h.kd t (by omega)]
    exact r
  · show (sm q.m fun t => q.b t * Y (p.m - 1 - t)) = sm p.m fun t => p.b t * Y t
    rw [← sm_rev (fun t => p.b t * Y t), hm]
    exact sm_congr fun t ht => by rw [h.b t (by omega)]
theorem Rv.fcs0 (h : Rv p q) : fcs q 0 = fcs p 0 := by
  have e1 := szs_sm q.co 0 q.n
  have e2 := szs_sm p.co 0 p.n
  rw [← sm_rev (fun j => ((p.co j).natAbs : Int)), ← h.n] at e2
  have e3 : (sm q.n fun j => ((q.co j).natAbs : Int)) = sm q.n fun k => ((p.co (q.n - 1 - k)).natAbs : Int) := sm_congr fun j hj => by
    rw [h.co j (by have := h.n; omega), h.n]
  show szs q.co 0 q.n = szs p.co 0 p.n
  rw [← h.n]
  omega
theorem Rv.fcs1 (h : Rv p q) (hp : PmOk p) (hq : PmOk q) {t : Nat} (ht : t < p.m) : fcs q (t + 1) = fcs p (p.m - 1 - t + 1) := by
  have hn := h.n
  have hm := h.m
  have hl := hq.ln t (by omega)
  have e1 := szs_sm (q.a t) (q.b t) q.n
  have e2 := szs_sm (p.a (p.m - 1 - t)) (p.b (p.m - 1 - t)) p.n
  rw [← sm_rev (fun j => ((p.a (p.m - 1 - t) j).natAbs : Int)), ← h.n] at e2
  have e3 : (sm q.n fun j => ((q.a t j).natAbs : Int)) = sm q.n fun k => ((p.a (p.m - 1 - t) (q.n - 1 - k)).natAbs : Int) := sm_congr fun j hj => by
    rw [h.a t j ht (by omega), hl]
  have e4 := h.b t ht
  show szs (q.a t) (q.b t) q.n = szs (p.a (p.m - 1 - t)) (p.b (p.m - 1 - t)) p.n
  rw [e4] at e1 ⊢
  rw [← h.n]
  omega
theorem Rv.fit (h : Rv p q) (hp : PmOk p) (hq : PmOk q) (hf : Fit p) : Fit q := by
  have hm := h.m
  have e : PrR q = PrR p := by
    unfold PrR
    rw [← prd_rev (fac (lpP p)), hm]
    exact prd_congr fun t ht => by rw [fac_is, fac_is, h.fcs1 hp hq ht]
  refine ⟨by rw [e, h.fcs0]; exact hf.all, fun t ht => ?_⟩
  rw [e, h.fcs0]
  cases t with
  | zero => rw [h.fcs0]; exact hf.each 0 (by omega)
  | succ t => rw [h.fcs1 hp hq (by omega)]; exact hf.each _ (by omega)
theorem Rv.fEq (h : Rv p q) (hp : PmOk p) (hq : PmOk q) : fitB q = fitB p := by
  cases e : fitB p with
  | true => exact fit_to (h.fit hp hq (fit_of e))
  | false =>
    cases e2 : fitB q with
    | false => rfl
    | true => rw [fit_to (h.symm.fit hq hp (fit_of e2))] at e; cases e
end
/- ===== what Solve finds ===== -/
inductive OutP (p : Pm) : Int → Int → Int → Prop
  | ok (s : Tabl) (hv : vPm p = true) (hf : fitB p = true) (hL : Last p s) : OutP p 0 (rn (valP p s) s.d.toNat) (rd (valP p s) s.d.toNat : Nat)
  | arg (hv : vPm p = false) : OutP p 1 0 0
  | big (hv : vPm p = true) (hf : fitB p = false) : OutP p 5 0 0
  | gap (hv : vPm p = true) (hf : fitB p = true) (Y : Nat → Int) (h : Gap p Y) : OutP p 22 0 0
  | free (hv : vPm p = true) (hf : fitB p = true) (h : Free p) : OutP p 21 0 0
section
variable {p q : Pm}
theorem out_rv (h : Rv p q) (hip : vPm p = true → PmOk p) (hiq : vPm q = true → PmOk q) {e N D e' N' D' : Int} (h1 : OutP p e N D) (h2 : OutP q e' N' D') : e' = e ∧ N' = N ∧ D' = D := by
  have hv := h.vEq
  cases h1 with
  | arg h1 =>
    rw [h1] at hv
    cases h2 with
    | arg _ => exact ⟨rfl, rfl, rfl⟩
    | ok s h3 => rw [h3] at hv; cases hv
    | big h3 => rw [h3] at hv; cases hv
    | gap h3 => rw [h3] at hv; cases hv
    | free h3 => rw [h3] at hv; cases hv
  | big h1 hf =>
    rw [h1] at hv
    have hF := h.fEq (hip h1) (hiq hv)
    rw [hf] at hF
    cases h2 with
    | arg h3 => rw [h3] at hv; cases hv
    | ok s h3 h4 => rw [h4] at hF; cases hF
    | big h3 => exact ⟨rfl, rfl, rfl⟩
    | gap h3 h4 => rw [h4] at hF; cases hF
    | free h3 h4 => rw [h4] at hF; cases hF
  | ok s h1 hf hL =>
    rw [h1] at hv
    have hp := hip h1
    have hq := hiq hv
    have hF := h.fEq hp hq
    rw [hf] at hF
    obtain ⟨x1, x2⟩ := h.prim hp hq (last_prim hp hL)
    obtain ⟨y1, y2⟩ := h.dual hp hq (last_dual hp hL).1
    rw [last_pval hp hL] at x2
    rw [(last_dual hp hL).2] at y2
    have hd := last_pos hL
    cases h2 with
    | arg h3 => rw [h3] at hv; cases hv
    | big h3 h4 => rw [h4] at hF; cases hF
    | ok s' h3 h4 hL' =>
      have hd' := last_pos hL'
      have u := val_uniq hq hL' x1 hd y1 (v := valP p s) (by rw [x2]) y2
      have r := r_same (N := valP q s') (D := s'.d.toNat) (N' := valP p s) (D' := s.d.toNat) (by omega) (by omega) (by
        rw [show ((s.d.toNat : Nat) : Int) = s.d by omega, show ((s'.d.toNat : Nat) : Int) = s'.d by omega]
        exact u)
      exact ⟨rfl, r.1, by rw [r.2]⟩
    | gap h3 h4 Y hG => exact (farkas_no x1 hG.1 hG.2).elim
    | free h3 h4 hW =>
      obtain ⟨_, W, hW⟩ := hW
      exact (ray_no hW hd y1).elim
  | gap h1 hf Y hG =>
    rw [h1] at hv
    have hp := hip h1
    have hq := hiq hv
    have hF := h.fEq hp hq
    rw [hf] at hF
    cases h2 with
    | arg h3 => rw [h3] at hv; cases hv
    | big h3 h4 => rw [h4] at hF; cases hF
    | ok s' h3 h4 hL' => exact (farkas_no (h.symm.prim hq hp (last_prim hq hL')).1 hG.1 hG.2).elim
    | gap _ _ _ _ => exact ⟨rfl, rfl, rfl⟩
    | free h3 h4 hW =>
      obtain ⟨⟨X, d, hX⟩, _⟩ := hW
      exact (farkas_no (h.symm.prim hq hp hX).1 hG.1 hG.2).elim
  | free h1 hf hW =>
    rw [h1] at hv
    have hp := hip h1
    have hq := hiq hv
    have hF := h.fEq hp hq
    rw [hf] at hF
    obtain ⟨⟨X, d, hX⟩, W, hW⟩ := hW
    cases h2 with
    | arg h3 => rw [h3] at hv; cases hv
    | big h3 h4 => rw [h4] at hF; cases hF
    | ok s' h3 h4 hL' => exact (ray_no hW (last_pos hL') (h.symm.dual hq hp (last_dual hq hL').1).1).elim
    | gap _ _ Y hG => exact (farkas_no (h.prim hp hq hX).1 hG.1 hG.2).elim
    | free _ _ _ => exact ⟨rfl, rfl, rfl⟩
/- ===== a further row ===== -/
structure Mr (p q : Pm) : Prop where
  n : q.n = p.n
  m : q.m = p.m + 1
  co : ∀ j, q.co j = p.co j
  ln : ∀ t, t < p.m → q.ln t = p.ln t
  a : ∀ t k, t < p.m → q.a t k = p.a t k
  kd : ∀ t, t < p.m → q.kd t = p.kd t
  b : ∀ t, t < p.m → q.b t = p.b t
theorem Mr.valid (h : Mr p q) (hv : vPm q = true) : vPm p = true := by
  have hm := h.m
  have hn := h.n
  obtain ⟨⟨h1, h2, h3, h4⟩, h5⟩ := (vPm_iff q).1 hv
  refine (vPm_iff p).2 ⟨⟨by omega, by omega, by omega, fun j hj => ?_⟩, fun t ht => (badR_iff p t).2 ?_⟩
  · rw [← h.co j]
    exact h4 _ (by omega)
  · obtain ⟨b1, b2, b3, b4⟩ := (badR_iff q t).1 (h5 _ (by omega))
    have e := h.ln t (by omega)
    refine ⟨by omega, fun k hk => ?_, by rw [← h.kd t ht]; exact b3, by rw [← h.b t ht]; exact b4⟩
    rw [← h.a t k ht]
    exact b2 _ (by omega)
theorem Mr.same (h : Mr p q) {t : Nat} (ht : t < p.m + 1) : fcs q t = fcs p t := by
  cases t with
  | zero =>
    show szs q.co 0 q.n = szs p.co 0 p.n
    rw [h.n, show q.co = p.co from funext h.co]
  | succ t =>
    show szs (q.a t) (q.b t) q.n = szs (p.a t) (p.b t) p.n
    rw [h.n, show q.a t = p.a t from funext fun k => h.a t k (by omega), h.b t (by omega)]
theorem Mr.fit (h : Mr p q) (hf : Fit q) : Fit p := by
  have hm := h.m
  have e : PrR p ≤ PrR q := by
    unfold PrR
    rw [hm, prd]
    have : prd p.m (fac (lpP q)) = prd p.m (fac (lpP p)) := prd_congr fun t ht => by rw [fac_is, fac_is, h.same (by omega)]
    rw [this]
    exact Nat.le_mul_of_pos_right _ (by rw [fac_is]; exact fcs_pos _ _)
  have e0 := h.same (t := 0) (by omega)
  have e1 : fcs p 0 * PrR p ≤ fcs q 0 * PrR q := by rw [e0]; exact Nat.mul_le_mul_left _ e
  refine ⟨Nat.le_trans e1 hf.all, fun t ht => ?_⟩
  have := hf.each t (by omega)
  rw [h.same ht] at this
  exact Nat.le_trans (Nat.mul_le_mul_right _ e1) this
theorem Mr.prim (h : Mr p q) {X : Nat → Int} {d : Int} (hX : Prim (lpP q) X d) : Prim (lpP p) X d ∧ pval (lpP p) X = pval (lpP q) X := by
  have hn := h.n
  have hm := h.m
  refine ⟨⟨hX.pos, fun j hj => hX.nn j (by show _ < q.n; have hj : j < p.n := hj; omega), fun t ht => ?_⟩, ?_⟩
  · have ht : t < p.m := ht
    have r := hX.row t (by show _ < q.m; omega)
    have r : (kdOf (q.kd t)).ok (sm q.n fun j => q.a t j * X j) (q.b t * d) := r
    rw [hn, h.kd t ht, h.b t ht, show q.a t = p.a t from funext fun k => h.a t k ht] at r
    exact r
  · show (sm p.n fun j => p.co j * X j) = sm q.n fun j => q.co j * X j
    rw [hn, show q.co = p.co from funext h.co]
theorem sgn_zero (k : Kd) : k.sgn 0 := by
  cases k
  · exact Int.le_refl _
  · exact Int.le_refl _
  · trivial
theorem Mr.dual (h : Mr p q) {e Y : Nat → Int} (hY : Dual (lpP p) e Y) : Dual (lpP q) e (fun t => if t < p.m then Y t else 0) ∧ dval (lpP q) (fun t => if t < p.m then Y t else 0) = dval (lpP p) Y := by
  have hn := h.n
  have hm := h.m
  have key : ∀ f g : Nat → Int, (∀ t, t < p.m → f t = g t) → (sm q.m fun t => f t * if t < p.m then Y t else 0) = sm p.m fun t => g t * Y t := by
    intro f g hfg
    rw [hm, sm, if_neg (by omega), Int.mul_zero, Int.add_zero]
    exact sm_congr fun t ht => by rw [if_pos ht, hfg t ht]
  refine ⟨⟨fun j hj => ?_, fun t ht => ?_⟩, key _ _ h.b⟩
  · have hj : j < q.n := hj
    have r := hY.col j (by show _ < p.n; omega)
    show (sm q.m fun t => q.a t j * if t < p.m then Y t else 0) ≤ e j
    rw [key (fun t => q.a t j) (fun t => p.a t j) fun t ht => h.a t j ht]
    exact r
  · have ht : t < q.m := ht
    show (kdOf (q.kd t)).sgn (if t < p.m then Y t else 0)
    by_cases e : t < p.m
    · rw [if_pos e, h.kd t e]
      exact hY.sgn t e
    · rw [if_neg e]
      exact sgn_zero _
/-- The value does not go down. -/
theorem more_ok (h : Mr p q) (hp : PmOk p) (hq : PmOk q) {s s' : Tabl} (hL : Last p s) (hL' : Last q s') : rn (valP p s) s.d.toNat * (rd (valP q s') s'.d.toNat : Nat) ≤ rn (valP q s') s'.d.toNat * (rd (valP p s) s.d.toNat : Nat) := by
  have hd := last_pos hL
  have hd' := last_pos hL'
  obtain ⟨x1, x2⟩ := h.prim (last_prim hq hL')
  have w1 := weak_dual x1 (last_dual hp hL).1
  rw [(last_dual hp hL).2, x2, last_pval hq hL'] at w1
  have v1 := r_val (valP p s) s.d.toNat
  have v2 := r_val (valP q s') s'.d.toNat
  rw [show ((s.d.toNat : Nat) : Int) = s.d by omega] at v1
  rw [show ((s'.d.toNat : Nat) : Int) = s'.d by omega] at v2
  generalize rn (valP p s) s.d.toNat = a at *
  generalize rd (valP p s) s.d.toNat = b at *
  generalize rn (valP q s') s'.d.toNat = a' at *
  generalize rd (valP q s') s'.d.toNat = b' at *
  generalize valP p s = V at *
  generalize valP q s' = V' at *
  generalize s.d = d at *
  generalize s'.d = d' at *
  refine Int.le_of_mul_le_mul_right ?_ (Int.mul_pos hd hd')
  have m1 := Int.mul_le_mul_of_nonneg_right w1 (Int.mul_nonneg (show (0 : Int) ≤ (b : Nat) by omega) (show (0 : Int) ≤ (b' : Nat) by omega))
  have e1 : a * (b' : Int) * (d * d') = a * d * (b' : Int) * d' := by grind
  have e2 : a' * (b : Int) * (d * d') = a' * d' * (b : Int) * d := by grind
  rw [e1, e2, v1, v2]
  have e3 : V * d' * ((b : Int) * (b' : Int)) = V * (b : Int) * (b' : Int) * d' := by grind
  have e4 : V' * d * ((b : Int) * (b' : Int)) = V' * (b' : Int) * (b : Int) * d := by grind
  rw [← e3, ← e4]
  exact m1
theorem out_more (h : Mr p q) (hip : vPm p = true → PmOk p) (hiq : vPm q = true → PmOk q) {e N D e' N' D' : Int} (h1 : OutP p e N D) (h2 : OutP q e' N' D') : e' = 1 ∨ e' = 5 ∨ (e = 22 ∧ e' = 22) ∨ (e = 0 ∧ e' = 22) ∨ (e = 21 ∧ (e' = 0 ∨ e' = 21 ∨ e' = 22)) ∨ (e = 0 ∧ e' = 0) := by
  cases h2 with
  | arg _ => exact .inl rfl
  | big _ _ => exact .inr (.inl rfl)
  | ok s' h3 h4 hL' =>
    have hv := h.valid h3
    have hf := fit_to (h.fit (fit_of h4))
    have hq := hiq h3
    cases h1 with
    | arg h5 => rw [hv] at h5; cases h5
    | big _ h5 => rw [hf] at h5; cases h5
    | ok _ _ _ _ => exact .inr (.inr (.inr (.inr (.inr ⟨rfl, rfl⟩))))
    | gap _ _ Y hG => exact (farkas_no (h.prim (last_prim hq hL')).1 hG.1 hG.2).elim
    | free _ _ _ => exact .inr (.inr (.inr (.inr (.inl ⟨rfl, .inl rfl⟩))))
  | gap h3 h4 Y hG =>
    have hv := h.valid h3
    have hf := fit_to (h.fit (fit_of h4))
    cases h1 with
    | arg h5 => rw [hv] at h5; cases h5
    | big _ h5 => rw [hf] at h5; cases h5
    | ok _ _ _ _ => exact .inr (.inr (.inr (.inl ⟨rfl, rfl⟩)))
    | gap _ _ Y hG => exact .inr (.inr (.inl ⟨rfl, rfl⟩))
    | free _ _ _ => exact .inr (.inr (.inr (.inr (.inl ⟨rfl, .inr (.inr rfl)⟩))))
  | free h3 h4 hW =>
    obtain ⟨⟨X, d, hX⟩, W, hW⟩ := hW
    have hv := h.valid h3
    have hf := fit_to (h.fit (fit_of h4))
    have hp := hip hv
    cases h1 with
    | arg h5 => rw [hv] at h5; cases h5
    | big _ h5 => rw [hf] at h5; cases h5
    | ok s _ _ hL =>
      have y := (h.dual (last_dual hp hL).1).1
      have y : Dual (lpP q) (fun j => q.co j * s.d) (fun t => if t < p.m then mulP p s t else 0) := by rw [show q.co = p.co from funext h.co]; exact y
      exact (ray_no hW (last_pos hL) y).elim
    | gap _ _ Y hG => exact (farkas_no (h.prim hX).1 hG.1 hG.2).elim
    | free _ _ _ => exact .inr (.inr (.inr (.inr (.inl ⟨rfl, .inr (.inl rfl)⟩))))
end
end Go.Proofs.Ytmefgachdnlaoaa
