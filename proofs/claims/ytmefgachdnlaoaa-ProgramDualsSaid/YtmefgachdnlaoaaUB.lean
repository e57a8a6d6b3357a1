/- Plain: a program and its dual. -/
import Derived.Test.YtmefgachdnlaoaaUA
import Derived.Test.YtmefgachdnlaoaaSB
set_option maxRecDepth 100000
set_option linter.unusedSimpArgs false
set_option linter.unusedVariables false
namespace Go.Proofs.Ytmefgachdnlaoaa
open Go.RowKit Lp
/-- The dual, as it lies. -/
def dualP (p : Pm) (oc : Nat) (cps : Nat → Nat) (h : p.n ≤ big + 2) : Pm := ⟨dL p, oc, dC p, p.n, p.n, dF p, fun j => bif decide (j < p.n) then dL p else 0, cps, fun _ => 1, p.co, big + 2, h⟩
section
variable (p : Pm) (oc : Nat) (cps : Nat → Nat) (h : p.n ≤ big + 2)
@[push_cast] theorem dualP_n : (dualP p oc cps h).n = dL p := rfl
@[push_cast] theorem dualP_nc : (dualP p oc cps h).nc = oc := rfl
@[push_cast] theorem dualP_co : (dualP p oc cps h).co = dC p := rfl
@[push_cast] theorem dualP_m : (dualP p oc cps h).m = p.n := rfl
@[push_cast] theorem dualP_mc : (dualP p oc cps h).mc = p.n := rfl
@[push_cast] theorem dualP_a : (dualP p oc cps h).a = dF p := rfl
@[push_cast] theorem dualP_ln (j : Nat) : (dualP p oc cps h).ln j = bif decide (j < p.n) then dL p else 0 := rfl
@[push_cast] theorem dualP_cp : (dualP p oc cps h).cp = cps := rfl
@[push_cast] theorem dualP_kd (j : Nat) : (dualP p oc cps h).kd j = 1 := rfl
@[push_cast] theorem dualP_b : (dualP p oc cps h).b = p.co := rfl
@[push_cast] theorem dualP_fz : (dualP p oc cps h).fz = big + 2 := rfl
end
theorem dblock (p : Pm) {q : Nat} : ∀ {m : Nat}, q < (dcol p m).length → ∃ t i, t < m ∧ i < (dst p t).length ∧ q = (dcol p t).length + i
  | 0, h => absurd h (Nat.not_lt_zero _)
  | m + 1, h => by
    by_cases e : q < (dcol p m).length
    · obtain ⟨t, i, h1, h2⟩ := dblock p e
      exact ⟨t, i, by omega, h2⟩
    · rw [dcol, List.length_append] at h
      exact ⟨m, q - (dcol p m).length, by omega, by omega, by omega⟩
/-- What stands in a block. -/
theorem dst_at (p : Pm) {t i : Nat} (h : i < (dst p t).length) : ∃ s : Int, ix (dst p t) i = (s, t) ∧ ((s = 1 ∧ p.kd t ≠ 1) ∨ (s = -1 ∧ p.kd t ≠ 2)) := by
  by_cases k1 : p.kd t = 1
  · have hd : dst p t = [(-1, t)] := by unfold dst; rw [if_pos k1, if_neg (by omega)]; rfl
    rw [hd] at h ⊢
    obtain rfl : i = 0 := by simp at h; omega
    exact ⟨-1, rfl, .inr ⟨rfl, by omega⟩⟩
  · by_cases k2 : p.kd t = 2
    · have hd : dst p t = [(1, t)] := by unfold dst; rw [if_neg k1, if_pos k2]; rfl
      rw [hd] at h ⊢
      obtain rfl : i = 0 := by simp at h; omega
      exact ⟨1, rfl, .inl ⟨rfl, k1⟩⟩
    · have hd : dst p t = [(1, t), (-1, t)] := by unfold dst; rw [if_neg k1, if_neg k2]; rfl
      rw [hd] at h ⊢
      have h : i < 2 := h
      rcases (by omega : i = 0 ∨ i = 1) with rfl | rfl
      · exact ⟨1, rfl, .inl ⟨rfl, k1⟩⟩
      · exact ⟨-1, rfl, .inr ⟨rfl, k2⟩⟩
theorem dq_at (p : Pm) {q : Nat} (hq : q < dL p) : ∃ (t : Nat) (s : Int), t < p.m ∧ ix (dcol p p.m) q = (s, t) ∧ ((s = 1 ∧ p.kd t ≠ 1) ∨ (s = -1 ∧ p.kd t ≠ 2)) := by
  obtain ⟨t, i, ht, hi, rfl⟩ := dblock p hq
  obtain ⟨s, h1, h2⟩ := dst_at p hi
  exact ⟨t, s, ht, by rw [dl_at p ht hi, h1], h2⟩
theorem bg_le (p : Pm) : ∀ {m : Nat}, bgB p m = false → ∀ t, t < m → -1048576 ≤ p.b t ∧ p.b t ≤ 1048576
  | m + 1, h, t, ht => by
    rw [bgB, Bool.or_eq_false_iff, Bool.or_eq_false_iff, decide_eq_false_iff_not, decide_eq_false_iff_not] at h
    by_cases e : t = m
    · subst e; omega
    · exact bg_le p h.1 t (by omega)
theorem dL_pos {p : Pm} (hm : 0 < p.m) : 0 < dL p := by
  obtain ⟨r, hr⟩ := dcol_pre p (t := 1) (m := p.m) hm
  unfold dL
  rw [hr, List.length_append]
  have : 0 < (dcol p 1).length := by
    show 0 < ([] ++ dst p 0).length
    rw [List.nil_append]
    unfold dst
    by_cases k1 : p.kd 0 = 1
    · rw [k1]; decide
    · rw [if_neg k1]; simp
  omega
theorem dual_v {p : Pm} {oc : Nat} {cps : Nat → Nat} {hb2 : p.n ≤ big + 2} (hp : PmOk p) (hm : 0 < p.m) (h : ¬ (6 < p.n ∨ 12 < dL p)) (hb : bgB p p.m = false) : vPm (dualP p oc cps hb2) = true := by
  rw [vPm_iff]
  refine ⟨⟨dL_pos hm, by show dL p ≤ 12; omega, by show p.n ≤ 6; omega, fun q hq => ?_⟩, fun j hj => ?_⟩
  · rw [far_iff]
    obtain ⟨t, s, ht, h1, h2⟩ := dq_at p hq
    have h3 := bg_le p hb t ht
    show -1048576 ≤ -(ix (dcol p p.m) q).1 * p.b (ix (dcol p p.m) q).2 ∧ -(ix (dcol p p.m) q).1 * p.b (ix (dcol p p.m) q).2 ≤ 1048576
    rw [h1]
    rcases h2 with ⟨rfl, _⟩ | ⟨rfl, _⟩ <;> simp only <;> omega
  · have hj : j < p.n := hj
    have hlj : (dualP p oc cps hb2).ln j = dL p := by
      show (bif decide (j < p.n) then dL p else 0) = dL p
      rw [decide_eq_true hj]; rfl
    rw [badR_iff]
    refine ⟨hlj, fun q hq => ?_, by show (1 : Int) ≤ 1 ∧ (1 : Int) ≤ 3; decide, ?_⟩
    · rw [hlj] at hq
      obtain ⟨t, s, ht, h1, h2⟩ := dq_at p hq
      have h3 := hp.a t j ht hj
      show -1048576 ≤ (ix (dcol p p.m) q).1 * p.a (ix (dcol p p.m) q).2 j ∧ (ix (dcol p p.m) q).1 * p.a (ix (dcol p p.m) q).2 j ≤ 1048576
      rw [h1]
      rcases h2 with ⟨rfl, _⟩ | ⟨rfl, _⟩ <;> simp only <;> omega
    · have := hp.co j hj
      show -1073741824 ≤ p.co j ∧ p.co j ≤ 1073741824
      omega
theorem sm_blocks (p : Pm) (F : Nat → Int) : ∀ m, sm (dcol p m).length F = sm m fun t => sm (dst p t).length fun i => F ((dcol p t).length + i)
  | 0 => rfl
  | m + 1 => by rw [dcol, List.length_append, sm_split, sm_blocks p F m, sm]
/-- Multipliers of a program out of a point of its dual. -/
def dY (p : Pm) (X : Nat → Int) (t : Nat) : Int := sm (dst p t).length fun i => (ix (dst p t) i).1 * X ((dcol p t).length + i)
theorem sum_dY (p : Pm) (X g : Nat → Int) : (sm (dL p) fun q => (ix (dcol p p.m) q).1 * g (ix (dcol p p.m) q).2 * X q) = sm p.m fun t => g t * dY p X t := by
  unfold dL
  rw [sm_blocks]
  refine sm_congr fun t ht => ?_
  unfold dY
  rw [← sm_mul]
  refine sm_congr fun i hi => ?_
  obtain ⟨s, h1, _⟩ := dst_at p hi
  rw [dl_at p ht hi, h1]
  show s * g t * _ = g t * (s * _)
  grind
section
variable {p : Pm} {oc : Nat} {cps : Nat → Nat} {hb2 : p.n ≤ big + 2}
theorem dY_sgn (hp : PmOk p) {X : Nat → Int} (hX : ∀ q, q < dL p → 0 ≤ X q) {t : Nat} (ht : t < p.m) : (kdOf (p.kd t)).sgn (dY p X t) := by
  have hlen : ∀ i, i < (dst p t).length → (dcol p t).length + i < dL p := fun i hi => by
    obtain ⟨r, hr⟩ := dcol_pre p (t := t + 1) (m := p.m) ht
    unfold dL
    rw [hr, dcol, List.length_append, List.length_append]
    omega
  rcases hp.kd t ht with k | k | k
  · rw [k]
    show dY p X t ≤ 0
    have : 0 ≤ sm (dst p t).length fun i => -((ix (dst p t) i).1 * X ((dcol p t).length + i)) := sm_nonneg fun i hi => by
      obtain ⟨s, h1, h2⟩ := dst_at p hi
      have h3 := hX _ (hlen i hi)
      rw [h1]
      rcases h2 with ⟨rfl, h4⟩ | ⟨rfl, _⟩
      · exact absurd k h4
      · simp only; omega
    rw [sm_neg] at this
    unfold dY
    omega
  · rw [k]
    show 0 ≤ dY p X t
    refine sm_nonneg fun i hi => ?_
    obtain ⟨s, h1, h2⟩ := dst_at p hi
    have h3 := hX _ (hlen i hi)
    rw [h1]
    rcases h2 with ⟨rfl, _⟩ | ⟨rfl, h4⟩
    · simp only; omega
    · exact absurd k h4
  · rw [k]; trivial
/-- A point of the dual gives multipliers. -/
theorem dual_of_prim (hp : PmOk p) {X : Nat → Int} {d : Int} (hX : Prim (lpP (dualP p oc cps hb2)) X d) : Dual (lpP p) (fun j => p.co j * d) (dY p X) ∧ dval (lpP p) (dY p X) = -pval (lpP (dualP p oc cps hb2)) X := by
  refine ⟨⟨fun j hj => ?_, fun t ht => dY_sgn hp hX.nn ht⟩, ?_⟩
  · have h := hX.row j hj
    have h : (sm (dL p) fun q => dF p j q * X q) ≤ p.co j * d := h
    have e := sum_dY p X (fun t => p.a t j)
    show (sm p.m fun t => p.a t j * dY p X t) ≤ p.co j * d
    rw [← e]
    exact h
  · have e := sum_dY p X p.b
    show (sm p.m fun t => p.b t * dY p X t) = -sm (dL p) fun q => dC p q * X q
    rw [← e, ← sm_neg]
    refine sm_congr fun q _ => ?_
    unfold dC
    rw [Int.neg_mul, Int.neg_mul, Int.neg_neg]
/-- A point of the dual out of multipliers. -/
def dX (p : Pm) (Y : Nat → Int) (q : Nat) : Int := let x := ix (dcol p p.m) q; if p.kd x.2 = 3 then (if 0 ≤ x.1 * Y x.2 then x.1 * Y x.2 else 0) else x.1 * Y x.2
theorem dY_dX (hp : PmOk p) (Y : Nat → Int) {t : Nat} (ht : t < p.m) : dY p (dX p Y) t = Y t := by
  have hat : ∀ i, i < (dst p t).length → dX p Y ((dcol p t).length + i) = (if p.kd t = 3 then (if 0 ≤ (ix (dst p t) i).1 * Y t then (ix (dst p t) i).1 * Y t else 0) else (ix (dst p t) i).1 * Y t) := fun i hi => by
    obtain ⟨s, h1, _⟩ := dst_at p hi
    unfold dX
    rw [dl_at p ht hi, h1]
  have e1 : dY p (dX p Y) t = sm (dst p t).length fun i => (ix (dst p t) i).1 * (if p.kd t = 3 then (if 0 ≤ (ix (dst p t) i).1 * Y t then (ix (dst p t) i).1 * Y t else 0) else (ix (dst p t) i).1 * Y t) := sm_congr fun i hi => by rw [hat i hi]
  rw [e1]
  rcases hp.kd t ht with k | k | k
  · have hd : dst p t = [(-1, t)] := by unfold dst; rw [k]; rfl
    rw [hd, k]
    show 0 + (-1) * (-1 * Y t) = Y t
    omega
  · have hd : dst p t = [(1, t)] := by unfold dst; rw [k]; rfl
    rw [hd, k]
    show 0 + 1 * (1 * Y t) = Y t
    omega
  · have hd : dst p t = [(1, t), (-1, t)] := by unfold dst; rw [k]; rfl
    rw [hd, k]
    show 0 + 1 * (if 0 ≤ 1 * Y t then 1 * Y t else 0) + (-1) * (if 0 ≤ -1 * Y t then -1 * Y t else 0) = Y t
    split <;> split <;> omega
theorem prim_of_dual (hp : PmOk p) {Y : Nat → Int} {d : Int} (hd : 0 < d) (hY : Dual (lpP p) (fun j => p.co j * d) Y) : Prim (lpP (dualP p oc cps hb2)) (dX p Y) d ∧ pval (lpP (dualP p oc cps hb2)) (dX p Y) = -dval (lpP p) Y := by
  refine ⟨⟨hd, fun q hq => ?_, fun j hj => ?_⟩, ?_⟩
  · obtain ⟨t, s, ht, h1, h2⟩ := dq_at p hq
    have h3 := hY.sgn t ht
    have h3 : (kdOf (p.kd t)).sgn (Y t) := h3
    unfold dX
    rw [h1]
    simp only
    rcases hp.kd t ht with k | k | k
    · rw [k] at h3 h2 ⊢
      have h3 : Y t ≤ 0 := h3
      rcases h2 with ⟨rfl, h4⟩ | ⟨rfl, _⟩
      · exact absurd rfl h4
      · rw [if_neg (by decide)]; omega
    · rw [k] at h3 h2 ⊢
      have h3 : 0 ≤ Y t := h3
      rcases h2 with ⟨rfl, _⟩ | ⟨rfl, h4⟩
      · rw [if_neg (by decide)]; omega
      · exact absurd rfl h4
    · rw [if_pos k]
      split <;> omega
  · show (sm (dL p) fun q => dF p j q * dX p Y q) ≤ p.co j * d
    have e := sum_dY p (dX p Y) (fun t => p.a t j)
    have e2 : (sm p.m fun t => p.a t j * dY p (dX p Y) t) = sm p.m fun t => p.a t j * Y t := sm_congr fun t ht => by rw [dY_dX hp Y ht]
    rw [e2] at e
    have h := hY.col j hj
    have h : (sm p.m fun t => p.a t j * Y t) ≤ p.co j * d := h
    rw [← e] at h
    exact h
  · have e := sum_dY p (dX p Y) p.b
    have e2 : (sm p.m fun t => p.b t * dY p (dX p Y) t) = sm p.m fun t => p.b t * Y t := sm_congr fun t ht => by rw [dY_dX hp Y ht]
    rw [e2] at e
    show (sm (dL p) fun q => dC p q * dX p Y q) = -sm p.m fun t => p.b t * Y t
    rw [← e, ← sm_neg]
    refine sm_congr fun q _ => ?_
    unfold dC
    rw [Int.neg_mul, Int.neg_mul]
/-- A row of a program is met, by its dual's columns. -/
theorem col_iff (hp : PmOk p) {X : Nat → Int} {d : Int} : (∀ t, t < p.m → (kdOf (p.kd t)).ok (sm p.n fun j => p.a t j * X j) (p.b t * d)) ↔ ∀ q, q < dL p → (sm p.n fun j => dF p j q * -X j) ≤ dC p q * d := by
  have key : ∀ (t : Nat) (s : Int), (sm p.n fun j => s * p.a t j * -X j) = -(s * sm p.n fun j => p.a t j * X j) := fun t s => by
    rw [← sm_mul, ← sm_neg]
    exact sm_congr fun j _ => by grind
  constructor
  · intro h q hq
    obtain ⟨t, s, ht, h1, h2⟩ := dq_at p hq
    have h3 := h t ht
    unfold dF dC
    rw [h1]
    simp only
    rw [key]
    generalize (sm p.n fun j => p.a t j * X j) = S at *
    have hbd : -s * p.b t * d = -(s * (p.b t * d)) := by grind
    rw [hbd]
    generalize p.b t * d = B at *
    rcases hp.kd t ht with k | k | k <;> rw [k] at h3 h2
    · have h3 : S ≤ B := h3
      rcases h2 with ⟨rfl, h4⟩ | ⟨rfl, _⟩
      · exact absurd rfl h4
      · omega
    · have h3 : B ≤ S := h3
      rcases h2 with ⟨rfl, _⟩ | ⟨rfl, h4⟩
      · omega
      · exact absurd rfl h4
    · have h3 : S = B := h3
      rcases h2 with ⟨rfl, _⟩ | ⟨rfl, _⟩ <;> omega
  · intro h t ht
    have at_ : ∀ i, i < (dst p t).length → -((ix (dst p t) i).1 * sm p.n fun j => p.a t j * X j) ≤ -((ix (dst p t) i).1 * (p.b t * d)) := fun i hi => by
      have hq : (dcol p t).length + i < dL p := by
        obtain ⟨r, hr⟩ := dcol_pre p (t := t + 1) (m := p.m) ht
        unfold dL
        rw [hr, dcol, List.length_append, List.length_append]
        omega
      have h1 := h _ hq
      obtain ⟨s, h2, _⟩ := dst_at p hi
      unfold dF dC at h1
      rw [dl_at p ht hi, h2] at h1
      simp only at h1
      rw [key] at h1
      rw [h2]
      have hbd : -s * p.b t * d = -(s * (p.b t * d)) := by grind
      rw [hbd] at h1
      exact h1
    generalize (sm p.n fun j => p.a t j * X j) = S at *
    generalize p.b t * d = B at *
    rcases hp.kd t ht with k | k | k
    · have hd : dst p t = [(-1, t)] := by unfold dst; rw [k]; rfl
      rw [hd] at at_
      have h0 := at_ 0 (by simp)
      have h0 : -(-1 * S) ≤ -(-1 * B) := h0
      rw [k]
      show S ≤ B
      omega
    · have hd : dst p t = [(1, t)] := by unfold dst; rw [k]; rfl
      rw [hd] at at_
      have h0 := at_ 0 (by simp)
      have h0 : -(1 * S) ≤ -(1 * B) := h0
      rw [k]
      show B ≤ S
      omega
    · have hd : dst p t = [(1, t), (-1, t)] := by unfold dst; rw [k]; rfl
      rw [hd] at at_
      have h0 := at_ 0 (by simp)
      have h1 := at_ 1 (by simp)
      have h0 : -(1 * S) ≤ -(1 * B) := h0
      have h1 : -(-1 * S) ≤ -(-1 * B) := h1
      rw [k]
      show S = B
      omega
/-- A point of a program gives multipliers of its dual. -/
theorem dual_dual (hp : PmOk p) {X : Nat → Int} {d : Int} (hX : Prim (lpP p) X d) : Dual (lpP (dualP p oc cps hb2)) (fun q => dC p q * d) (fun j => -X j) ∧ dval (lpP (dualP p oc cps hb2)) (fun j => -X j) = -pval (lpP p) X := by
  refine ⟨⟨fun q hq => (col_iff hp).1 (fun t ht => hX.row t ht) q hq, fun j hj => ?_⟩, ?_⟩
  · have := hX.nn j hj
    show -X j ≤ 0
    omega
  · show (sm p.n fun j => p.co j * -X j) = -sm p.n fun j => p.co j * X j
    rw [← sm_neg]
    exact sm_congr fun j _ => by grind
/-- Multipliers of the dual give a point. -/
theorem prim_dual (hp : PmOk p) {Z : Nat → Int} {d : Int} (hd : 0 < d) (hZ : Dual (lpP (dualP p oc cps hb2)) (fun q => dC p q * d) Z) : Prim (lpP p) (fun j => -Z j) d := by
  refine ⟨hd, fun j hj => ?_, (col_iff hp).2 fun q hq => ?_⟩
  · have h := hZ.sgn j hj
    have h : Z j ≤ 0 := h
    show 0 ≤ -Z j
    omega
  · have h := hZ.col q hq
    have h : (sm p.n fun j => dF p j q * Z j) ≤ dC p q * d := h
    have e : (sm p.n fun j => dF p j q * -(-Z j)) = sm p.n fun j => dF p j q * Z j := sm_congr fun j _ => by rw [Int.neg_neg]
    rw [e]
    exact h
end
end Go.Proofs.Ytmefgachdnlaoaa
