/- Plain facts: the bounds of orders reversed, longer, and scaled. -/
import Derived.Test.YtdeaaonppokgkaaMA9
set_option maxRecDepth 100000
set_option linter.unusedSimpArgs false
set_option linter.unusedVariables false
namespace Go.Proofs.Ytdeaaonppokgkaa.Pat
open Go.RowKit
theorem totL_eq (l : List Pc) : totL l = (l.map fun p => p.len * p.cnt).sum := by unfold totL totT; rw [List.take_length]
theorem larg_take (lim : Int) {l : List Pc} : ∀ k, k ≤ l.length → largT lim l k = ((l.take k).map fun p => if lim < 2 * p.len then p.cnt else 0).sum
  | 0, _ => by simp [largT]
  | k + 1, h => by
    rw [take_snoc (show k < l.length by omega), List.map_append, List.sum_append, ← larg_take lim k (by omega)]
    simp only [largT, List.map_cons, List.map_nil, List.sum_cons, List.sum_nil]
    split <;> omega
theorem larg_eq (lim : Int) (l : List Pc) : largT lim l l.length = (l.map fun p => if lim < 2 * p.len then p.cnt else 0).sum := by
  rw [larg_take lim _ (Nat.le_refl _), List.take_length]
theorem dualT_take (lim k : Int) {l : List Pc} : ∀ j, j ≤ l.length → dualT lim k l j = ((l.take j).map (dualI lim k)).sum
  | 0, _ => by simp [dualT]
  | j + 1, h => by
    rw [take_snoc (show j < l.length by omega), List.map_append, List.sum_append, ← dualT_take lim k j (by omega)]
    simp only [dualT, List.map_cons, List.map_nil, List.sum_cons, List.sum_nil]
    omega
theorem dualT_eq (lim k : Int) (l : List Pc) : dualT lim k l l.length = (l.map (dualI lim k)).sum := by
  rw [dualT_take lim k _ (Nat.le_refl _), List.take_length]
theorem sum_permI {x y : List Int} (h : x.Perm y) : x.sum = y.sum := by
  induction h with
  | nil => rfl
  | cons a _ ih => rw [List.sum_cons, List.sum_cons, ih]
  | swap a b l => simp only [List.sum_cons]; omega
  | trans _ _ h1 h2 => exact h1.trans h2
theorem mat_rev (lim : Int) (l : List Pc) : matR lim l.reverse = matR lim l := by
  unfold matR
  rw [totL_eq, totL_eq, sum_permI ((List.reverse_perm l).map _)]
theorem larg_rev (lim : Int) (l : List Pc) : largT lim l.reverse l.reverse.length = largT lim l l.length := by
  rw [larg_eq, larg_eq, sum_permI ((List.reverse_perm l).map _)]
theorem dual_rev (lim k : Int) (l : List Pc) : dualR lim k l.reverse = dualR lim k l := by
  unfold dualR
  rw [dualT_eq, dualT_eq, sum_permI ((List.reverse_perm l).map _)]
theorem best_congr {lim lim' : Int} {l l' : List Pc} (h1 : matR lim' l' = matR lim l) (h2 : largT lim' l' l'.length = largT lim l l.length) (h3 : ∀ k : Int, 1 ≤ k → k ≤ 100 → dualR lim' k l' = dualR lim k l) : bestR lim' l' = bestR lim l := by
  have : ∀ k, k ≤ 10 → bestT lim' l' k = bestT lim l k := by
    intro k hk
    induction k with
    | zero => unfold bestT; rw [h1, h2]
    | succ k ih => unfold bestT; rw [ih (by omega), h3 _ (by omega) (by omega)]
  exact this 10 (Nat.le_refl _)
theorem best_rev (lim : Int) (l : List Pc) : bestR lim l.reverse = bestR lim l := best_congr (mat_rev lim l) (larg_rev lim l) fun k _ _ => dual_rev lim k l
theorem upR_mono {a b m : Int} (h0 : 0 ≤ a) (h : a ≤ b) (hm : 1 ≤ m) : upR a m ≤ upR b m := by
  unfold upR
  rw [Int.tdiv_eq_ediv_of_nonneg (by omega), Int.tdiv_eq_ediv_of_nonneg (by omega)]
  exact Int.ediv_le_ediv (by omega) (by omega)
theorem mat_app {lim : Int} {l : List Pc} {x : Pc} (ho : orderB l = true) (h1 : 1 ≤ lim) (hx : 0 ≤ x.len * x.cnt) : matR lim l ≤ matR lim (l ++ [x]) := by
  have h0 := (totL_range ho).1
  unfold matR
  refine upR_mono h0 ?_ h1
  rw [totL_eq, totL_eq, List.map_append, List.sum_append]
  simp only [List.map_cons, List.map_nil, List.sum_cons, List.sum_nil]
  omega
theorem larg_app {lim : Int} {l : List Pc} {x : Pc} (hx : 0 ≤ x.cnt) : largT lim l l.length ≤ largT lim (l ++ [x]) (l ++ [x]).length := by
  rw [larg_eq, larg_eq, List.map_append, List.sum_append]
  simp only [List.map_cons, List.map_nil, List.sum_cons, List.sum_nil]
  split <;> omega
theorem dual_app {lim k : Int} {l : List Pc} {x : Pc} (ho : orderB l = true) (h1 : 1 ≤ lim) (hk : 1 ≤ k ∧ k ≤ 100) (hx : 1 ≤ x.len ∧ x.len ≤ 1048576 ∧ 1 ≤ x.cnt ∧ x.cnt ≤ 1000000) : dualR lim k l ≤ dualR lim k (l ++ [x]) := by
  have h0 := (dualT_range h1 hk ho l.length (Nat.le_refl _)).1
  have h2 := (dualI_range (dual_bounds h1 hk hx)).1
  unfold dualR
  refine upR_mono h0 ?_ (kk_range hk).1
  rw [dualT_eq, dualT_eq, List.map_append, List.sum_append]
  simp only [List.map_cons, List.map_nil, List.sum_cons, List.sum_nil]
  omega
theorem best_app {lim : Int} {l : List Pc} {x : Pc} (ho : orderB l = true) (h1 : 1 ≤ lim) (hx : 1 ≤ x.len ∧ x.len ≤ 1048576 ∧ 1 ≤ x.cnt ∧ x.cnt ≤ 1000000) : bestR lim l ≤ bestR lim (l ++ [x]) := by
  have : ∀ k, k ≤ 10 → bestT lim l k ≤ bestT lim (l ++ [x]) k := by
    intro k hk
    induction k with
    | zero =>
      have a := mat_app (x := x) ho h1 (Int.mul_nonneg (by omega) (by omega))
      have b := larg_app (lim := lim) (l := l) (x := x) (by omega)
      unfold bestT; omega
    | succ k ih =>
      have a := ih (by omega)
      have b := dual_app (k := (k + 1 : Nat)) ho h1 (by omega) hx
      unfold bestT; omega
  exact this 10 (Nat.le_refl _)
/-- All lengths multiplied. -/
def scP (t : Int) (l : List Pc) : List Pc := l.map fun p => ⟨p.len * t, p.cnt⟩
theorem scP_len (t : Int) (l : List Pc) : (scP t l).length = l.length := by simp [scP]
theorem scP_ix {t : Int} {l : List Pc} {k : Nat} (h : k < l.length) : ix (scP t l) k = ⟨(ix l k).len * t, (ix l k).cnt⟩ := by
  rw [ix_eq (by rw [scP_len]; exact h), ix_eq h]; simp [scP]
theorem upR_scale {n m t : Int} (h0 : 0 ≤ n) (hm : 1 ≤ m) (ht : 1 ≤ t) : upR (n * t) (m * t) = upR n m := by
  have hmt : 1 ≤ m * t := by have := Int.mul_le_mul hm ht (by decide) (by omega); omega
  have hn : 0 ≤ n * t := Int.mul_nonneg h0 (by omega)
  unfold upR
  rw [Int.tdiv_eq_ediv_of_nonneg (by omega), Int.tdiv_eq_ediv_of_nonneg (by omega)]
  have e1 := Int.mul_ediv_add_emod (n + m - 1) m
  have e2 := Int.emod_nonneg (n + m - 1) (show m ≠ 0 by omega)
  have e3 := Int.emod_lt_of_pos (n + m - 1) (show 0 < m by omega)
  generalize (n + m - 1) / m = q at *
  generalize (n + m - 1) % m = r at *
  have hr : 0 ≤ r * t := Int.mul_nonneg e2 (by omega)
  have hr2 : r * t ≤ (m - 1) * t := Int.mul_le_mul_of_nonneg_right (by omega) (by omega)
  have e4 : n * t + m * t - 1 = m * t * q + (r * t + t - 1) := by
    have : (m * q + r) * t = (n + m - 1) * t := by rw [e1]
    simp only [Int.add_mul, Int.sub_mul, Int.one_mul] at this
    rw [show m * t * q = m * q * t by rw [Int.mul_assoc, Int.mul_comm t q, ← Int.mul_assoc]]
    omega
  rw [e4, Int.add_comm, Int.add_mul_ediv_left _ _ (by omega), Int.ediv_eq_zero_of_lt (by omega) (by rw [Int.sub_mul] at hr2; omega)]
  omega
theorem totL_scale (t : Int) (l : List Pc) : totL (scP t l) = totL l * t := by
  rw [totL_eq, totL_eq]
  induction l with
  | nil => simp [scP]
  | cons p l ih =>
    simp only [scP, List.map_cons, List.sum_cons] at ih ⊢
    rw [ih, Int.add_mul, show p.len * t * p.cnt = p.len * p.cnt * t by rw [Int.mul_assoc, Int.mul_comm t, ← Int.mul_assoc]]
theorem mat_scale {lim t : Int} {l : List Pc} (ho : orderB l = true) (h1 : 1 ≤ lim) (ht : 1 ≤ t) : matR (lim * t) (scP t l) = matR lim l := by
  unfold matR
  rw [totL_scale]
  exact upR_scale (totL_range ho).1 h1 ht
theorem larg_scale {lim t : Int} {l : List Pc} (ht : 1 ≤ t) : largT (lim * t) (scP t l) (scP t l).length = largT lim l l.length := by
  rw [larg_eq, larg_eq, scP, List.map_map]
  congr 1
  refine List.map_congr_left fun p _ => ?_
  have e : (lim * t < 2 * (p.len * t)) ↔ lim < 2 * p.len := by
    rw [← Int.mul_assoc]
    exact ⟨fun h => Int.lt_of_mul_lt_mul_right h (by omega), fun h => Int.mul_lt_mul_of_pos_right h (by omega)⟩
  by_cases h : lim < 2 * p.len
  · rw [if_pos h]; exact if_pos (e.2 h)
  · rw [if_neg h]; exact if_neg fun h2 => h (e.1 h2)
theorem dualI_scale {lim k t : Int} {p : Pc} (h1 : 1 ≤ lim) (ht : 1 ≤ t) : dualI (lim * t) k ⟨p.len * t, p.cnt⟩ = dualI lim k p := by
  unfold dualI
  have e : (k + 1) * (p.len * t) = (k + 1) * p.len * t := (Int.mul_assoc ..).symm
  have e2 : ((k + 1) * p.len * t).tdiv (lim * t) = ((k + 1) * p.len).tdiv lim := Int.mul_tdiv_mul_of_pos_left _ _ (by omega)
  have e3 : ((k + 1) * p.len * t).tmod (lim * t) = ((k + 1) * p.len).tmod lim * t := by
    rw [Int.tmod_def, Int.tmod_def, e2, Int.sub_mul]
    congr 1
    rw [Int.mul_assoc, Int.mul_comm t, ← Int.mul_assoc]
  show (if ((k + 1) * (p.len * t)).tmod (lim * t) = 0 then _ else _) = _
  simp only [e, e2, e3]
  have e4 : ((k + 1) * p.len).tmod lim * t = 0 ↔ ((k + 1) * p.len).tmod lim = 0 := by
    rw [Int.mul_eq_zero]
    constructor
    · rintro (h | h)
      · exact h
      · omega
    · exact Or.inl
  simp only [e4]
theorem dual_scale {lim k t : Int} {l : List Pc} (h1 : 1 ≤ lim) (ht : 1 ≤ t) : dualR (lim * t) k (scP t l) = dualR lim k l := by
  unfold dualR
  rw [dualT_eq, dualT_eq, scP, List.map_map]
  congr 2
  exact List.map_congr_left fun p _ => dualI_scale h1 ht
theorem best_scale {lim t : Int} {l : List Pc} (ho : orderB l = true) (h1 : 1 ≤ lim) (ht : 1 ≤ t) : bestR (lim * t) (scP t l) = bestR lim l := best_congr (mat_scale ho h1 ht) (larg_scale ht) fun _ _ _ => dual_scale h1 ht
end Go.Proofs.Ytdeaaonppokgkaa.Pat
