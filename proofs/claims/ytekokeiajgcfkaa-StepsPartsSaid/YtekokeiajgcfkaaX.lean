/- Plain facts: the sum over a range. -/
import Derived.Test.YtekokeiajgcfkaaW
set_option maxRecDepth 100000
set_option linter.unusedSimpArgs false
set_option linter.unusedVariables false
namespace Go.Proofs.Ytekokeiajgcfkaa
theorem wid (lo m hi x y : Int) (h1 : lo ≤ m) (h2 : m ≤ hi) (h3 : x ≤ y) : max 0 (min hi y - max lo x) = max 0 (min m y - max lo x) + max 0 (min hi y - max m x) := by omega
theorem sum_split {lo m hi : Int} (h1 : lo ≤ m) (h2 : m ≤ hi) : ∀ {l : List Stp}, AscP l → sumF lo hi l = sumF lo m l + sumF m hi l
  | [], _ => rfl
  | p :: l, h => by
    simp only [sumF]
    rw [sum_split h1 h2 h.2]
    have e : max 0 (segE hi l - max lo p.x) = max 0 (segE m l - max lo p.x) + max 0 (segE hi l - max m p.x) := by
      match l, h with
      | [], _ => simp only [segE]; omega
      | q :: l, h =>
        have := h.1 q List.mem_cons_self
        exact wid lo m hi p.x q.x h1 h2 (by omega)
    rw [e, Int.mul_add]
    omega
theorem sum_none {lo : Int} : ∀ {l : List Stp}, AscP l → sumF lo lo l = 0 := fun h => by
  have := sum_split (Int.le_refl lo) (Int.le_refl lo) h
  omega
theorem sum_after {lo hi : Int} : ∀ {l : List Stp}, (∀ q ∈ l, hi ≤ q.x) → sumF lo hi l = 0
  | [], _ => rfl
  | p :: l, h => by
    rw [sumF, sum_after fun q hq => h q (List.mem_cons_of_mem _ hq)]
    have h1 := h p List.mem_cons_self
    have : max 0 (segE hi l - max lo p.x) = 0 := by
      match l with
      | [] => simp only [segE]; omega
      | q :: l => simp only [segE]; omega
    rw [this]
    omega
theorem sum_one (x : Int) : ∀ {l : List Stp} (d : Int), AscP l → atF x d l = sumF x (x + 1) l + (if (∀ q ∈ l, x < q.x) then d else 0)
  | [], d, _ => by simp [sumF, atF]
  | p :: l, d, h => by
    by_cases e : x < p.x
    · have ha : ∀ q ∈ p :: l, x < q.x := fun q hq => by
        rcases List.mem_cons.1 hq with rfl | hq
        · exact e
        · have := h.1 q hq; omega
      rw [if_pos ha, sum_after fun q hq => by have := ha q hq; omega, atF_none d ha]
      omega
    · rw [atF, if_pos (by omega), sum_one x p.v h.2, sumF, if_neg (show ¬ ∀ q ∈ p :: l, x < q.x from fun h => e (h p List.mem_cons_self))]
      by_cases ha : ∀ q ∈ l, x < q.x
      · rw [if_pos ha]
        have : max 0 (segE (x + 1) l - max x p.x) = 1 := by
          match l, ha with
          | [], _ => simp only [segE]; omega
          | q :: l, ha => have := ha q List.mem_cons_self; simp only [segE]; omega
        rw [this]
        omega
      · rw [if_neg ha]
        have : max 0 (segE (x + 1) l - max x p.x) = 0 := by
          match l, ha, h with
          | [], ha, _ => exact absurd (fun q hq => by simp at hq) ha
          | q :: l, ha, h =>
            have : ¬ x < q.x := fun hq => ha fun q' hq' => by
              rcases List.mem_cons.1 hq' with rfl | hq'
              · exact hq
              · have := h.2.1 q' hq'; omega
            simp only [segE]; omega
        rw [this]
        omega
theorem sum_one0 {x : Int} {l : List Stp} (h : AscP l) : sumF x (x + 1) l = atL l x := by
  rw [atL, sum_one x 0 h]
  split <;> omega
theorem sum_join {a b s : List Stp} (ha : AscP a) (hb : AscP b) (hs : AscP s) (h : ∀ x, atL s x = atL a x + atL b x) (lo : Int) : ∀ n : Nat, sumF lo (lo + n) s = sumF lo (lo + n) a + sumF lo (lo + n) b
  | 0 => by
    have e : lo + ((0 : Nat) : Int) = lo := by omega
    rw [e, sum_none ha, sum_none hb, sum_none hs]; rfl
  | n + 1 => by
    have ih := sum_join ha hb hs h lo n
    have e : lo + ((n + 1 : Nat) : Int) = lo + n + 1 := by omega
    rw [e]
    have k : ∀ {l : List Stp}, AscP l → sumF lo (lo + n + 1) l = sumF lo (lo + n) l + atL l (lo + n) := fun hl => by
      rw [sum_split (m := lo + n) (by omega) (by omega) hl, sum_one0 hl]
    rw [k ha, k hb, k hs, h]
    omega
theorem sum_range {l : List Stp} (h : validB l = true) (lo : Int) : ∀ n : Nat, 0 ≤ sumF lo (lo + n) l ∧ sumF lo (lo + n) l ≤ 1099511627776 * n
  | 0 => by
    have e : lo + ((0 : Nat) : Int) = lo := by omega
    rw [e, sum_none (ascI_of_valid h)]; omega
  | n + 1 => by
    have ih := sum_range h lo n
    have r := at_range h (lo + n)
    have e : lo + ((n + 1 : Nat) : Int) = lo + n + 1 := by omega
    rw [e, sum_split (m := lo + n) (by omega) (by omega) (ascI_of_valid h), sum_one0 (ascI_of_valid h)]
    omega
/-- All that the law says of sums, for three places in order. -/
theorem parts_law {a : List Stp} {x y z : Int} (ha : validB a = true) (hr : rngB x z = true) (h1 : x ≤ y) (h2 : y ≤ z) :
    sumR a x z = (sumF x z a, 0) ∧ sumR a x y = (sumF x y a, 0) ∧ sumR a y z = (sumF y z a, 0) ∧ sumF x z a = sumF x y a + sumF y z a ∧ 0 ≤ sumF x z a ∧ sumF x z a ≤ 2305843009213693952 ∧ 0 ≤ sumF x y a ∧ 0 ≤ sumF y z a ∧ -1048576 ≤ x ∧ z ≤ 1048576 := by
  have hr2 := hr
  simp only [rngB, placeB, Bool.and_eq_true, decide_eq_true_eq] at hr2
  have g : ∀ u v, x ≤ u → u ≤ v → v ≤ z → sumR a u v = (sumF u v a, 0) ∧ 0 ≤ sumF u v a ∧ sumF u v a ≤ 2305843009213693952 := fun u v k1 k2 k3 => by
    have hr' : rngB u v = true := by
      simp only [rngB, placeB, Bool.and_eq_true, decide_eq_true_eq]; omega
    have := sum_range ha u (v - u).toNat
    rw [show u + ((v - u).toNat : Int) = v by omega] at this
    exact ⟨by simp [sumR, ha, hr'], this.1, by omega⟩
  obtain ⟨a1, a2, a3⟩ := g x z (by omega) (by omega) (by omega)
  obtain ⟨b1, b2, b3⟩ := g x y (by omega) (by omega) (by omega)
  obtain ⟨c1, c2, c3⟩ := g y z (by omega) (by omega) (by omega)
  exact ⟨a1, b1, c1, sum_split h1 h2 (ascI_of_valid ha), a2, a3, b2, c2, by omega, by omega⟩
theorem parts_join {a b : List Stp} {x z : Int} (hr : rngB x z = true) (h : joinE addF a b = 0) :
    validB b = true ∧ sumR (joinR addF a b) x z = (sumF x z a + sumF x z b, 0) ∧ (joinR addF a b).length ≤ 250 := by
  obtain ⟨h1, h2, h3⟩ := join_valid addF_nonneg h
  rw [joinR_ok h]
  have hr2 := hr
  simp only [rngB, placeB, Bool.and_eq_true, decide_eq_true_eq] at hr2
  refine ⟨h2, ?_, by have := (valid_yes.1 h3).1; omega⟩
  have := sum_join (ascI_of_valid h1) (ascI_of_valid h2) (ascI_of_valid h3) (fun x => at_join (ascI_of_valid h1) (ascI_of_valid h2) rfl x) x (z - x).toNat
  rw [show x + ((z - x).toNat : Int) = z by omega] at this
  simp [sumR, h3, hr, this]
theorem parts_one {a : List Stp} {x : Int} (ha : validB a = true) (h1 : -1048576 ≤ x) (h2 : x < 1048576) : sumR a x (x + 1) = (atL a x, 0) := by
  have hr : rngB x (x + 1) = true := by
    simp only [rngB, placeB, Bool.and_eq_true, decide_eq_true_eq]; omega
  simp [sumR, ha, hr, sum_one0 (ascI_of_valid ha)]
end Go.Proofs.Ytekokeiajgcfkaa
