/- Plain facts: no bound is greater than the least number. -/
import Derived.Test.YthlpfjcjfhdmaaaZG
set_option maxRecDepth 100000
set_option linter.unusedSimpArgs false
set_option linter.unusedVariables false
namespace Go.Proofs.Ythlpfjcjfhdmaaa
open Go.RowKit
theorem upR_le {a m q : Int} (h0 : 0 ≤ a) (hm : 1 ≤ m) (h : a ≤ m * q) : upR a m ≤ q := by
  unfold upR
  rw [Int.tdiv_eq_ediv_of_nonneg (by omega)]
  have h1 : (a + m - 1) / m < q + 1 := by
    rw [Int.ediv_lt_iff_lt_mul (by omega), Int.add_mul, Int.mul_comm q m]
    omega
  omega
theorem sum_perm_map {x y : List Int} (W : Int → Int) (h : x.Perm y) : (x.map W).sum = (y.map W).sum := sum_perm (h.map W)
theorem flat_sum (W : Int → Int) (K : Int) : ∀ (B : List (List Int)), (∀ b ∈ B, (b.map W).sum ≤ K) → (B.flatten.map W).sum ≤ K * B.length
  | [], _ => by simp
  | b :: B, h => by
    have ih := flat_sum W K B fun c hc => h c (List.mem_cons_of_mem _ hc)
    have h0 := h b List.mem_cons_self
    simp only [List.flatten_cons, List.map_append, List.sum_append, List.length_cons]
    push_cast
    rw [Int.mul_add]
    omega
/-- What a weight that no load exceeds says of a packing. -/
theorem pack_weight {lim K : Int} {ws : List Int} {n : Nat} (W : Int → Int) (hw : ∀ w ∈ ws, 1 ≤ w ∧ w ≤ lim) (hK : ∀ b : List Int, (∀ w ∈ b, 1 ≤ w ∧ w ≤ lim) → b.sum ≤ lim → (b.map W).sum ≤ K) (h : Pack lim ws [] n) : (ws.map W).sum ≤ K * n := by
  obtain ⟨C, B, hC, _, hB, hp, hn⟩ := h
  have hC0 : C = [] := by simpa using hC
  subst hC0
  simp only [List.flatMap_nil, List.nil_append] at hp
  have hn : n = B.length := by simpa using hn
  subst hn
  rw [← sum_perm_map W hp]
  refine flat_sum W K B fun b hb => hK b (fun w hw2 => hw w (hp.mem_iff.1 (List.mem_flatten.2 ⟨b, hb, hw2⟩))) (hB b hb)
/-- The weights of all pieces. -/
def wT (W : Int → Int) (l : List Pc) : Nat → Int
  | 0 => 0
  | j + 1 => wT W l j + (ix l j).cnt * W (ix l j).len
theorem ws_weight (W : Int → Int) {l : List Pc} (hc : ∀ k, k < l.length → 0 ≤ (ix l k).cnt) : ∀ j, j ≤ l.length → ((wsT l j).map W).sum = wT W l j
  | 0, _ => by simp [wsT, wT]
  | j + 1, h => by
    rw [wsT_succ (by omega), List.map_append, List.sum_append, ws_weight W hc j (by omega), List.map_replicate, sum_rep, Int.toNat_of_nonneg (hc j (by omega))]
    rfl
theorem bound_le {l : List Pc} {lim K : Int} {n : Nat} (W : Int → Int) (ho : orderB l = true) (hm : ∀ k, k < l.length → (ix l k).len ≤ lim) (hK : ∀ b : List Int, (∀ w ∈ b, 1 ≤ w ∧ w ≤ lim) → b.sum ≤ lim → (b.map W).sum ≤ K) (h : Pack lim (wsO l) [] n) : wT W l l.length ≤ K * n := by
  rw [← ws_weight W (fun k hk => by have := order_at ho hk; omega) l.length (Nat.le_refl _)]
  refine pack_weight W (fun w hw => ?_) hK h
  obtain ⟨k, hk, rfl⟩ := wsO_mem hw
  have := order_at ho hk
  exact ⟨by omega, hm k hk⟩
theorem mat_le {l : List Pc} {lim : Int} {n : Nat} (ho : orderB l = true) (h1 : 1 ≤ lim) (hm : ∀ k, k < l.length → (ix l k).len ≤ lim) (h : Pack lim (wsO l) [] n) : matR lim l ≤ n := by
  have key : ∀ j, j ≤ l.length → wT (fun x => x) l j = totT l j := by
    intro j
    induction j with
    | zero => intro _; simp [wT, totT]
    | succ j ih =>
      intro hj
      rw [totT_succ (by omega), ← ih (by omega), Int.mul_comm]
      rfl
  have := bound_le (K := lim) (fun x => x) ho hm (fun b _ hb => by rw [List.map_id']; exact hb) h
  rw [key _ (Nat.le_refl _)] at this
  exact upR_le (totL_range ho).1 h1 this
def wL (lim x : Int) : Int := if lim < 2 * x then 1 else 0
theorem large_le {l : List Pc} {lim : Int} {n : Nat} (ho : orderB l = true) (h1 : 1 ≤ lim) (hm : ∀ k, k < l.length → (ix l k).len ≤ lim) (h : Pack lim (wsO l) [] n) : largT lim l l.length ≤ n := by
  have key : ∀ j, j ≤ l.length → wT (wL lim) l j = largT lim l j := by
    intro j
    induction j with
    | zero => intro _; rfl
    | succ j ih =>
      intro hj
      have e : wT (wL lim) l (j + 1) = wT (wL lim) l j + (ix l j).cnt * wL lim (ix l j).len := rfl
      have e2 : largT lim l (j + 1) = if lim < 2 * (ix l j).len then largT lim l j + (ix l j).cnt else largT lim l j := rfl
      rw [e, e2, ih (by omega)]
      unfold wL
      split <;> simp
  have hb : ∀ b : List Int, (∀ w ∈ b, 1 ≤ w ∧ w ≤ lim) → (lim + 1) * (b.map (wL lim)).sum ≤ 2 * b.sum := by
    intro b
    induction b with
    | nil => intro _; simp
    | cons x b ih =>
      intro hw
      have ih := ih fun w h => hw w (List.mem_cons_of_mem _ h)
      have h0 := hw x List.mem_cons_self
      simp only [List.map_cons, List.sum_cons]
      have hx : wL lim x = if lim < 2 * x then 1 else 0 := rfl
      rw [Int.mul_add, hx]
      split
      · omega
      · rw [Int.mul_zero]; omega
  have := bound_le (K := 1) (wL lim) ho hm (fun b hw hs => by
    have h2 := hb b hw
    refine Int.not_lt.1 fun h3 => ?_
    have := Int.mul_le_mul_of_nonneg_left (show (2 : Int) ≤ (b.map (wL lim)).sum by omega) (show 0 ≤ lim + 1 by omega)
    omega) h
  rw [key _ (Nat.le_refl _)] at this
  omega
def wD (lim k x : Int) : Int := if ((k + 1) * x).tmod lim = 0 then ((k + 1) * x).tdiv lim * k else ((k + 1) * x).tdiv lim * (k + 1)
theorem dual_load {lim k : Int} (h1 : 1 ≤ lim) (hk : 1 ≤ k) (b : List Int) (hw : ∀ w ∈ b, 1 ≤ w ∧ w ≤ lim) (hs : b.sum ≤ lim) : (b.map (wD lim k)).sum ≤ k * (k + 1) := by
  have key : ∀ b : List Int, (∀ w ∈ b, 1 ≤ w ∧ w ≤ lim) → ∃ A B : Int, 0 ≤ A ∧ 0 ≤ B ∧ (b.map (wD lim k)).sum = A * k + B * (k + 1) ∧ lim * (A + B) ≤ (k + 1) * b.sum ∧ (0 < B → lim * (A + B) < (k + 1) * b.sum) := by
    intro b
    induction b with
    | nil => intro _; exact ⟨0, 0, by simp, by simp, by simp, by simp, fun h => absurd h (by simp)⟩
    | cons x b ih =>
      intro hw
      obtain ⟨A, B, hA, hB, e1, e2, e3⟩ := ih fun w h => hw w (List.mem_cons_of_mem _ h)
      have h0 := hw x List.mem_cons_self
      have hn : 0 ≤ (k + 1) * x := Int.mul_nonneg (by omega) (by omega)
      have hq : 0 ≤ ((k + 1) * x).tdiv lim := Int.tdiv_nonneg hn (by omega)
      have hr : 0 ≤ ((k + 1) * x).tmod lim := Int.tmod_nonneg _ hn
      have hd := Int.mul_tdiv_add_tmod ((k + 1) * x) lim
      simp only [List.map_cons, List.sum_cons]
      rw [Int.mul_add (k + 1)]
      unfold wD at e1 ⊢
      generalize (k + 1) * x = n at *
      generalize n.tdiv lim = q at *
      generalize n.tmod lim = r at *
      split
      · rename_i hr0
        refine ⟨A + q, B, by omega, hB, ?_, ?_, fun h => ?_⟩
        · rw [e1, Int.add_mul]; omega
        · rw [show A + q + B = q + (A + B) by omega, Int.mul_add]; omega
        · have := e3 h
          rw [show A + q + B = q + (A + B) by omega, Int.mul_add]; omega
      · rename_i hr0
        refine ⟨A, B + q, hA, by omega, ?_, ?_, fun h => ?_⟩
        · rw [e1, Int.add_mul]; omega
        · rw [show A + (B + q) = q + (A + B) by omega, Int.mul_add]; omega
        · rw [show A + (B + q) = q + (A + B) by omega, Int.mul_add]; omega
  obtain ⟨A, B, hA, hB, e1, e2, e3⟩ := key b hw
  have hs2 : (k + 1) * b.sum ≤ lim * (k + 1) := by
    rw [Int.mul_comm lim]
    exact Int.mul_le_mul_of_nonneg_left hs (by omega)
  rw [e1]
  by_cases hB0 : 0 < B
  · have h3 : lim * (A + B) < lim * (k + 1) := Int.lt_of_lt_of_le (e3 hB0) hs2
    have h4 : A + B < k + 1 := Int.lt_of_mul_lt_mul_left h3 (by omega)
    have h5 := Int.mul_le_mul_of_nonneg_right (show A + B ≤ k by omega) (show 0 ≤ k + 1 by omega)
    rw [Int.add_mul] at h5
    have h6 : A * (k + 1) = A * k + A := by rw [Int.mul_add, Int.mul_one]
    omega
  · have : B = 0 := by omega
    subst this
    have h4 : A + 0 ≤ k + 1 := Int.le_of_mul_le_mul_left (Int.le_trans e2 hs2) (by omega)
    have h5 := Int.mul_le_mul_of_nonneg_right (show A ≤ k + 1 by omega) (show 0 ≤ k by omega)
    rw [Int.mul_comm k]
    omega
theorem dual_le {l : List Pc} {lim k : Int} {n : Nat} (ho : orderB l = true) (h1 : 1 ≤ lim) (hk : 1 ≤ k ∧ k ≤ 10) (hm : ∀ k, k < l.length → (ix l k).len ≤ lim) (h : Pack lim (wsO l) [] n) : dualR lim k l ≤ n := by
  have key : ∀ j, j ≤ l.length → wT (wD lim k) l j = dualT lim k l j := by
    intro j
    induction j with
    | zero => intro _; rfl
    | succ j ih =>
      intro hj
      have e : wT (wD lim k) l (j + 1) = wT (wD lim k) l j + (ix l j).cnt * wD lim k (ix l j).len := rfl
      have e2 : dualT lim k l (j + 1) = dualT lim k l j + dualI lim k (ix l j) := rfl
      rw [e, e2, ih (by omega)]
      unfold wD dualI
      split <;> rw [Int.mul_assoc]
  have := bound_le (K := k * (k + 1)) (wD lim k) ho hm (fun b hw hs => dual_load h1 hk.1 b hw hs) h
  rw [key _ (Nat.le_refl _)] at this
  exact upR_le (dualT_range h1 hk ho _ (Nat.le_refl _)).1 (kk_range hk).1 this
theorem best_le {l : List Pc} {lim : Int} {n : Nat} (ho : orderB l = true) (h1 : 1 ≤ lim) (hm : ∀ k, k < l.length → (ix l k).len ≤ lim) (h : Pack lim (wsO l) [] n) : bestR lim l ≤ n := by
  have key : ∀ j, j ≤ 10 → bestT lim l j ≤ n := by
    intro j
    induction j with
    | zero =>
      intro _
      have a := mat_le ho h1 hm h
      have b := large_le ho h1 hm h
      show max _ _ ≤ _
      omega
    | succ j ih =>
      intro hj
      have a := ih (by omega)
      have b := dual_le (k := (j + 1 : Nat)) ho h1 (by omega) hm h
      show max _ _ ≤ _
      omega
  exact key 10 (Nat.le_refl _)
theorem best_opt {l : List Pc} {lim : Int} (ho : orderB l = true) (h1 : 1 ≤ lim) (hm : ∀ k, k < l.length → (ix l k).len ≤ lim) : bestR lim l ≤ optO lim l :=
  best_le ho h1 hm (opt_pack (fun w hw => (wsO_range ho hm w hw).2) fun m hm => by cases hm)
end Go.Proofs.Ythlpfjcjfhdmaaa
