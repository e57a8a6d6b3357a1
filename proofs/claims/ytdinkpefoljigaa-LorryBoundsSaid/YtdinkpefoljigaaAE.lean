/- Plain facts: greedy loads are right; few loads; the bound. -/
import Derived.Test.YtdinkpefoljigaaT
import Derived.Test.YtdinkpefoljigaaW
set_option maxRecDepth 100000
set_option linter.unusedSimpArgs false
set_option linter.unusedVariables false
namespace Go.Proofs.Ytdinkpefoljigaa
open Go.RowKit
theorem perm_of_sub : ∀ {a b : List Int}, a.Nodup → (∀ x ∈ a, x ∈ b) → b.length ≤ a.length → a.Perm b
  | [], b, _, _, h => by
    have : b = [] := List.length_eq_zero_iff.1 (by simpa using h)
    rw [this]
  | x :: a, b, hn, hs, h => by
    have hx := hs x List.mem_cons_self
    rw [List.nodup_cons] at hn
    refine List.Perm.trans (List.Perm.cons x (perm_of_sub hn.2 (fun y hy => ?_) ?_)) (List.perm_cons_erase hx).symm
    · have hne : y ≠ x := fun e => hn.1 (e ▸ hy)
      exact (List.mem_erase_of_ne hne).2 (hs y (List.mem_cons_of_mem _ hy))
    · have := List.length_erase_of_mem hx
      simp at h
      omega
theorem rng_nodup (n : Nat) : (rng n).Nodup := by
  rw [rng, List.nodup_iff_pairwise_ne, List.pairwise_map]
  exact List.Pairwise.imp (fun h => by omega) List.pairwise_lt_range
theorem mem_rng {n : Nat} {x : Int} (h : 0 ≤ x ∧ x < n) : x ∈ rng n := by
  simp only [rng, List.mem_map, List.mem_range]
  exact ⟨x.toNat, by omega, by omega⟩
theorem right_perm {l : List Bun} {most : Int} {loads : List (List Int)} (h : Right l most loads) : loads.flatten.Perm (rng l.length) :=
  perm_of_sub h.nodup (fun x hx => mem_rng (h.mem x hx)) (by rw [rng_len, h.all]; exact Nat.le_refl _)
theorem massL_cons (l : List Bun) (i : Int) (x : List Int) : massL l (i :: x) = (ix l i.toNat).mass + massL l x := by simp [massL]
theorem massL_perm {l : List Bun} {x y : List Int} (h : x.Perm y) : massL l x = massL l y := by
  induction h with
  | nil => rfl
  | cons a _ ih => rw [massL_cons, massL_cons, ih]
  | swap a b q => simp only [massL_cons]; omega
  | trans _ _ h1 h2 => exact h1.trans h2
theorem massL_rng (l : List Bun) : ∀ k, k ≤ l.length → massL l (rng k) = sumT l k
  | 0, _ => by simp [massL, rng, sumT]
  | k + 1, h => by
    rw [rng_succ, massL_app, massL_rng l k (by omega), sumT_succ (by omega), massL_one]
    simp
theorem massL_flat (l : List Bun) : ∀ out : List (List Int), massL l out.flatten = (out.map (massL l)).sum
  | [] => rfl
  | x :: out => by rw [List.flatten_cons, massL_app, massL_flat l out]; simp
theorem right_total {l : List Bun} {most : Int} {loads : List (List Int)} (h : Right l most loads) : (loads.map (massL l)).sum = sumT l l.length := by
  rw [← massL_flat, massL_perm (right_perm h), massL_rng l _ (Nat.le_refl _)]
/-- Heavy bundles of a load. -/
def hvC (l : List Bun) (most : Int) (x : List Int) : Nat := x.countP fun i => twoB most (ix l i.toNat)
theorem hvC_rng (l : List Bun) (most : Int) : ∀ k, k ≤ l.length → hvC l most (rng k) = cntT l most k
  | 0, _ => by simp [hvC, rng, cntT]
  | k + 1, h => by
    have ih := hvC_rng l most k (by omega)
    unfold hvC at ih ⊢
    rw [rng_succ, List.countP_append, ih, cntT_succ (by omega)]
    simp [twoB, List.countP_cons]
theorem hvC_flat (l : List Bun) (most : Int) : ∀ out : List (List Int), hvC l most out.flatten = (out.map (hvC l most)).sum
  | [] => rfl
  | x :: out => by
    have := hvC_flat l most out
    unfold hvC at this ⊢
    rw [List.flatten_cons, List.countP_append, this]; simp
theorem massL_nonneg {l : List Bun} {x : List Int} (hv : vB l = true) (hx : ∀ i ∈ x, 0 ≤ i ∧ i < l.length) : 0 ≤ massL l x := by
  have := (massL_range hv hx x.length (Nat.le_refl _)).1
  rwa [List.take_length] at this
theorem hvC_one {l : List Bun} {most : Int} (hv : vB l = true) (hm : 1 ≤ most) : ∀ {x : List Int}, (∀ i ∈ x, 0 ≤ i ∧ i < l.length) → 2 * massL l x ≤ most → hvC l most x = 0
  | [], _, _ => rfl
  | i :: x, hx, h => by
    have hi := hx i List.mem_cons_self
    have m1 := okA_mass ((vB_yes.1 hv).2 i.toNat (by omega))
    have m2 := massL_nonneg hv fun j hj => hx j (List.mem_cons_of_mem _ hj)
    rw [massL_cons] at h
    have ih := hvC_one hv hm (x := x) (fun j hj => hx j (List.mem_cons_of_mem _ hj)) (by omega)
    unfold hvC at ih ⊢
    rw [List.countP_cons, ih]
    simp [twoB]
    omega
theorem hvC_le {l : List Bun} {most : Int} (hv : vB l = true) (hm : 1 ≤ most) : ∀ {x : List Int}, (∀ i ∈ x, 0 ≤ i ∧ i < l.length) → massL l x ≤ most → hvC l most x ≤ 1
  | [], _, _ => by simp [hvC]
  | i :: x, hx, h => by
    have hi := hx i List.mem_cons_self
    have m1 := okA_mass ((vB_yes.1 hv).2 i.toNat (by omega))
    have m2 := massL_nonneg hv fun j hj => hx j (List.mem_cons_of_mem _ hj)
    rw [massL_cons] at h
    by_cases ht : most < 2 * (ix l i.toNat).mass
    · have ih := hvC_one hv hm (x := x) (fun j hj => hx j (List.mem_cons_of_mem _ hj)) (by omega)
      unfold hvC at ih ⊢
      rw [List.countP_cons, ih]
      simp [twoB, ht]
    · have ih := hvC_le hv hm (x := x) (fun j hj => hx j (List.mem_cons_of_mem _ hj)) (by omega)
      unfold hvC at ih ⊢
      rw [List.countP_cons]
      simp only [twoB, decide_eq_true_eq, ht, if_false]
      exact ih
theorem sum_le_len {α : Type} {f : α → Int} {m : Int} : ∀ {l : List α}, (∀ x ∈ l, f x ≤ m) → (l.map f).sum ≤ l.length * m
  | [], _ => by simp
  | x :: l, h => by
    have h1 := h x List.mem_cons_self
    have h2 := sum_le_len fun y hy => h y (List.mem_cons_of_mem _ hy)
    simp only [List.map_cons, List.sum_cons, List.length_cons]
    push_cast
    rw [Int.add_mul, Int.one_mul]
    omega
theorem sum_le_len1 {α : Type} {f : α → Nat} : ∀ {l : List α}, (∀ x ∈ l, f x ≤ 1) → (l.map f).sum ≤ l.length
  | [], _ => by simp
  | x :: l, h => by
    have h1 := h x List.mem_cons_self
    have h2 := sum_le_len1 fun y hy => h y (List.mem_cons_of_mem _ hy)
    simp only [List.map_cons, List.sum_cons, List.length_cons]
    omega
/-- No right loads are fewer than the bound. -/
theorem right_bound {l : List Bun} {most : Int} {loads : List (List Int)} (hv : vB l = true) (hm : 1 ≤ most) (h : Right l most loads) : boundF l most ≤ loads.length := by
  have h1 : sumT l l.length ≤ loads.length * most := by
    rw [← right_total h]
    exact sum_le_len fun x hx => (h.good x hx).2
  have h2 : cntT l most l.length ≤ loads.length := by
    rw [← hvC_rng l most _ (Nat.le_refl _), show hvC l most (rng l.length) = hvC l most loads.flatten from ((right_perm h).countP_eq _).symm, hvC_flat]
    exact sum_le_len1 fun x hx => hvC_le hv hm (fun i hi => h.mem i (List.mem_flatten.2 ⟨x, hx, hi⟩)) (h.good x hx).2
  have h0 := (sumT_range hv l.length (Nat.le_refl _)).1
  have h3 : (sumT l l.length + most - 1).tdiv most ≤ loads.length := by
    rw [Int.tdiv_eq_ediv_of_nonneg (by omega)]
    have : (sumT l l.length + most - 1) / most < loads.length + 1 := by
      apply Int.ediv_lt_of_lt_mul (by omega)
      rw [Int.add_mul, Int.one_mul]
      omega
    omega
  have h4 : (min l.length 1 : Nat) ≤ loads.length := by
    rcases Nat.eq_zero_or_pos loads.length with e | e
    · have : loads = [] := List.length_eq_zero_iff.1 e
      have h5 := h.all
      rw [this] at h5
      simp at h5
      omega
    · omega
  unfold boundF
  omega
theorem flat_put {i : Int} {k : Nat} {out : List (List Int)} : (gput i k out).flatten.Perm (out.flatten ++ [i]) := by
  unfold gput
  split
  · rename_i h
    have e1 : out = out.take k ++ (ix out k :: out.drop (k + 1)) := by rw [← drop_ix h, List.take_append_drop]
    have e2 : out.set k (ix out k ++ [i]) = out.take k ++ ((ix out k ++ [i]) :: out.drop (k + 1)) := by
      rw [List.set_eq_take_append_cons_drop, if_pos h]
    have e3 : out.flatten = (out.take k).flatten ++ (ix out k ++ (out.drop (k + 1)).flatten) := by
      conv => lhs; rw [e1]
      rw [List.flatten_append, List.flatten_cons]
    rw [e2, e3, List.flatten_append, List.flatten_cons, List.append_assoc, List.append_assoc, List.append_assoc]
    refine List.Perm.append_left _ (List.Perm.append_left _ ?_)
    exact List.perm_append_comm
  · simp
theorem flat_T {l : List Bun} {most : Int} : ∀ k, k ≤ l.length → (greedyT l most k).flatten.Perm ((heavO l).take k)
  | 0, _ => by simp [greedyT]
  | k + 1, h => by
    have hk : k < (heavO l).length := by rw [heavO_len]; omega
    rw [greedyT_succ hk, take_snoc hk]
    exact flat_put.trans ((flat_T k (by omega)).append_right _)
theorem greedy_right {l : List Bun} {most : Int} (he : errG l most = 0) : Right l most (greedyL l most) := by
  obtain ⟨hL, hLn, hLx⟩ := lds_greedy he
  have hp : (greedyL l most).flatten.Perm (heavO l) := by
    have := flat_T (l := l) (most := most) l.length (Nat.le_refl _)
    rwa [greedyT_all, List.take_of_length_le (by rw [heavO_len]; exact Nat.le_refl _)] at this
  exact ⟨fun i hi => heavO_mem (hp.mem_iff.1 hi), hp.nodup_iff.2 (heavO_nodup l), fun x hx => ⟨hL.some x hx, (hL.mass x hx).2⟩, by rw [hp.length_eq, heavO_len]⟩
/-- Of any two loads the masses are together more than the greatest mass. -/
def prs (l : List Bun) (most : Int) (out : List (List Int)) : Prop := ∀ i j, i < j → j < out.length → most < massL l (ix out i) + massL l (ix out j)
theorem prs_put {l : List Bun} {most i : Int} {out : List (List Int)} (hm : 0 ≤ (ix l i.toNat).mass) (h : prs l most out) : prs l most (gput i (fitAt l most i out) out) := by
  unfold gput
  split
  · rename_i hlt
    intro a b hab hb
    rw [List.length_set] at hb
    have h0 := h a b hab hb
    have key : ∀ q, massL l (ix out q) ≤ massL l (ix (out.set (fitAt l most i out) (ix out (fitAt l most i out) ++ [i])) q) := fun q => by
      by_cases e : q = fitAt l most i out
      · rw [e, ix_set_self hlt, massL_app, massL_one]; omega
      · rw [ix_set_ne e]; exact Int.le_refl _
    have h1 := key a
    have h2 := key b
    omega
  · rename_i hlt
    intro a b hab hb
    rw [List.length_append, List.length_singleton] at hb
    by_cases e : b = out.length
    · subst e
      rw [ix_app_last, ix_app_ne (by omega), massL_one]
      have := List.not_of_lt_findIdx (p := fun x => fitB l most i (massL l x)) (xs := out) (i := a) (by unfold fitAt at hlt; omega)
      rw [ix_eq (by omega)]
      simp [fitB] at this
      exact this
    · rw [ix_app_ne (by omega), ix_app_ne (by omega)]
      exact h a b hab (by omega)
theorem prs_T {l : List Bun} {most : Int} (hv : vB l = true) : ∀ k, k ≤ l.length → prs l most (greedyT l most k)
  | 0, _ => fun i j _ hj => by simp [greedyT] at hj
  | k + 1, h => by
    have hk : k < (heavO l).length := by rw [heavO_len]; omega
    have hi := heavO_mem (ix_mem hk)
    rw [greedyT_succ hk]
    exact prs_put (okA_mass ((vB_yes.1 hv).2 _ (by omega))).1 (prs_T hv k (by omega))
theorem prs_sum {l : List Bun} {most : Int} : ∀ out : List (List Int), (∀ x ∈ out, 0 ≤ massL l x) → prs l most out → (out.length / 2 : Nat) * (most + 1) ≤ (out.map (massL l)).sum
  | [], _, _ => by simp
  | [x], h, _ => by have := h x List.mem_cons_self; simpa using this
  | x :: y :: out, h, hp => by
    have ih := prs_sum out (fun z hz => h z (by simp [hz])) fun i j hij hj => hp (i + 2) (j + 2) (by omega) (by simp; omega)
    have h0 : most < massL l x + massL l y := hp 0 1 (by omega) (by simp)
    have e : ((x :: y :: out).length / 2 : Nat) = out.length / 2 + 1 := by simp only [List.length_cons]; omega
    rw [e]
    simp only [List.map_cons, List.sum_cons]
    push_cast
    rw [Int.add_mul, Int.one_mul]
    have : (out.length : Int) / 2 = ((out.length / 2 : Nat) : Int) := by omega
    rw [this]
    omega
theorem greedy_few {l : List Bun} {most : Int} (he : errG l most = 0) (h3 : 2 < (greedyL l most).length) : ((greedyL l most).length - 2 : Int) * most < 2 * sumT l l.length := by
  obtain ⟨hv, hm1, hm2, hm3⟩ := errG_ok he
  obtain ⟨hL, hLn, hLx⟩ := lds_greedy he
  have h1 := prs_sum (greedyL l most) (fun x hx => (hL.mass x hx).1) (by rw [← greedyT_all]; exact prs_T hv _ (Nat.le_refl _))
  rw [right_total (greedy_right he)] at h1
  generalize hn : (greedyL l most).length = n at *
  have e : (n / 2 : Nat) * (most + 1) = (n / 2 : Nat) * most + (n / 2 : Nat) := by rw [Int.mul_add, Int.mul_one]
  have h4 : (n - 2 : Int) * most ≤ (2 * (n / 2 : Nat) : Int) * most := Int.mul_le_mul_of_nonneg_right (by omega) (by omega)
  have h5 : (2 * (n / 2 : Nat) : Int) * most = 2 * ((n / 2 : Nat) * most) := by rw [Int.mul_assoc]
  omega
end Go.Proofs.Ytdinkpefoljigaa
