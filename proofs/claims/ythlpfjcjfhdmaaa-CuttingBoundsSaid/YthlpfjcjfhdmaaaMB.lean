/- CuttingMore: plain facts. -/
import Derived.Test.YthlpfjcjfhdmaaaMA
set_option maxRecDepth 100000
set_option linter.unusedSimpArgs false
set_option linter.unusedVariables false
namespace Go.Proofs.Ythlpfjcjfhdmaaa
open Go.RowKit
/-- The least number. -/
def optO (lim : Int) (l : List Pc) : Nat := optF lim (wsO l) []
theorem wsO_range {l : List Pc} {lim : Int} (ho : orderB l = true) (hm : ∀ k, k < l.length → (ix l k).len ≤ lim) : ∀ w ∈ wsO l, 0 ≤ w ∧ w ≤ lim := fun w hw => by
  obtain ⟨k, hk, rfl⟩ := wsO_mem hw
  have := order_at ho hk
  exact ⟨by omega, hm k hk⟩
theorem wsO_eq (l : List Pc) : wsO l = l.flatMap fun p => List.replicate p.cnt.toNat p.len := by
  unfold wsO wsT
  rw [List.take_length]
theorem list_rng (l : List Pc) : l = (List.range l.length).map (ix l) := by
  apply List.ext_getElem
  · simp
  · intro i h1 h2
    rw [List.getElem_map, List.getElem_range, ix_eq h1]
theorem wsL_rep (l : List Pc) (x : List Int) : wsL l (repF l x) = x.flatMap fun i => List.replicate (ix l i.toNat).cnt.toNat (ix l i.toNat).len := by
  unfold wsL repF
  rw [List.map_flatMap]
  simp only [List.map_replicate]
theorem wsL_rng (l : List Pc) : wsL l (repF l (rng l.length)) = wsO l := by
  rw [wsO_eq, wsL_rep]
  conv => rhs; rw [list_rng l]
  unfold rng
  rw [List.flatMap_map, List.flatMap_map]
  rfl
theorem wsL_perm (l : List Pc) : (wsL l (longL l)).Perm (wsO l) := by
  rw [← wsL_rng, wsL_rep]
  unfold longL lnO
  rw [wsL_rep]
  exact (sortK_perm _ _).flatMap_right _
theorem wsO_len {l : List Pc} (ho : orderB l = true) : ((wsO l).length : Int) = cntL l := wsT_len ho _ (Nat.le_refl _)
theorem lst_ok {lim : Int} {l : List Pc} (he : lstE lim l = 0) : givE lim l = 0 ∧ cntL l ≤ 10 := by
  unfold lstE at he
  split at he
  · contradiction
  · split at he
    · omega
    · exact ⟨by omega, by omega⟩
theorem lst_len {lim : Int} {l : List Pc} (he : lstE lim l = 0) : (lstB lim l).length = optO lim l := by
  obtain ⟨hg, hc⟩ := lst_ok he
  obtain ⟨ho, h1, h2, h3⟩ := givE_0 hg
  by_cases h0 : 0 < cntL l
  · obtain ⟨_, _, e⟩ := lst_good he h0
    rw [e]
    exact optF_perm (wsL_perm l) (.refl _) (fun w hw => wsO_range ho h3 w ((wsL_perm l).mem_iff.1 hw)) (fun m hm => by cases hm)
  · have e1 : lstB lim l = [] := if_neg (by omega)
    have e2 : wsO l = [] := List.length_eq_zero_iff.1 (by have := wsO_len ho; omega)
    rw [e1, optO, e2]
    rfl
theorem giv_zero {lim : Int} {l : List Pc} (ho : orderB l = true) (h1 : 1 ≤ lim) (h2 : lim ≤ 1048576) (h3 : ∀ k, k < l.length → (ix l k).len ≤ lim) : givE lim l = 0 := by
  unfold givE
  rw [if_neg (by simp [ho]), if_neg (by omega), if_neg]
  intro h
  obtain ⟨b, hb, e⟩ := List.any_eq_true.1 h
  obtain ⟨k, hk, rfl⟩ := List.mem_iff_getElem.1 hb
  rw [← ix_eq hk] at e
  have := h3 k hk
  simp at e
  omega
theorem lst_zero {lim : Int} {l : List Pc} (ho : orderB l = true) (h1 : 1 ≤ lim) (h2 : lim ≤ 1048576) (h3 : ∀ k, k < l.length → (ix l k).len ≤ lim) (hc : cntL l ≤ 10) : lstE lim l = 0 := by
  unfold lstE
  rw [giv_zero ho h1 h2 h3, if_neg (by simp), if_neg (by omega)]
theorem cntL_eq (l : List Pc) : cntL l = (l.map Pc.cnt).sum := by unfold cntL cntT; rw [List.take_length]
theorem order_rev {l : List Pc} (h : orderB l = true) : orderB l.reverse = true := by
  unfold orderB at h ⊢
  rw [List.length_reverse, List.any_reverse]
  exact h
theorem cnt_rev (l : List Pc) : cntL l.reverse = cntL l := by
  rw [cntL_eq, cntL_eq]
  exact sum_perm ((List.reverse_perm l).map _)
theorem opt_rev {l : List Pc} {lim : Int} (ho : orderB l = true) (hm : ∀ k, k < l.length → (ix l k).len ≤ lim) : optO lim l.reverse = optO lim l := by
  have hp : (wsO l.reverse).Perm (wsO l) := by
    rw [wsO_eq, wsO_eq]
    exact (List.reverse_perm l).flatMap_right _
  exact optF_perm hp (.refl _) (fun w hw => wsO_range ho hm w (hp.mem_iff.1 hw)) (fun m hm => by cases hm)
theorem bad_no {p : Pc} (h1 : 1 ≤ p.len) (h2 : p.len ≤ 1048576) (h3 : 1 ≤ p.cnt) (h4 : p.cnt ≤ 1000000) : badB p = false := by
  unfold badB lenB
  simp
  omega
theorem order_of {l : List Pc} (hl : l.length ≤ 200) (h : ∀ k, k < l.length → badB (ix l k) = false) : orderB l = true := by
  unfold orderB
  rw [decide_eq_true hl, Bool.true_and]
  have : l.any badB = false := by
    rw [List.any_eq_false]
    intro x hx
    obtain ⟨k, hk, rfl⟩ := List.mem_iff_getElem.1 hx
    rw [← ix_eq hk, h k hk]
    decide
  rw [this]; rfl
theorem order_app {l : List Pc} {x : Pc} (ho : orderB l = true) (hl : l.length ≤ 12) (h1 : 1 ≤ x.len) (h2 : x.len ≤ 1048576) (h3 : x.cnt = 1) : orderB (l ++ [x]) = true := by
  refine order_of (by simp; omega) fun k hk => ?_
  have hk' : k < l.length + 1 := by simpa using hk
  by_cases e : k = l.length
  · subst e; rw [ix_app_last]; exact bad_no h1 h2 (by omega) (by omega)
  · rw [ix_app_ne e]
    obtain ⟨a, b, c, d⟩ := order_at ho (k := k) (by omega)
    exact bad_no a b c d
theorem cnt_app (l : List Pc) (x : Pc) : cntL (l ++ [x]) = cntL l + x.cnt := by
  rw [cntL_eq, cntL_eq]; simp
theorem opt_app {l : List Pc} {x : Pc} {lim : Int} (ho : orderB l = true) (hm : ∀ k, k < l.length → (ix l k).len ≤ lim) (h1 : 1 ≤ x.len) (h2 : x.len ≤ lim) (h3 : x.cnt = 1) : optO lim l ≤ optO lim (l ++ [x]) ∧ optO lim (l ++ [x]) ≤ optO lim l + 1 := by
  have e1 : wsO (l ++ [x]) = wsO l ++ [x.len] := by
    rw [wsO_eq, wsO_eq, List.flatMap_append]
    simp [h3]
  have hp : (wsO (l ++ [x])).Perm (x.len :: wsO l) := by
    rw [e1]
    exact List.perm_append_comm
  have hr : ∀ w ∈ x.len :: wsO l, 0 ≤ w ∧ w ≤ lim := fun w hw => by
    rcases List.mem_cons.1 hw with rfl | hw
    · exact ⟨by omega, h2⟩
    · exact wsO_range ho hm w hw
  have e : optO lim (l ++ [x]) = optF lim (x.len :: wsO l) [] := optF_perm hp (.refl _) (fun w hw => hr w (hp.mem_iff.1 hw)) (fun m hm => by cases hm)
  rw [e]
  exact optF_extra hr
/-- All lengths multiplied. -/
def scP (t : Int) (l : List Pc) : List Pc := l.map fun p => ⟨p.len * t, p.cnt⟩
theorem scP_len (t : Int) (l : List Pc) : (scP t l).length = l.length := by simp [scP]
theorem scP_ix {t : Int} {l : List Pc} {k : Nat} (h : k < l.length) : ix (scP t l) k = ⟨(ix l k).len * t, (ix l k).cnt⟩ := by
  rw [ix_eq (by rw [scP_len]; exact h), ix_eq h]; simp [scP]
theorem sc_ix (t : Int) {ms : List Int} {j : Nat} (h : j < ms.length) : ix (ms.map (· * t)) j = ix ms j * t := by
  rw [ix_eq (by simpa using h), ix_eq h]; simp
theorem fold_congr {α β : Type} {f g : β → α → β} : ∀ (js : List α) (b : β), (∀ j ∈ js, ∀ b, f b j = g b j) → js.foldl f b = js.foldl g b
  | [], _, _ => rfl
  | j :: js, b, h => by
    rw [List.foldl_cons, List.foldl_cons, h j List.mem_cons_self b]
    exact fold_congr js _ fun i hi => h i (List.mem_cons_of_mem _ hi)
theorem optF_scale {lim t : Int} (ht : 1 ≤ t) : ∀ (ws ms : List Int), optF (lim * t) (ws.map (· * t)) (ms.map (· * t)) = optF lim ws ms
  | [], ms => by simp [optF]
  | w :: ws, ms => by
    simp only [List.map_cons, optF, List.length_map]
    have e1 := optF_scale (lim := lim) ht ws (ms ++ [w])
    rw [List.map_append, List.map_cons, List.map_nil] at e1
    rw [e1]
    refine fold_congr _ _ fun j hj b => ?_
    have hj : j < ms.length := List.mem_range.1 hj
    rw [sc_ix t hj, ← Int.add_mul]
    have e2 := optF_scale (lim := lim) ht ws (ms.set j (ix ms j + w))
    rw [List.map_set] at e2
    rw [e2]
    by_cases h : ix ms j + w ≤ lim
    · rw [if_pos h, if_pos (Int.mul_le_mul_of_nonneg_right h (by omega))]
    · rw [if_neg h, if_neg]
      intro h2
      exact h (Int.le_of_mul_le_mul_right h2 (by omega))
theorem opt_scale {lim t : Int} (ht : 1 ≤ t) (l : List Pc) : optO (lim * t) (scP t l) = optO lim l := by
  have e : wsO (scP t l) = (wsO l).map (· * t) := by
    rw [wsO_eq, wsO_eq, scP, List.flatMap_map, List.map_flatMap]
    simp only [List.map_replicate]
  unfold optO
  rw [e]
  exact optF_scale ht (wsO l) []
theorem cnt_scale (t : Int) (l : List Pc) : cntL (scP t l) = cntL l := by
  rw [cntL_eq, cntL_eq, scP, List.map_map]
  rfl
theorem order_scale {lim t : Int} {l : List Pc} (ht : 1 ≤ t) (ho : orderB l = true) (hm : ∀ k, k < l.length → (ix l k).len ≤ lim) (hlt : lim * t ≤ 1048576) : orderB (scP t l) = true ∧ ∀ k, k < (scP t l).length → (ix (scP t l) k).len ≤ lim * t := by
  have key : ∀ k, k < l.length → 1 ≤ (ix l k).len * t ∧ (ix l k).len * t ≤ lim * t := fun k hk => by
    obtain ⟨a, b, c, d⟩ := order_at ho hk
    have h1 := Int.mul_le_mul_of_nonneg_right (hm k hk) (show (0 : Int) ≤ t by omega)
    have h2 := Int.mul_le_mul_of_nonneg_right a (show (0 : Int) ≤ t by omega)
    omega
  refine ⟨order_of (by rw [scP_len]; exact order_len ho) fun k hk => ?_, fun k hk => ?_⟩
  · rw [scP_len] at hk
    rw [scP_ix hk]
    obtain ⟨a, b, c, d⟩ := order_at ho hk
    have := key k hk
    exact bad_no this.1 (Int.le_trans this.2 hlt) c d
  · rw [scP_len] at hk
    rw [scP_ix hk]
    exact (key k hk).2
end Go.Proofs.Ythlpfjcjfhdmaaa
