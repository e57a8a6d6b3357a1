/- Plain facts: the bound; Johnson's order is an order. -/
import Derived.Test.YtgbldceimdjblaaT
set_option maxRecDepth 100000
set_option linter.unusedSimpArgs false
set_option linter.unusedVariables false
namespace Go.Proofs.Ytgbldceimdjblaa
theorem ord_ok {n : Nat} {o : List Int} (h : o.Perm (allI n)) : ordE n o = 0 := by
  have hl : o.length = n := by rw [h.length_eq]; simp [allI]
  have hd : o.Nodup := (h.nodup_iff).mpr (allI_nodup n)
  rw [ordE, if_pos (by omega)]
  refine scan_none _ _ fun j _ hj => ?_
  have hj : j < o.length := by omega
  have h1 := mem_allI.mp (h.mem_iff.mp (ix_mem hj))
  rw [badO, if_neg (by omega), if_neg]
  rw [anyV_take (by omega)]
  rintro ⟨i, hi, e⟩
  rw [List.nodup_iff_pairwise_ne, List.pairwise_iff_getElem] at hd
  have := hd i j (by omega) hj hi
  rw [ix_eq (by omega), ix_eq hj] at e
  exact this e
theorem sum_cuts (l : List Jb) : ∀ n, sumI (cu l) (allI n) = cutsN l n
  | 0 => rfl
  | n + 1 => by
    have e : (allI (n + 1)).Perm ((n : Int) :: allI n) := by
      simp only [allI, List.range_succ, List.map_append, List.map_cons, List.map_nil]
      exact List.perm_append_comm
    rw [sumI_perm e, sumI, sum_cuts l n, cutsN, cu, Int.toNat_natCast]
    omega
theorem sum_bends (l : List Jb) : ∀ n, sumI (be l) (allI n) = bendsN l n
  | 0 => rfl
  | n + 1 => by
    have e : (allI (n + 1)).Perm ((n : Int) :: allI n) := by
      simp only [allI, List.range_succ, List.map_append, List.map_cons, List.map_nil]
      exact List.perm_append_comm
    rw [sumI_perm e, sumI, sum_bends l n, bendsN, be, Int.toNat_natCast]
    omega
theorem leastC_le (l : List Jb) : ∀ n i, i < n → leastC l n ≤ (ix l i).cut
  | n + 1, i, h => by
    simp only [leastC]
    by_cases e : i = n
    · subst e; omega
    · have := leastC_le l n i (by omega)
      omega
theorem leastB_le (l : List Jb) : ∀ n i, i < n → leastB l n ≤ (ix l i).bend
  | n + 1, i, h => by
    simp only [leastB]
    by_cases e : i = n
    · subst e; omega
    · have := leastB_le l n i (by omega)
      omega
theorem bothN_le (l : List Jb) {F : Int} (h0 : 0 ≤ F) : ∀ n, (∀ i, i < n → (ix l i).cut + (ix l i).bend ≤ F) → bothN l n ≤ F
  | 0, _ => h0
  | n + 1, h => by
    have h1 := bothN_le l h0 n fun i hi => h i (by omega)
    have h2 := h n (by omega)
    simp only [bothN]
    omega
theorem lag_least (l : List Jb) (m : Int) : ∀ (o : List Int) (d : Int), o ≠ [] → (∀ x ∈ o, m ≤ be l x) → m ≤ lagL l d o
  | [], _, h, _ => absurd rfl h
  | [x], d, _, h => by
    have := h x (by simp)
    simp only [lagL, List.foldl_cons, List.foldl_nil, lagD]
    omega
  | x :: y :: o, d, _, h => lag_least l m (y :: o) (lagD l d x) (by simp) fun z hz => h z (List.mem_cons_of_mem _ hz)
theorem lag_sum (l : List Jb) : ∀ (o : List Int) (d : Int), d + sumI (be l) o ≤ sumI (cu l) o + lagL l d o
  | [], d => by simp [sumI, lagL]
  | x :: o, d => by
    have h1 := lag_sum l o (lagD l d x)
    have h2 : lagL l d (x :: o) = lagL l (lagD l d x) o := rfl
    have h3 : d - cu l x + be l x ≤ lagD l d x := by simp only [lagD]; omega
    rw [h2]
    simp only [sumI]
    omega
theorem bound_le {l : List Jb} (hv : validB l = true) {o : List Int} (ho : o.Perm (allI l.length)) : boundE l ≤ (runR l o).fin := by
  have hl : o.length = l.length := by rw [ho.length_eq]; simp [allI]
  obtain ⟨o1, o2⟩ := ordE_0 (ord_ok ho)
  have F := run_f hv hl (fun j hj => ⟨(o2 j hj).1, (o2 j hj).2.1⟩) (fun j i hj hi => (o2 j hj).2.2 i hi)
  have hbd := run_bound hv (fun j hj => ⟨(o2 j hj).1, (o2 j hj).2.1⟩) o.length (Nat.le_refl _)
  rw [List.take_length] at hbd
  unfold boundE
  by_cases h0 : l.length = 0
  · rw [if_pos h0]
    exact hbd.2.2.1
  rw [if_neg h0]
  have hne : o ≠ [] := fun e => by rw [e] at hl; simp at hl; omega
  have ok : ∀ x ∈ o, 0 ≤ x ∧ x < l.length := fun x hx => mem_allI.mp (ho.mem_iff.mp hx)
  have e1 : sumI (cu l) o = cutsN l l.length := by rw [sumI_perm ho, sum_cuts]
  have e2 : sumI (be l) o = bendsN l l.length := by rw [sumI_perm ho, sum_bends]
  have b1 := lag_least l (leastB l l.length) o 0 hne fun x hx => leastB_le l l.length x.toNat (by have := ok x hx; omega)
  have b3 := bothN_le l hbd.2.2.1 l.length fun i hi => by
    have := F.one i hi
    omega
  have hf := fin_lag l o
  have b2 : leastC l l.length + bendsN l l.length ≤ (runR l o).fin := by
    cases o with
    | nil => exact absurd rfl hne
    | cons x o' =>
      have hx := ok x (by simp)
      have c1 := leastC_le l l.length x.toNat (by omega)
      have c2 := lag_sum l o' (be l x)
      have c3 := (jbOk hv hx).2.1.1
      have c4 : lagL l 0 (x :: o') = lagL l (be l x) o' := by
        show lagL l (lagD l 0 x) o' = _
        rw [show lagD l 0 x = be l x by simp only [lagD]; omega]
      have c5 : (ix l x.toNat).cut = cu l x := rfl
      rw [c4] at hf
      simp only [sumI] at hf e2
      omega
  omega
end Go.Proofs.Ytgbldceimdjblaa
