/- Plain facts: exchanged, further and longer jobs. -/
import Derived.Test.YtgbldceimdjblaaU
set_option maxRecDepth 100000
set_option linter.unusedSimpArgs false
set_option linter.unusedVariables false
namespace Go.Proofs.Ytgbldceimdjblaa
/-- The length of an order. -/
def finL (l : List Jb) (o : List Int) : Int := sumI (cu l) o + lagL l 0 o
theorem sumI_app (f : Int → Int) : ∀ (o p : List Int), sumI f (o ++ p) = sumI f o + sumI f p
  | [], p => by simp [sumI]
  | x :: o, p => by simp only [List.cons_append, sumI, sumI_app f o p]; omega
theorem finL_snoc (l : List Jb) (o : List Int) (x : Int) : finL l (o ++ [x]) = max (finL l o) (sumI (cu l) o + cu l x) + be l x := by
  have e : lagL l 0 (o ++ [x]) = lagD l (lagL l 0 o) x := by simp [lagL]
  rw [finL, finL, e, sumI_app]
  simp only [sumI, lagD]
  omega
theorem lag_path (l : List Jb) : ∀ (o : List Int) (d : Int), (∀ x ∈ o, 0 ≤ cu l x ∧ 0 ≤ be l x) → 0 ≤ d → sumI (cu l) o + lagL l d o = max (d + sumI (be l) o) (finL l o)
  | [], d, _, h => by simp only [sumI, lagL, List.foldl_nil, finL]; omega
  | x :: o, d, h, hd => by
    have hx := h x (by simp)
    have h1 := lag_path l o (lagD l d x) (fun y hy => h y (by simp [hy])) (by simp only [lagD]; omega)
    have h2 := lag_path l o (lagD l 0 x) (fun y hy => h y (by simp [hy])) (by simp only [lagD]; omega)
    have e1 : lagL l d (x :: o) = lagL l (lagD l d x) o := rfl
    have e2 : lagL l 0 (x :: o) = lagL l (lagD l 0 x) o := rfl
    have e3 : lagD l d x = max 0 (d - cu l x) + be l x := rfl
    have e4 : lagD l 0 x = be l x := by simp only [lagD]; omega
    rw [finL, e1, e2]
    simp only [sumI]
    omega
theorem finL_cons (l : List Jb) (o : List Int) (x : Int) (h : ∀ y ∈ x :: o, 0 ≤ cu l y ∧ 0 ≤ be l y) : finL l (x :: o) = cu l x + max (be l x + sumI (be l) o) (finL l o) := by
  have hx := h x (by simp)
  have e4 : lagD l 0 x = be l x := by simp only [lagD]; omega
  have h2 := lag_path l o (be l x) (fun y hy => h y (by simp [hy])) hx.2
  have e2 : lagL l 0 (x :: o) = lagL l (be l x) o := by rw [← e4]; rfl
  have e5 : finL l (x :: o) = sumI (cu l) (x :: o) + lagL l 0 (x :: o) := rfl
  rw [e5, e2]
  simp only [sumI]
  omega
/-- Cutting and bending exchanged. -/
def turnJ (l : List Jb) : List Jb := l.map fun x => ⟨x.mark, x.bend, x.cut⟩
theorem turnJ_len (l : List Jb) : (turnJ l).length = l.length := by simp [turnJ]
theorem turnJ_ix {l : List Jb} {k : Nat} (h : k < l.length) : ix (turnJ l) k = ⟨(ix l k).mark, (ix l k).bend, (ix l k).cut⟩ := by
  rw [ix_eq (by rw [turnJ_len]; exact h), ix_eq h]
  simp [turnJ]
theorem turn_rev {l l' : List Jb} : ∀ (o : List Int), (∀ x ∈ o, 0 ≤ cu l x ∧ 0 ≤ be l x) → (∀ x ∈ o, cu l' x = be l x ∧ be l' x = cu l x) → finL l' o.reverse = finL l o ∧ sumI (cu l') o.reverse = sumI (be l) o
  | [], _, _ => ⟨rfl, rfl⟩
  | x :: o, h, he => by
    obtain ⟨i1, i2⟩ := turn_rev o (fun y hy => h y (by simp [hy])) fun y hy => he y (by simp [hy])
    obtain ⟨e1, e2⟩ := he x (by simp)
    rw [List.reverse_cons, finL_snoc, finL_cons l o x h, i1, i2, sumI_app, i2, e1, e2]
    simp only [sumI, e1]
    omega
theorem fin_finL (l : List Jb) (o : List Int) : (runR l o).fin = finL l o := fin_lag l o
theorem validB_iff {l : List Jb} : validB l = true ↔ l.length ≤ 60 ∧ ∀ i, i < l.length → okAt l i = true := by
  simp only [validB, Bool.and_eq_true, decide_eq_true_eq, List.all_eq_true, List.mem_range]
theorem turnJ_valid {l : List Jb} (h : validB l = true) : validB (turnJ l) = true := by
  rw [validB_iff] at h ⊢
  rw [turnJ_len]
  refine ⟨h.1, fun i hi => ?_⟩
  have := h.2 i hi
  simp only [okAt, turnJ_ix hi] at this ⊢
  have e : ((turnJ l).take i).any (fun y => eqN y.mark (ix l i).mark) = (l.take i).any fun y => eqN y.mark (ix l i).mark := by
    rw [turnJ, ← List.map_take, List.any_map]
    rfl
  rw [e]
  simp only [Bool.and_eq_true] at this ⊢
  exact ⟨⟨⟨this.1.1.1, this.1.2⟩, this.1.1.2⟩, this.2⟩
theorem turn_le {l l' : List Jb} (hv : validB l = true) (hv' : validB l' = true) (hl : l'.length = l.length) (he : ∀ x : Int, 0 ≤ x ∧ x < l.length → cu l' x = be l x ∧ be l' x = cu l x) : (runR l' (johnE l')).fin ≤ (runR l (johnE l)).fin := by
  have ok : ∀ x ∈ johnE l, 0 ≤ x ∧ x < l.length := fun x hx => mem_allI.mp ((john_perm l).mem_iff.mp hx)
  have h1 := (turn_rev (l := l) (l' := l') (johnE l) (fun x hx => by
    have := jbOk hv (ok x hx)
    exact ⟨this.2.1.1, this.2.2.1⟩) fun x hx => he x (ok x hx)).1
  have h2 := john_best hv' (o := (johnE l).reverse) (by rw [hl]; exact (List.reverse_perm _).trans (john_perm l))
  rw [fin_finL l' (johnE l).reverse, h1] at h2
  rw [fin_finL l (johnE l)]
  exact h2
theorem turn_fin {l : List Jb} (hv : validB l = true) : (runR (turnJ l) (johnE (turnJ l))).fin = (runR l (johnE l)).fin := by
  have hv' := turnJ_valid hv
  refine Int.le_antisymm (turn_le hv hv' (turnJ_len l) fun x hx => ?_) (turn_le hv' hv (turnJ_len l).symm fun x hx => ?_)
  · simp only [cu, be, turnJ_ix (show x.toNat < l.length by omega)]
    exact ⟨trivial, trivial⟩
  · rw [turnJ_len] at hx
    simp only [cu, be, turnJ_ix (show x.toNat < l.length by omega)]
    exact ⟨trivial, trivial⟩
/-- Fewer and shorter jobs are not done later. -/
theorem run_le {l l' : List Jb} {p : Int → Bool} : ∀ (o : List Int) (s s' : Rn), (∀ x ∈ o, 0 ≤ cu l' x ∧ 0 ≤ be l' x ∧ (p x = true → cu l x ≤ cu l' x ∧ be l x ≤ be l' x)) → s.at_ ≤ s'.at_ → s.fin ≤ s'.fin →
    ((o.filter p).foldl (stepR l) s).fin ≤ (o.foldl (stepR l') s').fin
  | [], s, s', _, _, h2 => h2
  | x :: o, s, s', h, h1, h2 => by
    obtain ⟨x1, x2, x3⟩ := h x (by simp)
    have e1 : (stepR l' s' x).at_ = s'.at_ + cu l' x := rfl
    have e2 : (stepR l' s' x).fin = max (s'.at_ + cu l' x) s'.fin + be l' x := rfl
    rw [List.foldl_cons]
    by_cases hp : p x = true
    · rw [List.filter_cons_of_pos hp, List.foldl_cons]
      obtain ⟨x4, x5⟩ := x3 hp
      have e3 : (stepR l s x).at_ = s.at_ + cu l x := rfl
      have e4 : (stepR l s x).fin = max (s.at_ + cu l x) s.fin + be l x := rfl
      exact run_le o _ _ (fun y hy => h y (by simp [hy])) (by omega) (by omega)
    · rw [List.filter_cons_of_neg hp]
      exact run_le o _ _ (fun y hy => h y (by simp [hy])) (by omega) (by omega)
theorem run_le0 {l l' : List Jb} {p : Int → Bool} (o : List Int) (h : ∀ x ∈ o, 0 ≤ cu l' x ∧ 0 ≤ be l' x ∧ (p x = true → cu l x ≤ cu l' x ∧ be l x ≤ be l' x)) : (runR l (o.filter p)).fin ≤ (runR l' o).fin := run_le o _ _ h (Int.le_refl _) (Int.le_refl _)
theorem ix_append_lt {l m : List Jb} {k : Nat} (h : k < l.length) : ix (l ++ m) k = ix l k := by
  rw [ix_eq (by simp; omega), ix_eq h, List.getElem_append_left h]
theorem further_fin {l : List Jb} {x : Jb} (hv : validB l = true) (hv' : validB (l ++ [x]) = true) : (runR l (johnE l)).fin ≤ (runR (l ++ [x]) (johnE (l ++ [x]))).fin := by
  have hp := john_perm (l ++ [x])
  have hf : ((johnE (l ++ [x])).filter fun y => y != (l.length : Int)).Perm (allI l.length) := by
    refine (hp.filter _).trans ?_
    rw [List.length_append, List.length_singleton]
    have e : allI (l.length + 1) = allI l.length ++ [(l.length : Int)] := by simp [allI, List.range_succ]
    rw [e, List.filter_append]
    have e2 : (allI l.length).filter (fun y => y != (l.length : Int)) = allI l.length := by
      rw [List.filter_eq_self]
      intro y hy
      have := mem_allI.mp hy
      simp only [bne_iff_ne, ne_eq]
      omega
    rw [e2]
    simp
  refine Int.le_trans (john_best hv hf) (run_le0 _ fun y hy => ?_)
  have hy := mem_allI.mp (hp.mem_iff.mp hy)
  have ok := jbOk hv' hy
  refine ⟨ok.2.1.1, ok.2.2.1, fun hne => ?_⟩
  simp only [bne_iff_ne, ne_eq] at hne
  rw [List.length_append, List.length_singleton] at hy
  simp only [cu, be, ix_append_lt (m := [x]) (show y.toNat < l.length by omega)]
  omega
/-- A job whose bending is longer. -/
def longJ (l : List Jb) (w : Nat) (b : Int) : List Jb := l.set w ⟨(ix l w).mark, (ix l w).cut, (ix l w).bend + b⟩
theorem longJ_len (l : List Jb) (w : Nat) (b : Int) : (longJ l w b).length = l.length := by simp [longJ]
theorem longJ_ix {l : List Jb} {w k : Nat} {b : Int} (h : k < l.length) : ix (longJ l w b) k = if w = k then ⟨(ix l w).mark, (ix l w).cut, (ix l w).bend + b⟩ else ix l k := by
  rw [ix_eq (by rw [longJ_len]; exact h), ix_eq h]
  simp only [longJ, List.getElem_set]
theorem longer_fin {l : List Jb} {w : Nat} {b : Int} (hb : 0 ≤ b) (hv : validB l = true) (hv' : validB (longJ l w b) = true) : (runR l (johnE l)).fin ≤ (runR (longJ l w b) (johnE (longJ l w b))).fin := by
  have hp := john_perm (longJ l w b)
  rw [longJ_len] at hp
  have hf : ((johnE (longJ l w b)).filter fun _ => true) = johnE (longJ l w b) := by simp
  have := run_le0 (l := l) (l' := longJ l w b) (p := fun _ => true) (johnE (longJ l w b)) fun y hy => by
    have hy := mem_allI.mp (hp.mem_iff.mp hy)
    have ok := jbOk hv' (x := y) (by rw [longJ_len]; exact hy)
    refine ⟨ok.2.1.1, ok.2.2.1, fun _ => ?_⟩
    simp only [cu, be, longJ_ix (show y.toNat < l.length by omega)]
    by_cases e : w = y.toNat
    · rw [if_pos e, e]
      exact ⟨Int.le_refl _, show (ix l y.toNat).bend ≤ (ix l y.toNat).bend + b by omega⟩
    · rw [if_neg e]
      exact ⟨Int.le_refl _, Int.le_refl _⟩
  rw [hf] at this
  exact Int.le_trans (john_best hv hp) this
end Go.Proofs.Ytgbldceimdjblaa
