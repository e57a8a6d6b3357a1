/- Plain facts: an order by sizes has as few changes as any. -/
import Derived.Test.YtgbldceimdjblaaBD
set_option maxRecDepth 100000
set_option linter.unusedSimpArgs false
set_option linter.unusedVariables false
namespace Go.Proofs.Ytgbldceimdjblaa
/-- How many different numbers there are. -/
def nd : List Int → Int
  | [] => 0
  | x :: l => if x ∈ l then nd l else nd l + 1
theorem nd_perm {l m : List Int} (h : l.Perm m) : nd l = nd m := by
  induction h with
  | nil => rfl
  | cons x hp ih => simp only [nd, hp.mem_iff, ih]
  | swap x y l =>
    simp only [nd, List.mem_cons]
    by_cases e : x = y
    · subst e; simp
    · have e2 : ¬y = x := fun h => e h.symm
      by_cases h1 : x ∈ l <;> by_cases h2 : y ∈ l <;> simp [h1, h2, e, e2]
  | trans _ _ h1 h2 => exact h1.trans h2
theorem nd_snoc (l : List Int) (x : Int) : nd (l ++ [x]) = if x ∈ l then nd l else nd l + 1 := by
  rw [nd_perm (List.perm_append_comm (l₁ := l) (l₂ := [x]))]
  rfl
theorem nd_pos : ∀ (l : List Int), 0 ≤ nd l ∧ nd l ≤ l.length ∧ (l ≠ [] → 1 ≤ nd l)
  | [] => by simp [nd]
  | x :: l => by
    obtain ⟨h1, h2, h3⟩ := nd_pos l
    simp only [nd, List.length_cons]
    split
    · rename_i h
      have : l ≠ [] := fun e => by rw [e] at h; simp at h
      have := h3 this
      exact ⟨h1, by omega, fun _ => this⟩
    · exact ⟨by omega, by omega, fun _ => by omega⟩
/-- The sizes of the first lines of an order. -/
def szT (l : List Br) (o : List Int) (k : Nat) : List Int := (o.take k).map fun x => (ix l x.toNat).size
theorem szT_succ {l : List Br} {o : List Int} {k : Nat} (h : k < o.length) : szT l o (k + 1) = szT l o k ++ [(ix l (ix o k).toNat).size] := by
  simp only [szT]
  rw [List.take_add_one, List.getElem?_eq_getElem h, ← ix_eq h]
  simp
theorem szT_mem {l : List Br} {o : List Int} {k : Nat} (hk : k ≤ o.length) {v : Int} : v ∈ szT l o k ↔ ∃ j, j < k ∧ (ix l (ix o j).toNat).size = v := by
  simp only [szT, List.mem_map]
  constructor
  · rintro ⟨x, hx, rfl⟩
    obtain ⟨j, hj, rfl⟩ := List.getElem_of_mem hx
    rw [List.length_take] at hj
    refine ⟨j, by omega, ?_⟩
    rw [List.getElem_take, ix_eq (l := o) (k := j) (by omega)]
  · rintro ⟨j, hj, rfl⟩
    refine ⟨ix o j, ?_, rfl⟩
    rw [ix_eq (by omega), ← List.getElem_take (j := k) (h := by simp; omega)]
    exact List.getElem_mem _
theorem chg_ge (l : List Br) (o : List Int) : ∀ k, k ≤ o.length → nd (szT l o k) - 1 ≤ chgN l o k
  | 0, _ => by simp [szT, nd, chgN]
  | k + 1, h => by
    have ih := chg_ge l o k (by omega)
    rw [szT_succ (by omega), nd_snoc]
    simp only [chgN]
    by_cases hm : (ix l (ix o k).toNat).size ∈ szT l o k
    · rw [if_pos hm]
      split <;> omega
    · rw [if_neg hm]
      by_cases h0 : k = 0
      · subst h0
        have := chgN_in l o 0
        simp [szT, nd] at *
        split <;> omega
      · have hb : chgB l o k = true := by
          simp only [chgB, Bool.and_eq_true, decide_eq_true_eq, Bool.not_eq_true', decide_eq_false_iff_not]
          exact ⟨by omega, fun e => hm ((szT_mem (by omega)).mpr ⟨k - 1, by omega, e.symm⟩)⟩
        rw [if_pos hb]
        omega
theorem chg_eq (l : List Br) (o : List Int) (hs : ∀ i j, i < j → j < o.length → (ix l (ix o i).toNat).size ≤ (ix l (ix o j).toNat).size) : ∀ k, k ≤ o.length → chgN l o k = max 0 (nd (szT l o k) - 1)
  | 0, _ => by simp [szT, nd, chgN]; omega
  | k + 1, h => by
    have ih := chg_eq l o hs k (by omega)
    have hp := nd_pos (szT l o k)
    rw [szT_succ (by omega), nd_snoc]
    simp only [chgN]
    by_cases h0 : k = 0
    · subst h0
      have hb : chgB l o 0 = false := by simp [chgB]
      simp [szT, nd, hb, chgN]
    have hne : szT l o k ≠ [] := fun e => by
      have := congrArg List.length e
      rw [szT, List.length_map, List.length_take, List.length_nil] at this
      omega
    have hp3 := hp.2.2 hne
    by_cases he : (ix l (ix o k).toNat).size = (ix l (ix o (k - 1)).toNat).size
    · have hb : chgB l o k = false := by simp [chgB, he]
      have hm : (ix l (ix o k).toNat).size ∈ szT l o k := (szT_mem (by omega)).mpr ⟨k - 1, by omega, he.symm⟩
      rw [if_pos hm, hb]
      simpa using ih
    · have hb : chgB l o k = true := by simp [chgB, he]; omega
      have hm : ¬(ix l (ix o k).toNat).size ∈ szT l o k := fun hm => by
        obtain ⟨j, j1, j2⟩ := (szT_mem (by omega)).mp hm
        have a1 := hs (k - 1) k (by omega) (by omega)
        have a2 : (ix l (ix o j).toNat).size ≤ (ix l (ix o (k - 1)).toNat).size := by
          by_cases e : j = k - 1
          · rw [e]; exact Int.le_refl _
          · exact hs j (k - 1) (by omega) (by omega)
        omega
      rw [if_neg hm, hb]
      simp only [if_true]
      omega
/-- The sizes of all bars. -/
def szA (l : List Br) (k : Nat) : List Int := (List.range k).map fun j => (ix l j).size
theorem szA_succ (l : List Br) (k : Nat) : szA l (k + 1) = szA l k ++ [(ix l k).size] := by simp [szA, List.range_succ]
theorem szT_all {l : List Br} {o : List Int} (h : o.Perm (allI l.length)) : (szT l o o.length).Perm (szA l l.length) := by
  rw [szT, List.take_length]
  refine (h.map _).trans ?_
  rw [allI, List.map_map, szA]
  exact .refl _
def Ks (l : List Br) (x : Int) : Int := (ix l x.toNat).size * 100 + x
def sortS (l : List Br) : List Int := sortK (Ks l) (allI l.length)
theorem sortS_perm (l : List Br) : (sortS l).Perm (allI l.length) := sortK_perm _ _
theorem sortS_len (l : List Br) : (sortS l).length = l.length := by rw [(sortS_perm l).length_eq]; simp [allI]
theorem sortS_chg {l : List Br} (hl : l.length ≤ 100) : chgN l (sortS l) (sortS l).length = max 0 (nd (szA l l.length) - 1) := by
  rw [chg_eq l (sortS l) (fun i j hij hj => ?_) _ (Nat.le_refl _), nd_perm (szT_all (sortS_perm l))]
  have h := List.pairwise_iff_getElem.mp (sortK_up (Ks l) (allI l.length)) i j (by have := sortS_len l; unfold sortS at this; unfold sortS at hj; omega) hj hij
  have e1 : ix (sortS l) i = (sortK (Ks l) (allI l.length))[i]'(by unfold sortS at hj; omega) := ix_eq _
  have e2 : ix (sortS l) j = (sortK (Ks l) (allI l.length))[j]'(by unfold sortS at hj; omega) := ix_eq _
  rw [← e1, ← e2] at h
  have a1 := mem_allI.mp ((sortS_perm l).mem_iff.mp (ix_mem (l := sortS l) (k := i) (by omega)))
  have a2 := mem_allI.mp ((sortS_perm l).mem_iff.mp (ix_mem (l := sortS l) (k := j) hj))
  simp only [Ks] at h
  omega
theorem any_chg {l : List Br} {o : List Int} (h : o.Perm (allI l.length)) : max 0 (nd (szA l l.length) - 1) ≤ chgN l o o.length := by
  have h1 := chg_ge l o o.length (Nat.le_refl _)
  have h2 := chgN_in l o o.length
  rw [nd_perm (szT_all h)] at h1
  omega
end Go.Proofs.Ytgbldceimdjblaa
