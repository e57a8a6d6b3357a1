/- Plain facts: the greedy plan. -/
import Derived.Test.YthlpfjcjfhdmaaaG
set_option maxRecDepth 100000
set_option linter.unusedSimpArgs false
set_option linter.unusedVariables false
namespace Go.Proofs.Ythlpfjcjfhdmaaa
open Go.RowKit
/-- The shortest kind of stock that is long enough, and not used up, of the first ones. -/
def kindT (s : List Pc) (u : List Int) (n : Int) : Nat → Int
  | 0 => -1
  | j + 1 => if n ≤ (ix s j).len ∧ ((ix s j).cnt < 0 ∨ ix u j < (ix s j).cnt) ∧ (kindT s u n j < 0 ∨ (ix s j).len < (ix s (kindT s u n j).toNat).len) then (j : Int) else kindT s u n j
theorem kindT_range (s : List Pc) (u : List Int) (n : Int) : ∀ j, -1 ≤ kindT s u n j ∧ kindT s u n j < j ∧ (0 ≤ kindT s u n j → n ≤ (ix s (kindT s u n j).toNat).len ∧ ((ix s (kindT s u n j).toNat).cnt < 0 ∨ ix u (kindT s u n j).toNat < (ix s (kindT s u n j).toNat).cnt))
  | 0 => by simp [kindT]
  | j + 1 => by
    have ih := kindT_range s u n j
    unfold kindT
    split
    · rename_i h
      refine ⟨by omega, by omega, fun _ => ?_⟩
      rw [Int.toNat_natCast]
      exact ⟨h.1, h.2.1⟩
    · exact ⟨ih.1, by omega, ih.2.2⟩
/-- A piece is cut from a length in use. -/
def cutB (i n : Int) (b : Br) : Br := ⟨b.kind, b.left - n, b.ps.set i.toNat (ix b.ps i.toNat + 1)⟩
def fitAt (n : Int) (o : List Br) : Nat := o.findIdx fun b => decide (n ≤ b.left)
def zeros (n : Nat) : List Int := List.replicate n 0
theorem zeros_ix {n k : Nat} : ix (zeros n) k = 0 := by
  unfold zeros ix
  rw [List.getD_eq_getElem?_getD, List.getElem?_replicate]
  split <;> rfl
theorem zeros_len (n : Nat) : (zeros n).length = n := by simp [zeros]
abbrev GSt := List Br × List Int
/-- A piece of line i. -/
def gst (s l : List Pc) (i : Int) (st : GSt) : Option GSt :=
  let n := (ix l i.toNat).len
  if fitAt n st.1 < st.1.length then some (st.1.set (fitAt n st.1) (cutB i n (ix st.1 (fitAt n st.1))), st.2)
  else if kindT s st.2 n s.length < 0 then none
  else some (st.1 ++ [cutB i n ⟨kindT s st.2 n s.length, (ix s (kindT s st.2 n s.length).toNat).len, zeros l.length⟩], st.2.set (kindT s st.2 n s.length).toNat (ix st.2 (kindT s st.2 n s.length).toNat + 1))
def gfold (s l : List Pc) : List Int → GSt → Option GSt
  | [], st => some st
  | i :: x, st => (gst s l i st).bind (gfold s l x)
def g0 (s : List Pc) : GSt := ([], zeros s.length)
/-- The lengths in use behind the first pieces, and all. -/
def gT (s l : List Pc) (k : Nat) : Option GSt := gfold s l ((longL l).take k) (g0 s)
def gA (s l : List Pc) : Option GSt := gfold s l (longL l) (g0 s)
theorem gfold_app (s l : List Pc) : ∀ (x y : List Int) (st : GSt), gfold s l (x ++ y) st = (gfold s l x st).bind (gfold s l y)
  | [], y, st => rfl
  | i :: x, y, st => by
    simp only [List.cons_append, gfold]
    cases gst s l i st with
    | none => rfl
    | some t => exact gfold_app s l x y t
theorem gT_succ {s l : List Pc} {k : Nat} (h : k < (longL l).length) : gT s l (k + 1) = (gT s l k).bind (gst s l (ix (longL l) k)) := by
  unfold gT
  rw [take_snoc h, gfold_app]
  congr 1
  funext st
  simp only [gfold]
  cases gst s l (ix (longL l) k) st <;> rfl
theorem gT_none {s l : List Pc} {k : Nat} (h : gT s l k = none) : gA s l = none := by
  unfold gA
  rw [← List.take_append_drop k (longL l), gfold_app]
  unfold gT at h
  rw [h]; rfl
theorem gT_all {s l : List Pc} : gT s l (longL l).length = gA s l := by
  unfold gT gA
  rw [List.take_length]
/-- What holds of lengths in use all the way. -/
structure GOk (s l : List Pc) (k : Nat) (st : GSt) : Prop where
  ulen : st.2.length = s.length
  used : ∀ j, j < s.length → 0 ≤ ix st.2 j ∧ ix st.2 j ≤ k
  olen : st.1.length ≤ k
  bar : ∀ b ∈ st.1, 0 ≤ b.kind ∧ b.kind < s.length ∧ 0 ≤ b.left ∧ b.left ≤ 1048576 ∧ b.ps.length = l.length ∧ ∀ j, j < l.length → 0 ≤ ix b.ps j ∧ ix b.ps j ≤ k
theorem cutB_ps {i n : Int} {b : Br} {L : Nat} (hb : b.ps.length = L) (hi : 0 ≤ i ∧ i < L) (k : Nat) (h : ∀ j, j < L → 0 ≤ ix b.ps j ∧ ix b.ps j ≤ k) : (cutB i n b).ps.length = L ∧ ∀ j, j < L → 0 ≤ ix (cutB i n b).ps j ∧ ix (cutB i n b).ps j ≤ (k + 1 : Nat) := by
  simp only [cutB, List.length_set]
  refine ⟨hb, fun j hj => ?_⟩
  have h1 := h j hj
  by_cases e : j = i.toNat
  · subst e
    rw [ix_set_self (by omega)]
    omega
  · rw [ix_set_ne e]; omega
theorem fitAt_le (n : Int) (o : List Br) : fitAt n o ≤ o.length := List.findIdx_le_length
theorem fitAt_fits {n : Int} {o : List Br} (h : fitAt n o < o.length) : n ≤ (ix o (fitAt n o)).left := by
  have h2 : decide (n ≤ (o[fitAt n o]'h).left) = true := List.findIdx_getElem (p := fun b : Br => decide (n ≤ b.left)) (xs := o) (w := h)
  rw [ix_eq h]
  exact of_decide_eq_true h2
theorem fitAt_no {n : Int} {o : List Br} {j : Nat} (h : j < fitAt n o) (hj : j < o.length) : ¬ n ≤ (ix o j).left := by
  have := List.not_of_lt_findIdx h
  rw [ix_eq hj]
  simpa using this
theorem idx_fit (n : Int) (o : List Br) : idxB (fun b : Br => decide (n ≤ b.left)) o 0 = if fitAt n o < o.length then (fitAt n o : Int) else -1 := by
  split
  · rename_i h
    rw [idxB_at _ o 0 (fitAt n o) h (fun j hj => by simpa using fitAt_no hj (by omega)) (by simpa using fitAt_fits h)]
    omega
  · rename_i h
    have := fitAt_le n o
    exact idxB_none _ o 0 fun j hj => by simpa using fitAt_no (n := n) (o := o) (j := j) (by omega) hj
theorem st_len {s : List Pc} (hs : stB s = true) {k : Nat} (hk : k < s.length) : 1 ≤ (ix s k).len ∧ (ix s k).len ≤ 1048576 ∧ -1 ≤ (ix s k).cnt ∧ (ix s k).cnt ≤ 1000000 := by
  have := (stB_yes.1 hs).2 k hk
  simp only [okS, lenB, Bool.and_eq_true, decide_eq_true_eq] at this
  omega
theorem gst_ok {s l : List Pc} (hs : stB s = true) (ho : orderB l = true) {k : Nat} {i : Int} {st st' : GSt} (h : GOk s l k st) (hi : 0 ≤ i ∧ i < l.length) (he : gst s l i st = some st') : GOk s l (k + 1) st' := by
  have hp := order_at ho (k := i.toNat) (by omega)
  unfold gst at he
  simp only at he
  split at he
  · rename_i hf
    simp only [Option.some.injEq] at he
    subst he
    have hm := ix_mem hf
    have hfit := fitAt_fits hf
    obtain ⟨b1, b2, b3, b4, b5, b6⟩ := h.bar _ hm
    obtain ⟨c1, c2⟩ := cutB_ps (n := (ix l i.toNat).len) b5 hi k b6
    refine ⟨h.ulen, fun j hj => by have := h.used j hj; simp only; omega, by simp only [List.length_set]; have := h.olen; omega, fun b hb => ?_⟩
    rcases List.mem_or_eq_of_mem_set hb with hb | rfl
    · obtain ⟨a1, a2, a3, a4, a5, a6⟩ := h.bar b hb
      exact ⟨a1, a2, a3, a4, a5, fun j hj => by have := a6 j hj; omega⟩
    · exact ⟨b1, b2, by simp only [cutB]; omega, by simp only [cutB]; omega, c1, c2⟩
  · split at he
    · cases he
    · rename_i hf hk
      simp only [Option.some.injEq] at he
      subst he
      have hr := kindT_range s st.2 (ix l i.toNat).len s.length
      have hst := st_len hs (k := (kindT s st.2 (ix l i.toNat).len s.length).toNat) (by omega)
      have hr3 := hr.2.2 (by omega)
      generalize kindT s st.2 (ix l i.toNat).len s.length = q at *
      obtain ⟨c1, c2⟩ := cutB_ps (n := (ix l i.toNat).len) (b := ⟨q, (ix s q.toNat).len, zeros l.length⟩) (zeros_len l.length) hi k (fun j hj => by simp only [zeros_ix]; omega)
      refine ⟨by simp only [List.length_set]; exact h.ulen, fun j hj => ?_, by simp only [List.length_append, List.length_cons, List.length_nil]; have := h.olen; omega, fun b hb => ?_⟩
      · have h1 := h.used j hj
        simp only
        by_cases e : j = q.toNat
        · subst e
          rw [ix_set_self (by rw [h.ulen]; omega)]
          omega
        · rw [ix_set_ne e]; omega
      · rcases List.mem_append.1 hb with hb | hb
        · obtain ⟨a1, a2, a3, a4, a5, a6⟩ := h.bar b hb
          exact ⟨a1, a2, a3, a4, a5, fun j hj => by have := a6 j hj; omega⟩
        · simp only [List.mem_singleton] at hb
          subst hb
          exact ⟨by simp only [cutB]; omega, by simp only [cutB]; omega, by simp only [cutB]; omega, by simp only [cutB]; omega, c1, c2⟩
theorem longL_mem {l : List Pc} {i : Int} (h : i ∈ longL l) : 0 ≤ i ∧ i < l.length := by
  unfold longL repF at h
  obtain ⟨j, h1, h2⟩ := List.mem_flatMap.1 h
  rw [List.eq_of_mem_replicate h2]
  exact lnO_mem h1
theorem gT_ok {s l : List Pc} (hs : stB s = true) (ho : orderB l = true) : ∀ k, k ≤ (longL l).length → ∀ st, gT s l k = some st → GOk s l k st
  | 0, _, st, h => by
    simp only [gT, List.take_zero, gfold, Option.some.injEq] at h
    subst h
    exact ⟨zeros_len _, fun j _ => by simp only [g0, zeros_ix]; omega, by simp [g0], by simp [g0]⟩
  | k + 1, hk, st, h => by
    rw [gT_succ (by omega)] at h
    obtain ⟨st0, h1, h2⟩ := Option.bind_eq_some_iff.1 h
    exact gst_ok hs ho (gT_ok hs ho k (by omega) st0 h1) (longL_mem (ix_mem (by omega))) h2
/-- The error of Greedy, and its plan. -/
def gErr (s l : List Pc) : Int := if stB s = false ∨ orderB l = false then 1 else if 1000 < cntL l then 4 else if gA s l = none then 22 else 0
def gRes (s l : List Pc) : List Pt := if gErr s l = 0 then patL ((gA s l).getD (g0 s)).1 else []
end Go.Proofs.Ythlpfjcjfhdmaaa
