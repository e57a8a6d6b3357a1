/- Plain facts: no order is shorter than Johnson's. -/
import Derived.Test.YtgbldceimdjblaaR
set_option maxRecDepth 100000
set_option linter.unusedSimpArgs false
set_option linter.unusedVariables false
namespace Go.Proofs.Ytgbldceimdjblaa
def cu (l : List Jb) (x : Int) : Int := (ix l x.toNat).cut
def be (l : List Jb) (x : Int) : Int := (ix l x.toNat).bend
/-- By how much the bending lags behind the cutting. -/
def lagD (l : List Jb) (d x : Int) : Int := max 0 (d - cu l x) + be l x
def lagL (l : List Jb) (d : Int) (o : List Int) : Int := o.foldl (lagD l) d
def sumI (f : Int → Int) : List Int → Int
  | [] => 0
  | x :: o => f x + sumI f o
theorem sumI_perm {f : Int → Int} {o p : List Int} (h : o.Perm p) : sumI f o = sumI f p := by
  induction h with
  | nil => rfl
  | cons x _ ih => simp only [sumI, ih]
  | swap x y l => simp only [sumI]; omega
  | trans _ _ h1 h2 => exact h1.trans h2
theorem run_lag (l : List Jb) : ∀ (o : List Int) (s : Rn), (o.foldl (stepR l) s).at_ = s.at_ + sumI (cu l) o ∧ (o.foldl (stepR l) s).fin = s.at_ + sumI (cu l) o + lagL l (s.fin - s.at_) o
  | [], s => by simp only [List.foldl_nil, sumI, lagL]; omega
  | x :: o, s => by
    obtain ⟨h1, h2⟩ := run_lag l o (stepR l s x)
    have e1 : (stepR l s x).at_ = s.at_ + cu l x := rfl
    have e2 : (stepR l s x).fin - (stepR l s x).at_ = lagD l (s.fin - s.at_) x := by
      simp only [stepR, lagD, cu, be]
      omega
    rw [e1] at h1 h2
    rw [e1] at e2
    rw [e2] at h2
    simp only [List.foldl_cons, sumI, lagL] at h1 h2 ⊢
    omega
theorem fin_lag (l : List Jb) (o : List Int) : (runR l o).fin = sumI (cu l) o + lagL l 0 o := by
  have := (run_lag l o run0).2
  simp only [run0] at this
  rw [runR, show run0 = ⟨fun _ => 0, fun _ => 0, 0, 0⟩ from rfl, this]
  simp
theorem lag_mono (l : List Jb) : ∀ (o : List Int) {d e : Int}, d ≤ e → lagL l d o ≤ lagL l e o
  | [], _, _, h => h
  | x :: o, d, e, h => lag_mono l o (show lagD l d x ≤ lagD l e x by simp only [lagD]; omega)
/-- Johnson's order as one number. -/
def KB (l : List Jb) (x : Int) : Int := if cu l x ≤ be l x then cu l x * 100 + x else 3000000 - be l x * 100 + x
def JbOk (l : List Jb) (x : Int) : Prop := (0 ≤ x ∧ x < 100) ∧ (0 ≤ cu l x ∧ cu l x ≤ 10000) ∧ 0 ≤ be l x ∧ be l x ≤ 10000
theorem kb_min {l : List Jb} {x y : Int} (hx : JbOk l x) (hy : JbOk l y) (h : KB l x ≤ KB l y) : min (cu l x) (be l y) ≤ min (cu l y) (be l x) := by
  obtain ⟨⟨x1, x2⟩, ⟨x3, x4⟩, x5, x6⟩ := hx
  obtain ⟨⟨y1, y2⟩, ⟨y3, y4⟩, y5, y6⟩ := hy
  unfold KB at h
  split at h <;> split at h <;> omega
theorem exch {l : List Jb} {x y : Int} (d : Int) (h : min (cu l x) (be l y) ≤ min (cu l y) (be l x)) : lagD l (lagD l d x) y ≤ lagD l (lagD l d y) x := by
  simp only [lagD]
  omega
theorem kb_inj {l : List Jb} {x y : Int} (hx : JbOk l x) (hy : JbOk l y) (h : KB l x = KB l y) : x = y := by
  obtain ⟨⟨x1, x2⟩, ⟨x3, x4⟩, x5, x6⟩ := hx
  obtain ⟨⟨y1, y2⟩, ⟨y3, y4⟩, y5, y6⟩ := hy
  unfold KB at h
  split at h <;> split at h <;> omega
def insK (K : Int → Int) (x : Int) : List Int → List Int
  | [] => [x]
  | y :: s => if K x ≤ K y then x :: y :: s else y :: insK K x s
def isortK (K : Int → Int) : List Int → List Int
  | [] => []
  | x :: o => insK K x (isortK K o)
theorem insK_perm (K : Int → Int) (x : Int) : ∀ s, (insK K x s).Perm (x :: s)
  | [] => .refl _
  | y :: s => by
    unfold insK
    split
    · exact .refl _
    · exact ((insK_perm K x s).cons y).trans (List.Perm.swap x y s)
theorem isortK_perm (K : Int → Int) : ∀ o, (isortK K o).Perm o
  | [] => .refl _
  | x :: o => (insK_perm K x _).trans ((isortK_perm K o).cons x)
theorem insK_up (K : Int → Int) (x : Int) : ∀ s, (s.Pairwise fun a b => K a ≤ K b) → (insK K x s).Pairwise fun a b => K a ≤ K b
  | [], _ => by simp [insK]
  | y :: s, h => by
    rw [List.pairwise_cons] at h
    unfold insK
    split
    · rename_i e
      rw [List.pairwise_cons, List.pairwise_cons]
      refine ⟨fun z hz => ?_, h⟩
      rcases List.mem_cons.mp hz with rfl | hz
      · exact e
      · exact Int.le_trans e (h.1 z hz)
    · rename_i e
      rw [List.pairwise_cons]
      refine ⟨fun z hz => ?_, insK_up K x s h.2⟩
      rcases List.mem_cons.mp ((insK_perm K x s).mem_iff.mp hz) with rfl | hz
      · omega
      · exact h.1 z hz
theorem isortK_up (K : Int → Int) : ∀ o, (isortK K o).Pairwise fun a b => K a ≤ K b
  | [] => .nil
  | x :: o => insK_up K x _ (isortK_up K o)
theorem lag_ins (l : List Jb) (x : Int) (hx : JbOk l x) : ∀ (s : List Int) (d : Int), (∀ y ∈ s, JbOk l y) → lagL l d (insK (KB l) x s) ≤ lagL l d (x :: s)
  | [], d, _ => Int.le_refl _
  | y :: s, d, h => by
    unfold insK
    split
    · exact Int.le_refl _
    · rename_i e
      have h1 := lag_ins l x hx s (lagD l d y) fun z hz => h z (by simp [hz])
      have h2 := exch (l := l) (x := y) (y := x) d (kb_min (h y (by simp)) hx (by omega))
      exact Int.le_trans h1 (lag_mono l s h2)
theorem lag_isort (l : List Jb) : ∀ (o : List Int) (d : Int), (∀ y ∈ o, JbOk l y) → lagL l d (isortK (KB l) o) ≤ lagL l d o
  | [], d, _ => Int.le_refl _
  | x :: o, d, h => by
    have h1 := lag_ins l x (h x (by simp)) (isortK (KB l) o) d fun y hy => h y (by simp [(isortK_perm _ o).mem_iff.mp hy])
    exact Int.le_trans h1 (lag_isort l o (lagD l d x) fun y hy => h y (by simp [hy]))
/-- All indices. -/
def allI (n : Nat) : List Int := (List.range n).map fun (i : Nat) => (i : Int)
theorem mem_allI {n : Nat} {x : Int} : x ∈ allI n ↔ 0 ≤ x ∧ x < n := by
  simp only [allI, List.mem_map, List.mem_range]
  exact ⟨fun ⟨i, h, e⟩ => by omega, fun h => ⟨x.toNat, by omega, by omega⟩⟩
theorem jbOk {l : List Jb} (hv : validB l = true) {x : Int} (h : 0 ≤ x ∧ x < l.length) : JbOk l x := by
  have h1 := validB_at hv (show x.toNat < l.length by omega)
  have h2 := validB_len hv
  exact ⟨⟨h.1, by omega⟩, ⟨h1.1, h1.2.1⟩, h1.2.2.1, h1.2.2.2⟩
theorem picks_perm (l : List Jb) : ∀ n, (picks l true n ++ picks l false n).Perm (allI n)
  | 0 => .refl _
  | n + 1 => by
    have ih := picks_perm l n
    have e : allI (n + 1) = allI n ++ [(n : Int)] := by simp [allI, List.range_succ]
    rw [picks_succ, picks_succ, e]
    cases decide ((ix l n).cut ≤ (ix l n).bend)
    · simp only [show (false == true) = false from rfl, show (false == false) = true from rfl, Bool.false_eq_true, if_false, if_true]
      rw [← List.append_assoc]
      exact ih.append_right _
    · simp only [show (true == true) = true from rfl, show (true == false) = false from rfl, Bool.false_eq_true, if_false, if_true]
      refine List.Perm.trans ?_ (ih.append_right [(n : Int)])
      rw [List.append_assoc, List.append_assoc]
      exact List.Perm.append_left _ List.perm_append_comm
theorem john_perm (l : List Jb) : (johnE l).Perm (allI l.length) := by
  rw [johnE]
  exact ((sortK_perm _ _).append (sortK_perm _ _)).trans (picks_perm l l.length)
theorem picks_kind {l : List Jb} {b : Bool} {n : Nat} {x : Int} (h : x ∈ picks l b n) : decide (cu l x ≤ be l x) = b := by
  simp only [picks, List.mem_map, List.mem_filter, List.mem_range] at h
  obtain ⟨i, ⟨h1, h2⟩, rfl⟩ := h
  simp only [beq_iff_eq] at h2
  rw [← h2]
  exact decide_eq_decide.mpr (by simp [cu, be])
theorem john_up {l : List Jb} (hv : validB l = true) : (johnE l).Pairwise fun a b => KB l a ≤ KB l b := by
  have k1 : ∀ x ∈ sortK (K1 l) (picks l true l.length), JbOk l x ∧ cu l x ≤ be l x := fun x hx => by
    have hx := (sortK_perm _ _).mem_iff.mp hx
    exact ⟨jbOk hv (picks_at hx), by simpa using picks_kind hx⟩
  have k2 : ∀ x ∈ sortK (K2 l) (picks l false l.length), JbOk l x ∧ be l x < cu l x := fun x hx => by
    have hx := (sortK_perm _ _).mem_iff.mp hx
    exact ⟨jbOk hv (picks_at hx), by simpa using picks_kind hx⟩
  rw [johnE, List.pairwise_append]
  refine ⟨?_, ?_, fun x hx y hy => ?_⟩
  · refine List.Pairwise.imp_of_mem ?_ (sortK_up (K1 l) (picks l true l.length))
    intro a b ha hb hab
    have a1 := k1 a ha
    have b1 := k1 b hb
    rw [KB, KB, if_pos a1.2, if_pos b1.2]
    exact hab
  · refine List.Pairwise.imp_of_mem ?_ (sortK_up (K2 l) (picks l false l.length))
    intro a b ha hb hab
    have a1 := k2 a ha
    have b1 := k2 b hb
    rw [KB, KB, if_neg (by omega), if_neg (by omega)]
    simp only [K2] at hab
    simp only [be]
    omega
  · have a1 := k1 x hx
    have b1 := k2 y hy
    obtain ⟨⟨⟨x1, x2⟩, ⟨x3, x4⟩, x5, x6⟩, x7⟩ := a1
    obtain ⟨⟨⟨y1, y2⟩, ⟨y3, y4⟩, y5, y6⟩, y7⟩ := b1
    rw [KB, KB, if_pos x7, if_neg (by omega)]
    omega
/-- Johnson's order is at most as long as any. -/
theorem john_best {l : List Jb} (hv : validB l = true) {o : List Int} (ho : o.Perm (allI l.length)) : (runR l (johnE l)).fin ≤ (runR l o).fin := by
  have ok : ∀ x ∈ o, JbOk l x := fun x hx => jbOk hv (mem_allI.mp (ho.mem_iff.mp hx))
  have e : johnE l = isortK (KB l) o := by
    have hp : (johnE l).Perm (isortK (KB l) o) := (john_perm l).trans (ho.symm.trans (isortK_perm _ o).symm)
    refine sort_one hp (fun x hx y hy h => ?_) (john_up hv) (isortK_up _ _)
    exact kb_inj (jbOk hv (mem_allI.mp ((john_perm l).mem_iff.mp hx))) (jbOk hv (mem_allI.mp ((john_perm l).mem_iff.mp hy))) h
  rw [fin_lag, fin_lag, sumI_perm ((john_perm l).trans ho.symm), e]
  have := lag_isort l o 0 ok
  omega
theorem perm_of_nodup : ∀ {l m : List Int}, l.Nodup → m.Nodup → (∀ x, x ∈ l ↔ x ∈ m) → l.Perm m
  | [], m, _, _, h => by
    cases m with
    | nil => exact .refl _
    | cons y m => have := (h y).mpr (by simp); simp at this
  | x :: l, m, h1, h2, h => by
    rw [List.nodup_cons] at h1
    have hx : x ∈ m := (h x).mp (by simp)
    have hp := List.perm_cons_erase hx
    refine List.Perm.trans ?_ hp.symm
    refine List.Perm.cons x (perm_of_nodup h1.2 (h2.erase x) fun y => ?_)
    rw [h2.mem_erase_iff]
    have hy := h y
    rw [List.mem_cons] at hy
    constructor
    · intro hl
      exact ⟨fun e => h1.1 (e ▸ hl), hy.mp (.inr hl)⟩
    · rintro ⟨e, hm⟩
      rcases hy.mpr hm with e2 | e2
      · exact absurd e2 e
      · exact e2
theorem nodup_ix {o : List Int} (hd : ∀ j i, j < o.length → i < j → ix o i ≠ ix o j) : o.Nodup := by
  rw [List.nodup_iff_pairwise_ne, List.pairwise_iff_getElem]
  intro i j hi hj hij
  have := hd j i hj hij
  rwa [ix_eq hi, ix_eq hj] at this
theorem allI_nodup (n : Nat) : (allI n).Nodup := by
  rw [allI, List.nodup_iff_pairwise_ne, List.pairwise_map]
  refine List.Pairwise.imp ?_ List.pairwise_lt_range
  intro a b h
  omega
/-- A right order has all indices. -/
theorem order_perm {n : Nat} {o : List Int} (hl : o.length = n) (ho : ∀ j, j < o.length → 0 ≤ ix o j ∧ ix o j < n) (hd : ∀ j i, j < o.length → i < j → ix o i ≠ ix o j) : o.Perm (allI n) := by
  refine perm_of_nodup (nodup_ix hd) (allI_nodup n) fun x => ?_
  rw [mem_allI]
  constructor
  · intro hx
    obtain ⟨k, hk, rfl⟩ := List.getElem_of_mem hx
    have := ho k hk
    rwa [ix_eq hk] at this
  · intro hx
    obtain ⟨j, j1, j2⟩ := pigeon n (jo o) (fun j hj => by have := ho j (by omega); unfold jo; omega) (fun j i hj hi => by
      have a := ho j (by omega)
      have b := ho i (by omega)
      have c := hd j i (by omega) hi
      unfold jo; omega) x.toNat (by omega)
    have := ho j (by omega)
    have e : ix o j = x := by unfold jo at j2; omega
    rw [← e]
    exact ix_mem (by omega)
end Go.Proofs.Ytgbldceimdjblaa
