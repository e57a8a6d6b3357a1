/- CuttingAltered: plain facts. -/
import Derived.Test.YthlpfjcjfhdmaaaU
import Derived.Test.YthlpfjcjfhdmaaaR
set_option maxRecDepth 100000
set_option linter.unusedSimpArgs false
set_option linter.unusedVariables false
namespace Go.Proofs.Ythlpfjcjfhdmaaa
open Go.RowKit
def Has (l : List Pc) (ps : List Int) : Prop := ∃ j, j < l.length ∧ 0 < ix ps j
theorem has_cut {l : List Pc} {i n : Int} {b : Br} (hps : b.ps.length = l.length) (hnn : ∀ j, j < l.length → 0 ≤ ix b.ps j) (hi : 0 ≤ i ∧ i < l.length) : Has l (cutB i n b).ps := by
  refine ⟨i.toNat, by omega, ?_⟩
  simp only [cutB]
  rw [ix_set_self (by omega)]
  have := hnn i.toNat (by omega)
  omega
theorem gs_step {s l : List Pc} {i : Int} {x : List Int} {st st' : GSt} (h : GB s l (i :: x) st) (hi : 0 ≤ i ∧ i < l.length) (he : gst s l i st = some st') (hb : ∀ b ∈ st.1, Has l b.ps) : ∀ b ∈ st'.1, Has l b.ps := by
  unfold gst at he
  simp only at he
  split at he
  · rename_i hf
    simp only [Option.some.injEq] at he
    subst he
    obtain ⟨b1, b2⟩ := h.bar _ (ix_mem hf)
    intro b hm
    rcases List.mem_or_eq_of_mem_set hm with hm | rfl
    · exact hb b hm
    · exact has_cut b1.ps b1.nn hi
  · split at he
    · cases he
    · simp only [Option.some.injEq] at he
      subst he
      intro b hm
      rcases List.mem_append.1 hm with hm | hm
      · exact hb b hm
      · simp only [List.mem_singleton] at hm
        subst hm
        exact has_cut (zeros_len _) (fun j _ => by simp only [zeros_ix]; omega) hi
theorem gs_fold {s l : List Pc} (hs : stB s = true) (ho : orderB l = true) : ∀ {x : List Int} {st st' : GSt}, (∀ i ∈ x, 0 ≤ i ∧ i < l.length) → GB s l x st → gfold s l x st = some st' → (∀ b ∈ st.1, Has l b.ps) → ∀ b ∈ st'.1, Has l b.ps
  | [], st, st', _, _, he, hb => by
    simp only [gfold, Option.some.injEq] at he
    subst he
    exact hb
  | i :: x, st, st', hx, h, he, hb => by
    simp only [gfold] at he
    obtain ⟨st1, h1, h2⟩ := Option.bind_eq_some_iff.1 he
    exact gs_fold hs ho (fun j hj => hx j (List.mem_cons_of_mem _ hj)) (gb_step hs ho h (hx i List.mem_cons_self) h1) h2 (gs_step h (hx i List.mem_cons_self) h1 hb)
theorem gs_all {s l : List Pc} (hs : stB s = true) (ho : orderB l = true) {st : GSt} (h : gA s l = some st) : ∀ b ∈ st.1, Has l b.ps := by
  refine gs_fold hs ho (fun i hi => longL_mem hi) ⟨fun b hb => by simp [g0] at hb, fun i hi => ?_, zeros_len _, fun j hj => ?_, fun i j hij hj => by simp [g0] at hj⟩ h fun b hb => by simp [g0] at hb
  · rw [long_count hi]
    have := order_at ho hi
    simp [g0]
    omega
  · have := st_len hs hj
    simp only [g0, zeros_ix]
    simp
    omega
/-- A greedy plan. -/
structure GPlan (s l : List Pc) (p : List Pt) : Prop where
  right : rightB s l p = true
  len : p.length ≤ 1000
  ps : ∀ x ∈ p, x.ps.length = l.length
  has : ∀ x ∈ p, Has l x.ps
theorem gplan {s l : List Pc} (he : gErr s l = 0) : GPlan s l (gRes s l) := by
  have hr : gRes s l = patL ((gA s l).getD (g0 s)).1 := if_pos he
  unfold gErr at he
  split at he
  · omega
  rename_i h1
  split at he
  · omega
  rename_i h2
  split at he
  · omega
  rename_i h3
  have hs : stB s = true := by cases e : stB s with | true => rfl | false => exact absurd (.inl e) h1
  have ho : orderB l = true := by cases e : orderB l with | true => rfl | false => exact absurd (.inr e) h1
  obtain ⟨st, hst⟩ := Option.ne_none_iff_exists'.1 h3
  rw [hst, Option.getD_some] at hr
  have hB := gb_bars (gb_all hs ho hst) (gb_len hs ho hst (by omega))
  have hS := gs_all hs ho hst
  rw [hr]
  refine ⟨bars_right hB, plan_len (bars_plan hB), fun x hx => ?_, fun x hx => ?_⟩
  · obtain ⟨b, hb, _, e2⟩ := pat_mem x hx
    rw [← e2]; exact (hB.bar b hb).2.2.1
  · obtain ⟨b, hb, _, e2⟩ := pat_mem x hx
    rw [← e2]; exact hS b hb
theorem made_all (p : List Pt) (j : Nat) : madeT p p.length j = (p.map fun x : Pt => ix x.ps j * x.times).sum := by
  unfold madeT; rw [List.take_length]
theorem not_right {s l : List Pc} {p q : List Pt} (hp : rightB s l p = true) {j : Nat} (hj : j < l.length) (h : madeT q q.length j ≠ madeT p p.length j) : rightB s l q = false :=
  right_no fun h2 => h ((h2.2.2.1 j hj).trans ((right_yes.1 hp).2.2.1 j hj).symm)
theorem alt_ps {s l : List Pc} {p : List Pt} (h : GPlan s l p) {i j : Nat} (hi : i < p.length) (hj : j < l.length) {d : Int} (hd : d ≠ 0) : rightB s l (p.set i ⟨(ix p i).stock, (ix p i).ps.set j (ix (ix p i).ps j + d), (ix p i).times⟩) = false := by
  refine not_right h.right hj ?_
  rw [made_all, made_all, sum_set _ hi]
  simp only
  rw [ix_set_self (by rw [h.ps _ (ix_mem hi)]; exact hj), Int.add_mul]
  have ht := (plan_at (right_yes.1 h.right).1 hi).2.2.1
  have := Int.mul_ne_zero hd (show (ix p i).times ≠ 0 by omega)
  omega
theorem alt_times {s l : List Pc} {p : List Pt} (h : GPlan s l p) {i : Nat} (hi : i < p.length) {d : Int} (hd : d ≠ 0) : rightB s l (p.set i ⟨(ix p i).stock, (ix p i).ps, (ix p i).times + d⟩) = false := by
  obtain ⟨j, hj, h0⟩ := h.has _ (ix_mem hi)
  refine not_right h.right hj ?_
  rw [made_all, made_all, sum_set _ hi]
  simp only
  rw [Int.mul_add]
  have := Int.mul_ne_zero (show ix (ix p i).ps j ≠ 0 by omega) hd
  omega
theorem sum_eraseIdx {α : Type} [Inhabited α] (f : α → Int) : ∀ {l : List α} {i : Nat}, i < l.length → ((l.eraseIdx i).map f).sum = (l.map f).sum - f (ix l i)
  | x :: l, 0, _ => by
    simp only [List.eraseIdx_cons_zero, List.map_cons, List.sum_cons]
    have : ix (x :: l) 0 = x := rfl
    rw [this]; omega
  | x :: l, i + 1, h => by
    have ih := sum_eraseIdx f (l := l) (i := i) (by simpa using h)
    simp only [List.eraseIdx_cons_succ, List.map_cons, List.sum_cons, ih]
    have : ix (x :: l) (i + 1) = ix l i := rfl
    rw [this]; omega
theorem ix_erase {α : Type} [Inhabited α] {l : List α} {i k : Nat} (hi : i < l.length) (hk : k < l.length - 1) : ix (l.eraseIdx i) k = ix l (if k < i then k else k + 1) := by
  have e : (l.eraseIdx i).length = l.length - 1 := by rw [List.length_eraseIdx, if_pos hi]
  rw [ix_eq (by omega), List.getElem_eraseIdx]
  split
  · rw [ix_eq]
  · rw [ix_eq]
theorem alt_del {s l : List Pc} {p : List Pt} (h : GPlan s l p) {i : Nat} (hi : i < p.length) : rightB s l (p.eraseIdx i) = false := by
  obtain ⟨j, hj, h0⟩ := h.has _ (ix_mem hi)
  refine not_right h.right hj ?_
  rw [made_all, made_all, sum_eraseIdx _ hi]
  have ht := (plan_at (right_yes.1 h.right).1 hi).2.2.1
  have := Int.mul_ne_zero (show ix (ix p i).ps j ≠ 0 by omega) (show (ix p i).times ≠ 0 by omega)
  omega
end Go.Proofs.Ythlpfjcjfhdmaaa
