/- Plain facts on stretches of a list that is sorted in its place. Contracts: the sort by insertion. Contracts: the stable sort (merging given). Contracts: the stable sort (merging given), the walk. Contracts: exchange of stretches, and rotation. Plain facts on merging in place. Contracts: merging in place. Contracts: the sort, and Johnson's order. Contracts: the order by masses. -/
import Derived.Test.YtolioflblegneaaGreatA
set_option maxRecDepth 100000
set_option linter.unusedSimpArgs false
set_option linter.unusedVariables false
namespace Go.Proofs.YtolioflblegneaaGreat
/-- `n` elements from place `a` on. -/
def seg (f : Nat → Int) (a n : Nat) : List Int := (List.range n).map fun k => f (a + k)
theorem seg_len (f : Nat → Int) (a n : Nat) : (seg f a n).length = n := by simp [seg]
theorem seg_succ (f : Nat → Int) (a n : Nat) : seg f a (n + 1) = seg f a n ++ [f (a + n)] := by simp [seg, List.range_succ]
theorem seg_app (f : Nat → Int) (a n : Nat) : ∀ m, seg f a (n + m) = seg f a n ++ seg f (a + n) m
  | 0 => by simp [seg]
  | m + 1 => by rw [show n + (m + 1) = (n + m) + 1 by omega, seg_succ, seg_app f a n m, seg_succ, List.append_assoc, Nat.add_assoc]
theorem seg_congr {f g : Nat → Int} {a n : Nat} (h : ∀ k, a ≤ k → k < a + n → f k = g k) : seg f a n = seg g a n := by
  unfold seg
  refine List.map_congr_left fun k hk => ?_
  rw [List.mem_range] at hk
  exact h _ (by omega) (by omega)
theorem seg_congr2 {f g : Nat → Int} {a b n : Nat} (h : ∀ k, k < n → f (a + k) = g (b + k)) : seg f a n = seg g b n := by
  unfold seg
  refine List.map_congr_left fun k hk => ?_
  rw [List.mem_range] at hk
  exact h _ hk
theorem seg_one (f : Nat → Int) (a : Nat) : seg f a 1 = [f a] := by simp [seg]
theorem mem_seg {f : Nat → Int} {a n : Nat} {v : Int} : v ∈ seg f a n ↔ ∃ k, a ≤ k ∧ k < a + n ∧ f k = v := by
  simp only [seg, List.mem_map, List.mem_range]
  exact ⟨fun ⟨k, h1, h2⟩ => ⟨a + k, by omega, by omega, h2⟩, fun ⟨k, h1, h2, h3⟩ => ⟨k - a, by omega, by rw [show a + (k - a) = k by omega]; exact h3⟩⟩
/-- Two places exchanged. -/
def swF (f : Nat → Int) (p q : Nat) : Nat → Int := fun k => if k = q then f p else if k = p then f q else f k
theorem perm_swap (A B C : List Int) (x y : Int) : (A ++ (x :: (B ++ (y :: C)))).Perm (A ++ (y :: (B ++ (x :: C)))) := by
  refine List.Perm.append_left A ?_
  have h1 : (x :: (B ++ (y :: C))).Perm (x :: y :: (B ++ C)) := List.Perm.cons x List.perm_middle
  have h2 : (y :: (B ++ (x :: C))).Perm (y :: x :: (B ++ C)) := List.Perm.cons y List.perm_middle
  exact h1.trans ((List.Perm.swap y x _).trans h2.symm)
theorem swF_perm (f : Nat → Int) {a n p q : Nat} (h1 : a ≤ p) (h2 : p < q) (h3 : q < a + n) : (seg (swF f p q) a n).Perm (seg f a n) := by
  have e : ∀ g : Nat → Int, seg g a n = seg g a (p - a) ++ (g p :: (seg g (p + 1) (q - p - 1) ++ (g q :: seg g (q + 1) (a + n - q - 1)))) := by
    intro g
    have e1 := seg_app g a (p - a) (1 + (q - p - 1) + (1 + (a + n - q - 1)))
    have e2 := seg_app g p (1 + (q - p - 1)) (1 + (a + n - q - 1))
    have e3 := seg_app g p 1 (q - p - 1)
    have e4 := seg_app g q 1 (a + n - q - 1)
    rw [show p - a + (1 + (q - p - 1) + (1 + (a + n - q - 1))) = n by omega, show a + (p - a) = p by omega] at e1
    rw [show p + (1 + (q - p - 1)) = q by omega] at e2
    rw [e1, e2, e3, e4, seg_one, seg_one]
    simp
  have t : ∀ x y, (∀ k, x ≤ k → k < x + y → k ≠ p ∧ k ≠ q) → seg (swF f p q) x y = seg f x y := fun x y h => seg_congr fun k h1 h2 => by
    obtain ⟨i1, i2⟩ := h k h1 h2
    simp [swF, i1, i2]
  rw [e, e f, t a _ (fun k _ _ => ⟨by omega, by omega⟩), t (p + 1) _ (fun k _ _ => ⟨by omega, by omega⟩), t (q + 1) _ (fun k _ _ => ⟨by omega, by omega⟩)]
  have s1 : swF f p q p = f q := by simp [swF, show p ≠ q by omega]
  have s2 : swF f p q q = f p := by simp [swF]
  rw [s1, s2]
  exact perm_swap _ _ _ _ _
/-- A stretch is in order. -/
def upK (K : Int → Int) (f : Nat → Int) (a b : Nat) : Prop := ∀ p q, a ≤ p → p < q → q < b → K (f p) ≤ K (f q)
theorem upK_one (K : Int → Int) (f : Nat → Int) (a : Nat) : upK K f a (a + 1) := fun p q _ _ _ => by omega
/-- The elements in order. -/
def sortK (K : Int → Int) (l : List Int) : List Int := l.mergeSort fun x y => decide (K x ≤ K y)
theorem sortK_perm (K : Int → Int) (l : List Int) : (sortK K l).Perm l := List.mergeSort_perm _ _
theorem sortK_up (K : Int → Int) (l : List Int) : (sortK K l).Pairwise fun x y => K x ≤ K y := by
  have h := List.pairwise_mergeSort (le := fun x y => decide (K x ≤ K y)) (fun a b c h1 h2 => by simp only [decide_eq_true_eq] at *; omega) (fun a b => by simp only [Bool.or_eq_true, decide_eq_true_eq]; omega) l
  simpa [sortK] using h
theorem sort_one {K : Int → Int} : ∀ {l m : List Int}, l.Perm m → (∀ x ∈ l, ∀ y ∈ l, K x = K y → x = y) → (l.Pairwise fun x y => K x ≤ K y) → (m.Pairwise fun x y => K x ≤ K y) → l = m
  | [], m, hp, _, _, _ => (List.Perm.nil_eq hp)
  | x :: l, [], hp, _, _, _ => by have := hp.length_eq; simp at this
  | x :: l, y :: m, hp, hi, h1, h2 => by
    rw [List.pairwise_cons] at h1 h2
    have hx : x ∈ y :: m := hp.mem_iff.mp (by simp)
    have hy : y ∈ x :: l := hp.mem_iff.mpr (by simp)
    have e : x = y := by
      rcases List.mem_cons.mp hx with e | e
      · exact e
      rcases List.mem_cons.mp hy with e2 | e2
      · exact e2.symm
      exact hi x (by simp) y (by simp [e2]) (Int.le_antisymm (h1.1 y e2) (h2.1 x e))
    subst e
    rw [sort_one (List.Perm.cons_inv hp) (fun a ha b hb => hi a (by simp [ha]) b (by simp [hb])) h1.2 h2.2]
theorem seg_up {K : Int → Int} {f : Nat → Int} {a n : Nat} (h : upK K f a (a + n)) : (seg f a n).Pairwise fun x y => K x ≤ K y := by
  rw [List.pairwise_iff_getElem]
  intro i j hi hj hij
  rw [seg_len] at hi hj
  simp only [seg, List.getElem_map, List.getElem_range]
  exact h _ _ (by omega) (by omega) (by omega)
theorem seg_sorted {K : Int → Int} {f : Nat → Int} {n : Nat} {l : List Int} (hp : (seg f 0 n).Perm l) (hi : ∀ x ∈ l, ∀ y ∈ l, K x = K y → x = y) (h : upK K f 0 n) : seg f 0 n = sortK K l :=
  sort_one (hp.trans (sortK_perm K l).symm) (fun x hx y hy => hi x (hp.mem_iff.mp hx) y (hp.mem_iff.mp hy)) (seg_up (by simpa using h)) (sortK_up K l)
theorem seg_ix {f : Nat → Int} {n : Nat} {l : List Int} (h : seg f 0 n = l) {k : Nat} (hk : k < n) : f k = ix l k := by
  subst h
  rw [ix_eq (by rw [seg_len]; exact hk)]
  simp [seg]
end Go.Proofs.YtolioflblegneaaGreat
namespace Go.Proofs.YtolioflblegneaaGreat
open Go.RowKit
/- A row at the head of the list of objects, in other words; the tail stays abstract. -/
theorem inv_head {β : Bs} {w : World} {T : List Ob} {ty : TypeId} {sz N : Nat} {len cap : Nat → Nat} {f f' : Nat → Nat → List SV} (h : ∀ i, i < N → ∀ k, k < len i → f' i k = f i k)
    (hI : Inv β (⟨ty, false, .row sz N len cap f⟩ :: T) w) : Inv β (⟨ty, false, .row sz N len cap f'⟩ :: T) w := by
  have hg : ∀ {j : Nat} {o : Ob}, ((⟨ty, false, .row sz N len cap f'⟩ : Ob) :: T)[j]? = some o → ∃ o1, ((⟨ty, false, .row sz N len cap f⟩ : Ob) :: T)[j]? = some o1 ∧ (∀ i, o.own i → o1.own i) ∧ (∀ i, o.mem i → o1.mem i) ∧ (∀ i, o.over i → o1.over i) ∧ (ObOk β w j o1 → ObOk β w j o) := by
    intro j o ho
    cases j with
    | zero =>
      simp at ho
      subst ho
      refine ⟨_, rfl, fun i hi => hi, fun i hi => hi, fun i hi => hi, fun hok => ?_⟩
      simp only [ObOk, Bool.false_eq_true, if_false] at hok ⊢
      intro i hi
      rcases hok i hi with h1 | ⟨g, cur, h1, h2, h3, h4, h5, h6⟩
      · exact .inl h1
      · refine .inr ⟨g, cur, h1, h2, h3, h4, h5, fun k hk => ?_⟩
        rw [h i hi k hk]
        exact h6 k hk
    | succ j => exact ⟨o, by simpa using ho, fun i hi => hi, fun i hi => hi, fun i hi => hi, fun h => h⟩
  refine ⟨⟨fun j o ho => ?_, fun j i hj => hI.out j i (by simpa using hj), fun j i j' i' o o' g b b' h1 h2 h3 h4 h5 h6 => ?_, fun j o i h1 h2 => ?_⟩, fun x hx => by
    obtain ⟨q1, q2, q3, q4⟩ := hI.gl x hx
    exact ⟨q1, q2, q3, fun ⟨j, i, o, b, h1, h2, h3⟩ => q4 (by obtain ⟨o1, k1, k2, _⟩ := hg h1; exact ⟨j, i, o1, b, k1, k2 i h2, h3⟩)⟩⟩
  · obtain ⟨o1, k1, _, _, _, k5⟩ := hg ho
    exact k5 (hI.ob j o1 k1)
  · obtain ⟨o1, k1, k2, _, _, _⟩ := hg h1
    obtain ⟨o2, l1, _, l3, _, _⟩ := hg h2
    exact hI.sep j i j' i' o1 o2 g b b' k1 l1 (k2 i h3) (l3 i' h4) h5 h6
  · obtain ⟨o1, k1, _, _, k4, _⟩ := hg h1
    exact hI.bey j o1 i k1 (k4 i h2)
theorem wk_head {α : Type} {n0 : Nat} {A A' : Bs → α → Prop} {T : List Ob} {ty : TypeId} {sz N : Nat} {len cap : Nat → Nat} {f f' : Nat → Nat → List SV} (h : ∀ i, i < N → ∀ k, k < len i → f' i k = f i k) (hA : ∀ β u, A β u → A' β u) :
    Wk n0 A A' (⟨ty, false, .row sz N len cap f⟩ :: T) (⟨ty, false, .row sz N len cap f'⟩ :: T) := fun β w hI hn => by
  have hm : ∀ {j : Nat} {o : Ob}, ((⟨ty, false, .row sz N len cap f'⟩ : Ob) :: T)[j]? = some o → ∃ o1, ((⟨ty, false, .row sz N len cap f⟩ : Ob) :: T)[j]? = some o1 ∧ (∀ i, o.own i → o1.own i) ∧ (∀ i, o.mem i → o1.mem i) := by
    intro j o ho
    cases j with
    | zero => simp at ho; subst ho; exact ⟨_, rfl, fun i hi => hi, fun i hi => hi⟩
    | succ j => exact ⟨o, by simpa using ho, fun i hi => hi, fun i hi => hi⟩
  refine ⟨β, inv_head h hI, hA β, fun j i x hj hx => hx, fun g ⟨j, i, o, b, h1, h2, h3⟩ => ?_, fun g ⟨j, i, o, b, h1, h2, h3⟩ => ?_, by simpa using hn⟩
  · obtain ⟨o1, k1, k2, _⟩ := hm h1
    exact ⟨j, i, o1, b, k1, k2 i h2, h3⟩
  · obtain ⟨o1, k1, _, k3⟩ := hm h1
    exact ⟨j, i, o1, b, k1, k3 i h2, h3⟩
theorem swk_head {n0 : Nat} {σ σ' : Sl} {T : List Ob} {ty : TypeId} {sz N : Nat} {len cap : Nat → Nat} {f f' : Nat → Nat → List SV} (hs : slE σ σ') (h : ∀ i, i < N → ∀ k, k < len i → f' i k = f i k) :
    SWk n0 σ (⟨ty, false, .row sz N len cap f⟩ :: T) σ' (⟨ty, false, .row sz N len cap f'⟩ :: T) := wk_head h fun _ _ ha => slE_ok ha hs
theorem vwk_head {n0 : Nat} {r : SV} {T : List Ob} {ty : TypeId} {sz N : Nat} {len cap : Nat → Nat} {f f' : Nat → Nat → List SV} (h : ∀ i, i < N → ∀ k, k < len i → f' i k = f i k) :
    VWk n0 r (⟨ty, false, .row sz N len cap f⟩ :: T) r (⟨ty, false, .row sz N len cap f'⟩ :: T) := wk_head h fun _ _ ha => ha
/-- What a comparison may rely on: whatever the row holds, it answers by the elements alone. -/
def Cmp (g : FuncId) (fs cs : List SV) (n cap : Nat) (H : List Ob) (V : Int → Prop) (cm : Int → Int → Int) : Prop :=
  ∀ (f : Nat → Int) x y, V x → V y → Pu Tryz.prog g (fs ++ [.v (.int .i64 x), .v (.int .i64 y)] ++ cs) (rOwn 3 n cap f :: H) (.v (.int .i64 (cm x y)))
/-- Elements of a stretch. -/
def allV (V : Int → Prop) (f : Nat → Int) (a b : Nat) : Prop := ∀ k, a ≤ k → k < b → V (f k)
/-- What is known of a stretch that is being sorted: `O y x` = y stood before x at first. -/
structure Kn (V : Int → Prop) (O : Int → Int → Prop) (cm : Int → Int → Int) (K : Int → Int) : Prop where
  cmp : ∀ x y, V x → V y → O y x → (cm x y < 0 ↔ K x < K y)
structure InI (K : Int → Int) (f : Nat → Int) (a i : Nat) (g : Nat → Int) : Prop where
  out : ∀ k, k < a ∨ i ≤ k → g k = f k
  perm : (seg g a (i - a)).Perm (seg f a (i - a))
  up : upK K g a i
structure InJ (K : Int → Int) (f : Nat → Int) (a i : Nat) (j : Nat) (g : Nat → Int) : Prop where
  out : ∀ k, k < a ∨ i + 1 ≤ k → g k = f k
  perm : (seg g a (i + 1 - a)).Perm (seg f a (i + 1 - a))
  here : g j = f i
  low : (∀ p, a ≤ p → p < j → ∃ q, a ≤ q ∧ q < i ∧ g p = f q)
  up : ∀ p q, a ≤ p → p < q → q ≤ i → p ≠ j → q ≠ j → K (g p) ≤ K (g q)
  up2 : ∀ q, j < q → q ≤ i → K (f i) < K (g q)
theorem inJ_0 {K : Int → Int} {f g : Nat → Int} {a i : Nat} (ha : a ≤ i) (h : InI K f a i g) : InJ K f a i i g where
  out k hk := h.out k (by omega)
  perm := by
    rw [show i + 1 - a = (i - a) + 1 by omega, seg_succ, seg_succ, show a + (i - a) = i by omega, h.out i (by omega)]
    exact h.perm.append_right _
  here := h.out i (by omega)
  low p h1 h2 := by
    have : g p ∈ seg f a (i - a) := h.perm.mem_iff.mp (mem_seg.mpr ⟨p, h1, by omega, rfl⟩)
    obtain ⟨q, q1, q2, q3⟩ := mem_seg.mp this
    exact ⟨q, q1, by omega, q3.symm⟩
  up p q h1 h2 h3 h4 h5 := h.up p q h1 h2 (by omega)
  up2 q h1 h2 := by omega
theorem inJ_down {K : Int → Int} {f g : Nat → Int} {a i j : Nat} (ha : a < j) (hj : j ≤ i) (h : InJ K f a i j g) (hk : K (f i) < K (g (j - 1))) : InJ K f a i (j - 1) (swF g (j - 1) j) where
  out k hk := by
    rw [← h.out k hk]
    simp [swF, show k ≠ j by omega, show k ≠ j - 1 by omega]
  perm := (swF_perm g (by omega) (by omega) (by omega)).trans h.perm
  here := by simp [swF, show j - 1 ≠ j by omega, h.here]
  low p h1 h2 := by
    obtain ⟨q, e⟩ := h.low p h1 (by omega)
    exact ⟨q, by simpa [swF, show p ≠ j by omega, show p ≠ j - 1 by omega] using e⟩
  up p q h1 h2 h3 h4 h5 := by
    by_cases e1 : p = j
    · subst e1
      have := h.up (p - 1) q (by omega) (by omega) h3 (by omega) (by omega)
      simpa [swF, show q ≠ p by omega, show q ≠ p - 1 by omega] using this
    · by_cases e2 : q = j
      · subst e2
        have := h.up p (q - 1) h1 (by omega) (by omega) e1 (by omega)
        simpa [swF, show p ≠ q by omega, show p ≠ q - 1 by omega] using this
      · have := h.up p q h1 h2 h3 e1 e2
        simpa [swF, e1, e2, h4, h5] using this
  up2 q h1 h2 := by
    by_cases e : q = j
    · subst e; simpa [swF] using hk
    · have := h.up2 q (by omega) h2
      simpa [swF, e, show q ≠ j - 1 by omega] using this
theorem inI_1 {K : Int → Int} {f g : Nat → Int} {a i j : Nat} (ha : a ≤ j) (hj : j ≤ i) (h : InJ K f a i j g) (hk : a < j → K (g (j - 1)) ≤ K (f i)) : InI K f a (i + 1) g where
  out := h.out
  perm := h.perm
  up p q h1 h2 h3 := by
    by_cases e1 : p = j
    · subst e1
      rw [h.here]
      exact Int.le_of_lt (h.up2 q h2 (by omega))
    · by_cases e2 : q = j
      · subst e2
        rw [h.here]
        have h4 := hk (by omega)
        by_cases e3 : p = q - 1
        · subst e3; exact h4
        · exact Int.le_trans (h.up p (q - 1) h1 (by omega) (by omega) e1 (by omega)) h4
      · exact h.up p q h1 h2 (by omega) e1 e2
theorem upd_sw {f : Nat → Int} {j x k : Nat} (hj : 0 < j) (hx : x < 1) : [SV.v (.int .i64 (swF f (j - 1) j k))] = updF (updF (fun _ k => [SV.v (.int .i64 (f k))]) 0 j [.v (.int .i64 (f (j - 1)))]) 0 (j - 1) (.v (.int .i64 (f j)) :: bif j - 1 == j then [] else []) x k := by
  obtain rfl : x = 0 := by omega
  have e : (j - 1 == j) = false := by simp; omega
  simp only [updF, e, swF]
  by_cases e1 : k = j
  · subst e1
    have e3 : (k == k - 1) = false := by simp; omega
    simp [mrgL, mrg1, e3]
  · have e4 : (k == j) = false := by simpa using e1
    by_cases e2 : k = j - 1
    · subst e2
      simp [mrgL, mrg1, e1]
    · have e5 : (k == j - 1) = false := by simpa using e2
      simp [mrgL, mrg1, e1, e2, e4, e5]
theorem inI_0 (K : Int → Int) (f : Nat → Int) (a : Nat) : InI K f a (a + 1) f := ⟨fun _ _ => rfl, .refl _, upK_one K f a⟩
theorem ins_sp (g : FuncId) (fs cs : List SV) (n cap : Nat) (H : List Ob) (V : Int → Prop) (O : Int → Int → Prop) (cm : Int → Int → Int) (K : Int → Int) (f : Nat → Int) (a b : Nat)
    (hC : Cmp g fs cs n cap H V cm) (hK : Kn V O cm K) (hV : allV V f a b) (hO : ∀ p q, a ≤ p → p < q → q < b → O (f p) (f q)) (hro : roB H = true) (hab : a ≤ b) (hb : b ≤ n) (hn : n ≤ cap) (hcap : n ≤ 4611686018427387904) :
    Sp Tryz.prog 170 [.s 0 0 0 n cap 1, .v (.int .i64 a), .v (.int .i64 b), .f (.func g) fs cs] (rOwn 3 n cap f :: H) (fun r H' => ∃ f', r = .t [] ∧ H' = rOwn 3 n cap f' :: H ∧ InI K f a b f') := by
  refine sp_wk ?_
  refine sp_of_ex true [(6, .one 0 (.one 1 (.one 2 (.one 3 (.one 4 (.one 5 (.one 6 (.one 7 (.one 8 (.one 10 (.one 11 (.one 12 (.alt [(9, .one 13 (.one 14 (.one 15 (.one 16 (.one 17 .fin))))), (13, .one 9 (.one 14 (.one 15 (.one 16 (.one 17 .fin)))))])))))))))))))] mixed Tryz.call170 Tryz.func170 rfl Tryz.ntmps170 Tryz.results170 (by decide +kernel) rfl ?_
  refine sxo ?_
  try with_reducible exact trivial
  refine ⟨by omega, ?_⟩
  refine tr_loop mixed (by kernel_rfl) (fun (x : Nat × (Nat → Int)) => [(8, .v (.int .i64 x.1)), (0, .s 0 0 0 n cap 1), (1, .v (.int .i64 a)), (2, .v (.int .i64 b)), (3, .f (.func g) fs cs)])
    (fun x => rOwn 3 n cap x.2 :: H) (fun x => a < x.1 ∧ (x.1 ≤ b ∨ (a = b ∧ x.1 = a + 1)) ∧ InI K f a x.1 x.2) (fun x => b - x.1) (a + 1, f) ⟨by simp, by simp; omega, inI_0 K f a⟩ (swk_head ?_ fun _ _ _ _ => rfl) ?_
  · refine sxo ?_
    try with_reducible exact trivial
  rintro ⟨i, f1⟩ ⟨h1, h2, h3⟩
  refine sxo ?_
  try with_reducible exact trivial
  refine ⟨fun h => ?_, fun h => ?_⟩
  · repeat (with_reducible refine And.intro (by omega) ?_)
    refine tr_loop mixed (by kernel_rfl) (fun (x : Nat × (Nat → Int)) => [(9, .v (.int .i64 x.1)), (8, .v (.int .i64 i)), (0, .s 0 0 0 n cap 1), (1, .v (.int .i64 a)), (2, .v (.int .i64 b)), (3, .f (.func g) fs cs)])
      (fun x => rOwn 3 n cap x.2 :: H) (fun x => a ≤ x.1 ∧ x.1 ≤ i ∧ InJ K f a i x.1 x.2) (fun x => x.1) (i, f1) ⟨by omega, Nat.le_refl _, inJ_0 (by omega) h3⟩ (swk_head ?_ fun _ _ _ _ => rfl) ?_
    · refine sxo ?_
      try with_reducible exact trivial
    rintro ⟨j, f2⟩ ⟨k1, k2, k3⟩
    refine sxo ?_
    try with_reducible exact trivial
    simp only at h1 h2 h3 k1 k2 k3
    refine ⟨fun h5 => ?_, fun h5 => ?_⟩
    · repeat (with_reducible refine And.intro (by omega) ?_)
      have e1 : ((j : Int) - 1).toNat = j - 1 := by omega
      rw [e1]
      obtain ⟨q, q1, q2, q3⟩ := k3.low (j - 1) (by omega) (by omega)
      have v1 : V (f2 j) := by rw [k3.here]; exact hV i (by omega) (by omega)
      have v2 : V (f2 (j - 1)) := by rw [q3]; exact hV q q1 (by omega)
      have ho : O (f2 (j - 1)) (f2 j) := by rw [k3.here, q3]; exact hO q i q1 q2 (by omega)
      have hc := hK.cmp _ _ v1 v2 ho
      refine qc_pu (hC f2 _ _ v1 v2) rfl ?_
      refine sxo ?_
      try with_reducible exact trivial
      refine ⟨fun h6 => ?_, fun h6 => ?_⟩
      · have h7 := hc.mp h6
        rw [k3.here] at h7
        have k4 := inJ_down (by omega) k2 k3 h7
        repeat (with_reducible refine And.intro (by omega) ?_)
        simp only [e1]
        repeat' (with_reducible apply And.intro)
        all_goals try omega
        all_goals
          refine lpK_wk (j - 1, swF f2 (j - 1) j) ⟨by simp; omega, by simp; omega, k4⟩ (by simp; omega) (swk_head ?_ fun x hx k hk => upd_sw (by omega) hx)
          refine sxo ?_
          try with_reducible exact trivial
          rw [show (((j - 1 : Nat)) : Int) = (j : Int) - 1 by omega]
      · repeat (with_reducible refine And.intro (by omega) ?_)
        refine lpK_wk (i + 1, f2) ?_ ?_ (swk_head ?_ fun _ _ _ _ => rfl)
        · refine ⟨by simp; omega, by simp; omega, inI_1 k1 k2 k3 fun h => ?_⟩
          rw [k3.here] at hc
          rw [k3.here, hc] at h6
          exact Int.not_lt.mp h6
        · simp; omega
        · refine sxo ?_
          try with_reducible exact trivial
    · repeat (with_reducible refine And.intro (by omega) ?_)
      refine lpK_wk (i + 1, f2) ?_ ?_ (swk_head ?_ fun _ _ _ _ => rfl)
      · exact ⟨by simp; omega, by simp; omega, inI_1 k1 k2 k3 fun h => by omega⟩
      · simp; omega
      · refine sxo ?_
        try with_reducible exact trivial
  · repeat (with_reducible refine And.intro (by omega) ?_)
    refine ⟨_, _, vwk_head (f' := fun x k => [.v (.int .i64 (f1 k))]) fun _ _ _ _ => rfl, f1, rfl, rfl, ?_⟩
    simp only at h1 h2 h3
    by_cases e : a = b
    · subst e
      refine ⟨fun k hk => ?_, by rw [Nat.sub_self]; exact .refl _, fun p q _ _ _ => by omega⟩
      by_cases ek : k < a ∨ i ≤ k
      · exact h3.out k ek
      · obtain rfl : k = a := by omega
        have hp := h3.perm
        rw [show i - k = 1 by omega, seg_one, seg_one] at hp
        simpa using hp.eq_singleton
    · obtain rfl : i = b := by omega
      exact h3
end Go.Proofs.YtolioflblegneaaGreat
namespace Go.Proofs.YtolioflblegneaaGreat
open Go.RowKit
theorem InI.all {K : Int → Int} {f g : Nat → Int} {a b n : Nat} (h : InI K f a b g) (hab : a ≤ b) (hb : b ≤ n) : (seg g 0 n).Perm (seg f 0 n) := by
  have e : ∀ u : Nat → Int, seg u 0 n = seg u 0 a ++ (seg u a (b - a) ++ seg u b (n - b)) := fun u => by
    have e1 := seg_app u 0 a ((b - a) + (n - b))
    have e2 := seg_app u a (b - a) (n - b)
    rw [show a + ((b - a) + (n - b)) = n by omega, Nat.zero_add] at e1
    rw [show a + (b - a) = b by omega] at e2
    rw [e1, e2]
  rw [e g, e f, seg_congr (f := g) (g := f) (a := 0) fun k _ hk => h.out k (.inl (by omega)), seg_congr (f := g) (g := f) (a := b) fun k hk _ => h.out k (.inr (by omega))]
  exact List.Perm.append_left _ (h.perm.append_right _)
theorem InI.src {K : Int → Int} {f g : Nat → Int} {a b : Nat} (h : InI K f a b g) {p : Nat} (h1 : a ≤ p) (h2 : p < b) : ∃ q, a ≤ q ∧ q < b ∧ g p = f q := by
  have : g p ∈ seg f a (b - a) := h.perm.mem_iff.mp (mem_seg.mpr ⟨p, h1, by omega, rfl⟩)
  obtain ⟨q, q1, q2, q3⟩ := mem_seg.mp this
  exact ⟨q, q1, by omega, q3.symm⟩
theorem dv_iff {s p c : Nat} (hs : 0 < s) : p / s = c ↔ s * c ≤ p ∧ p < s * c + s := by
  rw [Nat.div_eq_iff hs]
  rw [Nat.mul_comm c s]
  omega
theorem dv_lt {s c d : Nat} (h : c < d) : s * c + s ≤ s * d := by
  have := Nat.mul_le_mul_left s (show c + 1 ≤ d by omega)
  rwa [Nat.mul_add, Nat.mul_one] at this
/-- Blocks of `s` elements are sorted up to place `a`. -/
structure BI (K : Int → Int) (f : Nat → Int) (n s a : Nat) (g : Nat → Int) : Prop where
  out : ∀ k, n ≤ k → g k = f k
  perm : (seg g 0 n).Perm (seg f 0 n)
  src : ∀ p, p < n → ∃ q, q < n ∧ q / s = p / s ∧ g p = f q
  up : ∀ p q, p < q → q < a → p / s = q / s → K (g p) ≤ K (g q)
theorem bi_0 (K : Int → Int) (f : Nat → Int) (n s : Nat) : BI K f n s 0 f := ⟨fun _ _ => rfl, .refl _, fun p h => ⟨p, h, rfl, rfl⟩, fun _ _ _ h => by omega⟩
/-- A further block (or what is left of one) is sorted. -/
theorem bi_next {K : Int → Int} {f g g2 : Nat → Int} {n s c b : Nat} (hs : 0 < s) (h : BI K f n s (s * c) g) (hr : ∀ k, s * c ≤ k → g k = f k) (hab : s * c ≤ b) (hb : b ≤ s * c + s) (hn : b ≤ n) (h2 : InI K g (s * c) b g2) :
    BI K f n s b g2 where
  out k hk := by rw [h2.out k (by omega), h.out k hk]
  perm := (h2.all hab hn).trans h.perm
  src p hp := by
    by_cases e : s * c ≤ p ∧ p < b
    · obtain ⟨q, q1, q2, q3⟩ := h2.src e.1 e.2
      refine ⟨q, by omega, ?_, by rw [q3, hr q q1]⟩
      rw [(dv_iff hs).mpr ⟨q1, by omega⟩, (dv_iff hs).mpr ⟨e.1, by omega⟩]
    · rw [h2.out p (by omega)]
      exact h.src p hp
  up p q hpq hq he := by
    obtain ⟨d, hd⟩ : ∃ d, d = q / s := ⟨_, rfl⟩
    have b1 := (dv_iff hs).mp (he.trans hd.symm)
    have b2 := (dv_iff hs).mp hd.symm
    rcases Nat.lt_trichotomy d c with e | e | e
    · have := dv_lt (s := s) e
      rw [h2.out p (by omega), h2.out q (by omega)]
      exact h.up p q hpq (by omega) he
    · subst e
      exact h2.up p q b1.1 hpq hq
    · have := dv_lt (s := s) e
      omega
/-- Pairs of blocks are merged up to place `a`. -/
structure MI (K : Int → Int) (f g : Nat → Int) (n s a : Nat) (g2 : Nat → Int) : Prop where
  b : BI K f n (2 * s) a g2
  rest : ∀ k, a ≤ k → g2 k = g k
theorem half {s p : Nat} : p / (2 * s) = p / s / 2 := by rw [Nat.mul_comm, Nat.div_div_eq_div_mul]
theorem mi_0 {K : Int → Int} {f g : Nat → Int} {n s : Nat} (h : BI K f n s n g) : MI K f g n s 0 g := ⟨⟨h.out, h.perm, fun p hp => by
  obtain ⟨q, q1, q2, q3⟩ := h.src p hp
  exact ⟨q, q1, by rw [half, half, q2], q3⟩, fun _ _ _ h => by omega⟩, fun _ _ => rfl⟩
theorem mi_next {K : Int → Int} {f g g2 g3 : Nat → Int} {n s c b : Nat} (hs : 0 < s) (hB : BI K f n s n g) (h : MI K f g n s (2 * s * c) g2) (hab : 2 * s * c ≤ b) (hb : b ≤ 2 * s * c + 2 * s) (hn : b ≤ n) (h3 : InI K g2 (2 * s * c) b g3) :
    MI K f g n s b g3 where
  b := {
    out := fun k hk => by rw [h3.out k (by omega), h.b.out k hk]
    perm := (h3.all hab hn).trans h.b.perm
    src := fun p hp => by
      by_cases e : 2 * s * c ≤ p ∧ p < b
      · obtain ⟨q, q1, q2, q3⟩ := h3.src e.1 e.2
        obtain ⟨q', r1, r2, r3⟩ := h.b.src q (by omega)
        refine ⟨q', r1, ?_, by rw [q3, r3]⟩
        rw [r2, (dv_iff (by omega)).mpr ⟨q1, by omega⟩, (dv_iff (by omega)).mpr ⟨e.1, by omega⟩]
      · rw [h3.out p (by omega)]
        exact h.b.src p hp
    up := fun p q hpq hq he => by
      obtain ⟨d, hd⟩ : ∃ d, d = q / (2 * s) := ⟨_, rfl⟩
      have b1 := (dv_iff (by omega)).mp (he.trans hd.symm)
      have b2 := (dv_iff (by omega)).mp hd.symm
      rcases Nat.lt_trichotomy d c with e | e | e
      · have := dv_lt (s := 2 * s) e
        rw [h3.out p (by omega), h3.out q (by omega)]
        exact h.b.up p q hpq (by omega) he
      · subst e
        exact h3.up p q b1.1 hpq hq
      · have := dv_lt (s := 2 * s) e
        omega }
  rest k hk := by rw [h3.out k (by omega), h.rest k (by omega)]
/-- What is left is at most one block. -/
theorem mi_end {K : Int → Int} {f g g2 : Nat → Int} {n s c : Nat} (hs : 0 < s) (hB : BI K f n s n g) (h : MI K f g n s (2 * s * c) g2) (hc : 2 * s * c ≤ n) (hn : n ≤ 2 * s * c + s) : BI K f n (2 * s) n g2 where
  out := h.b.out
  perm := h.b.perm
  src := h.b.src
  up p q hpq hq he := by
    obtain ⟨d, hd⟩ : ∃ d, d = q / (2 * s) := ⟨_, rfl⟩
    have b1 := (dv_iff (by omega)).mp (he.trans hd.symm)
    have b2 := (dv_iff (by omega)).mp hd.symm
    rcases Nat.lt_trichotomy d c with e | e | e
    · have := dv_lt (s := 2 * s) e
      exact h.b.up p q hpq (by omega) he
    · subst e
      rw [h.rest p b1.1, h.rest q b2.1]
      have e2 : 2 * s * d = s * (2 * d) := by rw [Nat.mul_comm 2 s, Nat.mul_assoc]
      refine hB.up p q hpq hq ?_
      rw [(dv_iff hs).mpr ⟨e2 ▸ b1.1, by omega⟩, (dv_iff hs).mpr ⟨e2 ▸ b2.1, by omega⟩]
    · have := dv_lt (s := 2 * s) e
      omega
/-- What merging asks. -/
theorem mi_ask {K : Int → Int} {f g g2 : Nat → Int} {n s c b : Nat} {V : Int → Prop} {O : Int → Int → Prop} (hs : 0 < s) (hB : BI K f n s n g) (h : MI K f g n s (2 * s * c) g2) (h1 : 2 * s * c + s < b) (hb : b ≤ 2 * s * c + 2 * s) (hn : b ≤ n)
    (hV : allV V f 0 n) (hO : ∀ p q, p < q → q < n → O (f p) (f q)) :
    allV V g2 (2 * s * c) b ∧ upK K g2 (2 * s * c) (2 * s * c + s) ∧ upK K g2 (2 * s * c + s) b ∧ ∀ p q, 2 * s * c ≤ p → p < 2 * s * c + s → 2 * s * c + s ≤ q → q < b → O (g2 p) (g2 q) := by
  have e2 : 2 * s * c = s * (2 * c) := by rw [Nat.mul_comm 2 s, Nat.mul_assoc]
  have e3 : 2 * s * c + s = s * (2 * c + 1) := by rw [e2, Nat.mul_add, Nat.mul_one]
  refine ⟨fun k k1 k2 => ?_, fun p q p1 p2 p3 => ?_, fun p q p1 p2 p3 => ?_, fun p q p1 p2 p3 p4 => ?_⟩
  · rw [h.rest k k1]
    obtain ⟨q, q1, q2, q3⟩ := hB.src k (by omega)
    rw [q3]
    exact hV q (by omega) q1
  · rw [h.rest p (by omega), h.rest q (by omega)]
    refine hB.up p q p2 (by omega) ?_
    rw [(dv_iff (c := 2 * c) hs).mpr ⟨by omega, by omega⟩, (dv_iff (c := 2 * c) hs).mpr ⟨by omega, by omega⟩]
  · rw [h.rest p (by omega), h.rest q (by omega)]
    refine hB.up p q p2 (by omega) ?_
    rw [(dv_iff (c := 2 * c + 1) hs).mpr ⟨by omega, by omega⟩, (dv_iff (c := 2 * c + 1) hs).mpr ⟨by omega, by omega⟩]
  · rw [h.rest p (by omega), h.rest q (by omega)]
    obtain ⟨p', r1, r2, r3⟩ := hB.src p (by omega)
    obtain ⟨q', t1, t2, t3⟩ := hB.src q (by omega)
    rw [(dv_iff (c := 2 * c) (p := p) hs).mpr ⟨by omega, by omega⟩, dv_iff hs] at r2
    rw [(dv_iff (c := 2 * c + 1) (p := q) hs).mpr ⟨by omega, by omega⟩, dv_iff hs] at t2
    rw [r3, t3]
    exact hO _ _ (by omega) (by omega)
end Go.Proofs.YtolioflblegneaaGreat
namespace Go.Proofs.YtolioflblegneaaGreat
open Go.RowKit
theorem sp_mono {P : Program} {f : FuncId} {args : List SV} {H : List Ob} {K0 K : SV → List Ob → Prop} (h : Sp P f args H K0) (hk : ∀ r H', K0 r H' → K r H') : Sp P f args H K := by
  refine ⟨h.1, fun β w vals hI ha => (h.2 β w vals hI ha).mono ?_⟩
  rintro e w' ⟨r', u, β', H1, rfl, hK, h5, h6, h7⟩
  exact ⟨r', u, β', H1, rfl, hk _ _ hK, h5, h6, h7⟩
/-- Merging does what it should. -/
def MergeOk (g : FuncId) (fs cs : List SV) (n cap : Nat) (H : List Ob) (V : Int → Prop) (O : Int → Int → Prop) (K : Int → Int) : Prop :=
  ∀ (f : Nat → Int) (a m b : Nat), a < m → m < b → b ≤ n → allV V f a b → upK K f a m → upK K f m b → (∀ p q, a ≤ p → p < m → m ≤ q → q < b → O (f p) (f q)) →
    Sp Tryz.prog 171 [.s 0 0 0 n cap 1, .v (.int .i64 a), .v (.int .i64 m), .v (.int .i64 b), .f (.func g) fs cs] (rOwn 3 n cap f :: H) (fun r H' => ∃ f', r = .t [] ∧ H' = rOwn 3 n cap f' :: H ∧ InI K f a b f')
theorem stable_sp (g : FuncId) (fs cs : List SV) (n cap : Nat) (H : List Ob) (V : Int → Prop) (O : Int → Int → Prop) (cm : Int → Int → Int) (K : Int → Int) (f : Nat → Int)
    (hM : 20 < n → MergeOk g fs cs n cap H V O K)
    (hC : Cmp g fs cs n cap H V cm) (hK : Kn V O cm K) (hV : allV V f 0 n) (hO : ∀ p q, p < q → q < n → O (f p) (f q)) (hro : roB H = true) (hn : n ≤ cap) (hcap : n ≤ 1152921504606846976) :
    Sp Tryz.prog 123 [.s 0 0 0 n cap 1, .v (.int .i64 n), .f (.func g) fs cs] (rOwn 3 n cap f :: H) (fun r H' => ∃ f', r = .t [] ∧ H' = rOwn 3 n cap f' :: H ∧ InI K f 0 n f') := by
  refine sp_of_ex true [] mixed Tryz.call123 Tryz.func123 rfl Tryz.ntmps123 Tryz.results123 (by decide +kernel) rfl ?_
  refine sxo ?_
  try with_reducible exact trivial
  refine tr_loop mixed (by kernel_rfl) (fun (x : Nat × (Nat → Int)) => [(7, .v (.int .i64 (20 * (x.1 : Int)))), (8, .v (.int .i64 (20 * (x.1 : Int) + 20))), (6, .v (.int .i64 20)), (0, .s 0 0 0 n cap 1), (1, .v (.int .i64 n)), (2, .f (.func g) fs cs)])
    (fun x => rOwn 3 n cap x.2 :: H) (fun x => 20 * x.1 ≤ n ∧ BI K f n 20 (20 * x.1) x.2 ∧ ∀ k, 20 * x.1 ≤ k → x.2 k = f k) (fun x => n - 20 * x.1) (0, f) ⟨by simp, bi_0 K f n 20, fun _ _ => rfl⟩ (swk_head ?_ fun _ _ _ _ => rfl) ?_
  · refine sxo ?_
    try with_reducible exact trivial
    exact ⟨rfl, rfl⟩
  rintro ⟨c, f1⟩ ⟨h1, h2, h3⟩
  simp only at h1 h2 h3
  refine sxo ?_
  try with_reducible exact trivial
  have hV1 : ∀ b, b ≤ n → allV V f1 (20 * c) b := fun b hb k k1 k2 => by rw [h3 k k1]; exact hV k (by omega) (by omega)
  have hO1 : ∀ b, b ≤ n → ∀ p q, 20 * c ≤ p → p < q → q < b → O (f1 p) (f1 q) := fun b hb p q p1 p2 p3 => by rw [h3 p p1, h3 q (by omega)]; exact hO p q p2 (by omega)
  refine ⟨fun h => ?_, fun h => ?_⟩
  · have hi := ins_sp g fs cs n cap H V O cm K f1 (20 * c) (20 * c + 20) hC hK (hV1 _ (by omega)) (hO1 _ (by omega)) hro (by omega) (by omega) hn (by omega)
    rw [show ((20 * c : Nat) : Int) = 20 * (c : Int) by omega, show ((20 * c + 20 : Nat) : Int) = 20 * (c : Int) + 20 by omega] at hi
    refine sp_mono hi ?_
    rintro r H' ⟨f2, rfl, rfl, i2⟩
    refine sxo ?_
    try with_reducible exact trivial
    repeat (with_reducible refine And.intro (by omega) ?_)
    refine lpK_wk (c + 1, f2) ⟨by simp; omega, bi_next (by omega) h2 h3 (by omega) (by omega) (by simp; omega) i2, fun k hk => ?_⟩ (by simp; omega) (swk_head ?_ fun _ _ _ _ => rfl)
    · simp only at hk ⊢
      rw [i2.out k (by omega), h3 k (by omega)]
    · refine sxo ?_
      try with_reducible exact trivial
      rw [Int.mul_add]
      exact ⟨rfl, rfl⟩
  · have hi := ins_sp g fs cs n cap H V O cm K f1 (20 * c) n hC hK (hV1 _ (by omega)) (hO1 _ (by omega)) hro (by omega) (by omega) hn (by omega)
    rw [show ((20 * c : Nat) : Int) = 20 * (c : Int) by omega] at hi
    refine sp_mono hi ?_
    rintro r H' ⟨f2, rfl, rfl, i2⟩
    have b2 := bi_next (by omega) h2 h3 (by omega) (by omega) (Nat.le_refl n) i2
    clear i2 h2 h3 hV1 hO1
    refine sxo ?_
    try with_reducible exact trivial
    refine tr_loop mixed (by kernel_rfl) (fun (x : Nat × (Nat → Int)) => [(6, .v (.int .i64 x.1)), (0, .s 0 0 0 n cap 1), (1, .v (.int .i64 n)), (2, .f (.func g) fs cs)])
      (fun x => rOwn 3 n cap x.2 :: H) (fun x => 20 ≤ x.1 ∧ (20 < x.1 → 20 < n) ∧ BI K f n x.1 n x.2) (fun x => n - x.1) (20, f2) ⟨by simp, by simp, b2⟩ (swk_head ?_ fun _ _ _ _ => rfl) ?_
    · refine sxo ?_
      try with_reducible exact trivial
      exact rfl
    clear b2
    rintro ⟨s, f3⟩ ⟨k1, k0, k2⟩
    simp only at k1 k0 k2
    refine sxo ?_
    try with_reducible exact trivial
    refine ⟨fun h4 => ?_, fun h4 => ?_⟩
    · have hM := hM (by omega)
      repeat (with_reducible refine And.intro (by omega) ?_)
      refine tr_loop mixed (by kernel_rfl) (fun (x : Nat × (Nat → Int)) => [(7, .v (.int .i64 (2 * (s : Int) * (x.1 : Int)))), (8, .v (.int .i64 (2 * (s : Int) * (x.1 : Int) + 2 * (s : Int)))), (6, .v (.int .i64 s)), (0, .s 0 0 0 n cap 1), (1, .v (.int .i64 n)), (2, .f (.func g) fs cs)])
        (fun x => rOwn 3 n cap x.2 :: H) (fun x => 2 * s * x.1 ≤ n ∧ MI K f f3 n s (2 * s * x.1) x.2) (fun x => n - 2 * s * x.1) (0, f3) ⟨by simp, by simpa using mi_0 k2⟩ (swk_head ?_ fun _ _ _ _ => rfl) ?_
      · refine sxo ?_
        try with_reducible exact trivial
        simp
      rintro ⟨d, f4⟩ ⟨l1, l2⟩
      simp only at l1 l2
      refine sxo ?_
      try with_reducible exact trivial
      obtain ⟨A, hA⟩ : ∃ A, A = 2 * s * d := ⟨_, rfl⟩
      have ed : 2 * (s : Int) * (d : Int) = (A : Int) := by rw [hA]; push_cast; try rfl
      simp only [ed]
      refine ⟨fun h5 => ?_, fun h5 => ?_⟩
      · obtain ⟨m1, m2, m3, m4⟩ := mi_ask (b := 2 * s * d + 2 * s) (by omega) k2 l2 (by omega) (by omega) (by omega) hV hO
        have hm := hM f4 (2 * s * d) (2 * s * d + s) (2 * s * d + 2 * s) (by omega) (by omega) (by omega) m1 m2 m3 m4
        rw [show ((2 * s * d + s : Nat) : Int) = (A : Int) + (s : Int) by omega, show ((2 * s * d + 2 * s : Nat) : Int) = (A : Int) + 2 * (s : Int) by omega, ← hA] at hm
        repeat (with_reducible refine And.intro (by omega) ?_)
        refine sp_mono hm ?_
        rintro r H' ⟨f5, rfl, rfl, i5⟩
        rw [hA] at i5
        have m5 := mi_next (by omega) k2 l2 (by omega) (Nat.le_refl _) (by omega) i5
        have e6 : 2 * s * (d + 1) = 2 * s * d + 2 * s := by rw [Nat.mul_add, Nat.mul_one]
        rw [← e6] at m5
        refine sxo ?_
        try with_reducible exact trivial
        repeat (with_reducible refine And.intro (by omega) ?_)
        refine lpK_wk (d + 1, f5) ?_ ?_ (swk_head ?_ fun _ _ _ _ => rfl)
        · exact ⟨by simp only; omega, m5⟩
        · simp only
          omega
        refine sxo ?_
        try with_reducible exact trivial
        rw [← ed, Int.mul_add, Int.mul_one]
        exact ⟨rfl, rfl⟩
      · repeat (with_reducible refine And.intro (by omega) ?_)
        refine ⟨fun h6 => ?_, fun h6 => ?_⟩
        · obtain ⟨m1, m2, m3, m4⟩ := mi_ask (b := n) (by omega) k2 l2 (by omega) (by omega) (by omega) hV hO
          have hm := hM f4 (2 * s * d) (2 * s * d + s) n (by omega) (by omega) (by omega) m1 m2 m3 m4
          rw [show ((2 * s * d + s : Nat) : Int) = (A : Int) + (s : Int) by omega, ← hA] at hm
          refine sp_mono hm ?_
          rintro r H' ⟨f5, rfl, rfl, i5⟩
          rw [hA] at i5
          have m5 := mi_next (by omega) k2 l2 (by omega) (by omega) (Nat.le_refl n) i5
          refine sxo ?_
          try with_reducible exact trivial
          repeat (with_reducible refine And.intro (by omega) ?_)
          refine lpK_wk (2 * s, f5) ⟨by simp only; omega, fun _ => by omega, m5.b⟩ (by simp only; omega) (swk_head ?_ fun _ _ _ _ => rfl)
          refine sxo ?_
          try with_reducible exact trivial
          rw [Int.mul_comm]
          exact rfl
        · have m5 := mi_end (by omega) k2 l2 (by omega) (by omega)
          repeat (with_reducible refine And.intro (by omega) ?_)
          refine lpK_wk (2 * s, f4) ⟨by simp only; omega, fun _ => by omega, m5⟩ (by simp only; omega) (swk_head ?_ fun _ _ _ _ => rfl)
          refine sxo ?_
          try with_reducible exact trivial
          rw [Int.mul_comm]
          exact rfl
    · refine ⟨f3, ?_, ?_⟩
      · rfl
      refine ⟨fun k hk => k2.out k (by omega), by simpa using k2.perm, fun p q p1 p2 p3 => k2.up p q p2 p3 ?_⟩
      rw [Nat.div_eq_of_lt (by omega), Nat.div_eq_of_lt (by omega)]
end Go.Proofs.YtolioflblegneaaGreat
namespace Go.Proofs.YtolioflblegneaaGreat
open Go.RowKit
theorem upd_two {f : Nat → Int} {p q x k : Nat} {u v : Int} (hpq : p ≠ q) (hx : x < 1) : [SV.v (.int .i64 (if k = q then v else if k = p then u else f k))] = updF (updF (fun _ k => [SV.v (.int .i64 (f k))]) 0 p [.v (.int .i64 u)]) 0 q (.v (.int .i64 v) :: bif q == p then [] else []) x k := by
  obtain rfl : x = 0 := by omega
  have e : (q == p) = false := by simp; omega
  simp only [updF, e]
  by_cases e1 : k = q
  · subst e1
    simp [mrgL, mrg1, e]
  · have e4 : (k == q) = false := by simpa using e1
    by_cases e2 : k = p
    · subst e2
      simp [mrgL, mrg1, e1, e4]
    · have e5 : (k == p) = false := by simpa using e2
      simp [mrgL, mrg1, e1, e2, e4, e5]
/-- Two stretches exchanged. -/
def swR (f : Nat → Int) (a b c : Nat) : Nat → Int := fun k => if a ≤ k ∧ k < a + c then f (k - a + b) else if b ≤ k ∧ k < b + c then f (k - b + a) else f k
theorem swR_0 (f : Nat → Int) (a b : Nat) : swR f a b 0 = f := by
  funext k
  simp only [swR]
  rw [if_neg (by omega), if_neg (by omega)]
theorem swR_1 {f : Nat → Int} {a b i k : Nat} (h : a + i < b) : swR f a b (i + 1) k = if k = b + i then swR f a b i (a + i) else if k = a + i then swR f a b i (b + i) else swR f a b i k := by
  simp only [swR]
  by_cases e1 : k = b + i
  · subst e1
    rw [if_neg (by omega), if_pos (by omega), if_pos rfl, if_neg (by omega), if_neg (by omega)]
    congr 1
    omega
  · by_cases e2 : k = a + i
    · subst e2
      rw [if_pos (by omega), if_neg (by omega), if_pos rfl, if_neg (by omega), if_neg (by omega)]
      congr 1
      omega
    · rw [if_neg e1, if_neg e2]
      by_cases e3 : a ≤ k ∧ k < a + i
      · rw [if_pos (by omega), if_pos e3]
      · rw [if_neg (by omega), if_neg e3]
        by_cases e4 : b ≤ k ∧ k < b + i
        · rw [if_pos (by omega), if_pos e4]
        · rw [if_neg (by omega), if_neg e4]
theorem swapR_sp (g : FuncId) (fs cs : List SV) (n cap : Nat) (H : List Ob) (f : Nat → Int) (a b c : Nat) (h1 : a + c ≤ b) (h2 : b + c ≤ n) (hn : n ≤ cap) (hcap : n ≤ 1152921504606846976) :
    Sp Tryz.prog 224 [.s 0 0 0 n cap 1, .v (.int .i64 a), .v (.int .i64 b), .v (.int .i64 c), .f (.func g) fs cs] (rOwn 3 n cap f :: H) (fun r H' => r = .t [] ∧ H' = rOwn 3 n cap (swR f a b c) :: H) := by
  refine sp_wk ?_
  refine sp_of_ex true [(3, .one 0 (.one 1 (.one 2 (.one 3 (.one 4 (.one 5 (.one 6 (.one 7 (.one 8 (.one 9 (.one 10 (.one 11 (.one 12 (.one 14 (.one 15 (.one 16 (.one 17 (.one 18 (.alt [(13, .one 19 (.one 20 (.one 21 (.one 22 (.one 23 .fin))))), (19, .one 13 (.one 20 (.one 21 (.one 22 (.one 23 .fin)))))])))))))))))))))))))] mixed Tryz.call224 Tryz.func224 rfl Tryz.ntmps224 Tryz.results224 (by decide +kernel) rfl ?_
  refine sxo ?_
  try with_reducible exact trivial
  refine tr_loop mixed (by kernel_rfl) (fun (i : Nat) => [(10, .v (.int .i64 i)), (0, .s 0 0 0 n cap 1), (1, .v (.int .i64 a)), (2, .v (.int .i64 b)), (3, .v (.int .i64 c)), (4, .f (.func g) fs cs)])
    (fun i => rOwn 3 n cap (swR f a b i) :: H) (fun i => i ≤ c) (fun i => c - i) 0 (Nat.zero_le _) (swk_head ?_ fun _ _ _ _ => by simp only [swR_0]) ?_
  · refine sxo ?_
    try with_reducible exact trivial
  intro i hi
  refine sxo ?_
  try with_reducible exact trivial
  refine ⟨fun h => ?_, fun h => ?_⟩
  · repeat' (with_reducible apply And.intro)
    all_goals try omega
    all_goals
      have e1 : ((b : Int) + (i : Int)).toNat = b + i := by omega
      have e2 : ((a : Int) + (i : Int)).toNat = a + i := by omega
      simp only [e1, e2]
      refine lpK_wk (i + 1) (by omega) (by omega) (swk_head ?_ fun x hx k hk => ?_)
      · refine sxo ?_
        try with_reducible exact trivial
      · rw [← upd_two (by omega) hx, swR_1 (by omega)]
  · obtain rfl : i = c := by omega
    exact ⟨_, _, vwk_head (f' := fun x k => [.v (.int .i64 (swR f a b i k))]) fun _ _ _ _ => rfl, rfl, rfl⟩
/-- A stretch turned about: what stood from `m` on comes first. -/
def rot (f : Nat → Int) (a m b : Nat) : Nat → Int := fun k => if a ≤ k ∧ k < a + (b - m) then f (k - a + m) else if a ≤ k ∧ k < b then f (k - (b - m)) else f k
theorem rot_eq {f : Nat → Int} {m i : Nat} (h : i ≤ m) (k : Nat) : swR f (m - i) m i k = rot f (m - i) m (m + i) k := by
  simp only [swR, rot]
  repeat' split
  all_goals first | omega | (congr 1; omega)
theorem rot_gt {f : Nat → Int} {m i j : Nat} (h : i ≤ m) (hij : j < i) (k : Nat) : rot (swR f (m - i) m j) (m - (i - j)) m (m + j) k = rot f (m - i) m (m + j) k := by
  simp only [swR, rot]
  repeat' split
  all_goals first | omega | (congr 1; omega)
theorem rot_lt {f : Nat → Int} {m i j : Nat} (h : i ≤ m) (hij : i < j) (k : Nat) : rot (swR f (m - i) (m + j - i) i) (m - i) m (m + (j - i)) k = rot f (m - i) m (m + j) k := by
  simp only [swR, rot]
  repeat' split
  all_goals first | omega | (congr 1; omega)
theorem rot_sp (g : FuncId) (fs cs : List SV) (n cap : Nat) (H : List Ob) (f : Nat → Int) (a m b : Nat) (h1 : a < m) (h2 : m < b) (h3 : b ≤ n) (hn : n ≤ cap) (hcap : n ≤ 1152921504606846976) :
    Sp Tryz.prog 205 [.s 0 0 0 n cap 1, .v (.int .i64 a), .v (.int .i64 m), .v (.int .i64 b), .f (.func g) fs cs] (rOwn 3 n cap f :: H) (fun r H' => r = .t [] ∧ H' = rOwn 3 n cap (rot f a m b) :: H) := by
  refine sp_wk ?_
  refine sp_of_ex true [] mixed Tryz.call205 Tryz.func205 rfl Tryz.ntmps205 Tryz.results205 (by decide +kernel) rfl ?_
  refine sxo ?_
  try with_reducible exact trivial
  repeat (with_reducible refine And.intro (by omega) ?_)
  refine tr_loop mixed (by kernel_rfl) (fun (x : Nat × Nat × (Nat → Int)) => [(10, .v (.int .i64 x.1)), (11, .v (.int .i64 x.2.1)), (0, .s 0 0 0 n cap 1), (1, .v (.int .i64 a)), (2, .v (.int .i64 m)), (3, .v (.int .i64 b)), (4, .f (.func g) fs cs)])
    (fun x => rOwn 3 n cap x.2.2 :: H) (fun x => 0 < x.1 ∧ x.1 ≤ m ∧ 0 < x.2.1 ∧ m + x.2.1 ≤ n ∧ rot x.2.2 (m - x.1) m (m + x.2.1) = rot f a m b) (fun x => x.1 + x.2.1) (m - a, b - m, f)
    ⟨by simp only; omega, by simp only; omega, by simp only; omega, by simp only; omega, by simp only; rw [show m - (m - a) = a by omega, show m + (b - m) = b by omega]⟩ (swk_head ?_ fun _ _ _ _ => rfl) ?_
  · refine sxo ?_
    try with_reducible exact trivial
    rw [show ((m - a : Nat) : Int) = (m : Int) - a by omega, show ((b - m : Nat) : Int) = (b : Int) - m by omega]
    exact ⟨rfl, rfl⟩
  rintro ⟨i, j, f1⟩ ⟨k1, k2, k3, k4, k5⟩
  simp only at k1 k2 k3 k4 k5
  refine sxo ?_
  try with_reducible exact trivial
  refine ⟨fun h => ?_, fun h => ?_⟩
  · obtain rfl : i = j := by omega
    have hs := swapR_sp g fs cs n cap H f1 (m - i) m i (by omega) (by omega) hn hcap
    rw [show ((m - i : Nat) : Int) = (m : Int) - i by omega] at hs
    repeat (with_reducible refine And.intro (by omega) ?_)
    refine sp_mono hs ?_
    rintro r H' ⟨rfl, rfl⟩
    refine sxo ?_
    try with_reducible exact trivial
    refine ⟨_, _, vwk_head (f' := fun x k => [.v (.int .i64 (rot f a m b k))]) fun _ _ _ _ => ?_, rfl, rfl⟩
    rw [← k5, rot_eq (by omega)]
  · refine ⟨fun h4 => ?_, fun h4 => ?_⟩
    · have hs := swapR_sp g fs cs n cap H f1 (m - i) m j (by omega) (by omega) hn hcap
      rw [show ((m - i : Nat) : Int) = (m : Int) - i by omega] at hs
      repeat (with_reducible refine And.intro (by omega) ?_)
      refine sp_mono hs ?_
      rintro r H' ⟨rfl, rfl⟩
      refine sxo ?_
      try with_reducible exact trivial
      repeat (with_reducible refine And.intro (by omega) ?_)
      refine lpK_wk (i - j, j, swR f1 (m - i) m j) ?_ ?_ (swk_head ?_ fun _ _ _ _ => rfl)
      · refine ⟨by simp only; omega, by simp only; omega, by simp only; omega, by simp only; omega, ?_⟩
        rw [← k5]
        funext k
        exact rot_gt (by omega) (by omega) k
      · simp only; omega
      · refine sxo ?_
        try with_reducible exact trivial
        rw [show ((i - j : Nat) : Int) = (i : Int) - j by omega]
    · have hs := swapR_sp g fs cs n cap H f1 (m - i) (m + j - i) i (by omega) (by omega) hn hcap
      rw [show ((m - i : Nat) : Int) = (m : Int) - i by omega, show ((m + j - i : Nat) : Int) = (m : Int) + j - i by omega] at hs
      repeat (with_reducible refine And.intro (by omega) ?_)
      refine sp_mono hs ?_
      rintro r H' ⟨rfl, rfl⟩
      refine sxo ?_
      try with_reducible exact trivial
      repeat (with_reducible refine And.intro (by omega) ?_)
      refine lpK_wk (i, j - i, swR f1 (m - i) (m + j - i) i) ?_ ?_ (swk_head ?_ fun _ _ _ _ => rfl)
      · refine ⟨by simp only; omega, by simp only; omega, by simp only; omega, by simp only; omega, ?_⟩
        rw [← k5]
        funext k
        exact rot_lt (by omega) (by omega) k
      · simp only; omega
      · refine sxo ?_
        try with_reducible exact trivial
        rw [show ((j - i : Nat) : Int) = (j : Int) - i by omega]
end Go.Proofs.YtolioflblegneaaGreat
namespace Go.Proofs.YtolioflblegneaaGreat
/-- The same elements in a stretch, the others as they were. -/
structure PO (f : Nat → Int) (a b : Nat) (g : Nat → Int) : Prop where
  out : ∀ k, k < a ∨ b ≤ k → g k = f k
  perm : (seg g a (b - a)).Perm (seg f a (b - a))
theorem PO.refl (f : Nat → Int) (a b : Nat) : PO f a b f := ⟨fun _ _ => rfl, .refl _⟩
theorem PO.trans {f g h : Nat → Int} {a b : Nat} (h1 : PO f a b g) (h2 : PO g a b h) : PO f a b h := ⟨fun k hk => (h2.out k hk).trans (h1.out k hk), h2.perm.trans h1.perm⟩
theorem PO.wide {f g : Nat → Int} {a b a0 b0 : Nat} (h : PO f a b g) (h1 : a0 ≤ a) (h2 : a ≤ b) (h3 : b ≤ b0) : PO f a0 b0 g where
  out k hk := h.out k (by omega)
  perm := by
    have e : ∀ u : Nat → Int, seg u a0 (b0 - a0) = seg u a0 (a - a0) ++ (seg u a (b - a) ++ seg u b (b0 - b)) := fun u => by
      have e1 := seg_app u a0 (a - a0) ((b - a) + (b0 - b))
      have e2 := seg_app u a (b - a) (b0 - b)
      rw [show a - a0 + ((b - a) + (b0 - b)) = b0 - a0 by omega, show a0 + (a - a0) = a by omega] at e1
      rw [show a + (b - a) = b by omega] at e2
      rw [e1, e2]
    rw [e g, e f, seg_congr (f := g) (g := f) (a := a0) fun k _ hk => h.out k (.inl (by omega)), seg_congr (f := g) (g := f) (a := b) fun k hk _ => h.out k (.inr (by omega))]
    exact List.Perm.append_left _ (h.perm.append_right _)
theorem PO.src {f g : Nat → Int} {a b : Nat} (h : PO f a b g) {p : Nat} (h1 : a ≤ p) (h2 : p < b) : ∃ q, a ≤ q ∧ q < b ∧ g p = f q := by
  have : g p ∈ seg f a (b - a) := h.perm.mem_iff.mp (mem_seg.mpr ⟨p, h1, by omega, rfl⟩)
  obtain ⟨q, q1, q2, q3⟩ := mem_seg.mp this
  exact ⟨q, q1, by omega, q3.symm⟩
theorem InI.po {K : Int → Int} {f g : Nat → Int} {a b : Nat} (h : InI K f a b g) : PO f a b g := ⟨h.out, h.perm⟩
theorem PO.sw (f : Nat → Int) {a b p q : Nat} (h1 : a ≤ p) (h2 : p < q) (h3 : q < b) : PO f a b (swF f p q) := ⟨fun k hk => by simp [swF, show k ≠ q by omega, show k ≠ p by omega], swF_perm f h1 h2 (by omega)⟩
theorem PO.rot (f : Nat → Int) {a m b : Nat} (h1 : a ≤ m) (h2 : m ≤ b) : PO f a b (rot f a m b) where
  out k hk := by
    simp only [Go.Proofs.YtolioflblegneaaGreat.rot]
    rw [if_neg (by omega), if_neg (by omega)]
  perm := by
    have e1 := seg_app (Go.Proofs.YtolioflblegneaaGreat.rot f a m b) a (b - m) (m - a)
    have e2 := seg_app f a (m - a) (b - m)
    rw [show b - m + (m - a) = b - a by omega] at e1
    rw [show m - a + (b - m) = b - a by omega, show a + (m - a) = m by omega] at e2
    have e3 : seg (Go.Proofs.YtolioflblegneaaGreat.rot f a m b) a (b - m) = seg f m (b - m) := seg_congr2 fun k hk => by
      simp only [Go.Proofs.YtolioflblegneaaGreat.rot]
      rw [if_pos (by omega)]
      congr 1
      omega
    have e4 : seg (Go.Proofs.YtolioflblegneaaGreat.rot f a m b) (a + (b - m)) (m - a) = seg f a (m - a) := seg_congr2 fun k hk => by
      simp only [Go.Proofs.YtolioflblegneaaGreat.rot]
      rw [if_neg (by omega), if_pos (by omega)]
      congr 1
      omega
    rw [e1, e2, e3, e4]
    exact List.perm_append_comm
/-- An element goes up to place `i`. -/
structure GoUp (f : Nat → Int) (a b k : Nat) (g : Nat → Int) : Prop where
  po : PO f a b g
  low : ∀ p, a ≤ p → p < k → g p = f (p + 1)
  here : g k = f a
  high : ∀ p, k < p → g p = f p
theorem goUp_0 (f : Nat → Int) (a b : Nat) : GoUp f a b a f := ⟨.refl f a b, fun p _ _ => by omega, rfl, fun _ _ => rfl⟩
theorem goUp_1 {f g : Nat → Int} {a b k : Nat} (ha : a ≤ k) (hk : k + 1 < b) (h : GoUp f a b k g) : GoUp f a b (k + 1) (swF g k (k + 1)) where
  po := h.po.trans (.sw g ha (by omega) hk)
  low p h1 h2 := by
    by_cases e : p = k
    · subst e
      simp [swF, h.high (p + 1) (by omega)]
    · simp [swF, e, show p ≠ k + 1 by omega, h.low p h1 (by omega)]
  here := by simp [swF, h.here]
  high p hp := by simp [swF, show p ≠ k by omega, show p ≠ k + 1 by omega, h.high p (by omega)]
theorem goUp_up {K : Int → Int} {f g : Nat → Int} {a b i : Nat} (hi : a < i) (hib : i ≤ b) (h : GoUp f a b (i - 1) g) (hu : upK K f (a + 1) b) (h1 : ∀ k, a < k → k < i → K (f k) ≤ K (f a)) (h2 : ∀ k, i ≤ k → k < b → K (f a) ≤ K (f k)) : InI K f a b g where
  out := h.po.out
  perm := h.po.perm
  up p q p1 p2 p3 := by
    rcases Nat.lt_trichotomy q (i - 1) with e | e | e
    · rw [h.low p p1 (by omega), h.low q (by omega) e]
      exact hu _ _ (by omega) (by omega) (by omega)
    · subst e
      rw [h.low p p1 p2, h.here]
      exact h1 _ (by omega) (by omega)
    · rw [h.high q e]
      rcases Nat.lt_trichotomy p (i - 1) with e2 | e2 | e2
      · rw [h.low p p1 e2]
        by_cases e3 : p + 1 = q
        · omega
        · exact hu _ _ (by omega) (by omega) p3
      · subst e2
        rw [h.here]
        exact h2 q (by omega) p3
      · rw [h.high p e2]
        exact hu p q (by omega) p2 p3
/-- An element goes down to place `i`. -/
structure GoDn (f : Nat → Int) (a b m k : Nat) (g : Nat → Int) : Prop where
  po : PO f a b g
  low : ∀ p, p < k → g p = f p
  here : g k = f m
  high : ∀ p, k < p → p ≤ m → g p = f (p - 1)
theorem goDn_0 (f : Nat → Int) (a b m : Nat) : GoDn f a b m m f := ⟨.refl f a b, fun _ _ => rfl, rfl, fun p _ _ => by omega⟩
theorem goDn_1 {f g : Nat → Int} {a b m k : Nat} (ha : a < k) (hk : k ≤ m) (hm : m < b) (h : GoDn f a b m k g) : GoDn f a b m (k - 1) (swF g (k - 1) k) where
  po := h.po.trans (.sw g (by omega) (by omega) (by omega))
  low p hp := by simp [swF, show p ≠ k by omega, show p ≠ k - 1 by omega, h.low p (by omega)]
  here := by simp [swF, show k - 1 ≠ k by omega, h.here]
  high p h1 h2 := by
    by_cases e : p = k
    · subst e
      simp [swF, h.low (p - 1) (by omega)]
    · simp [swF, e, show p ≠ k - 1 by omega, h.high p (by omega) h2]
theorem goDn_up {K : Int → Int} {f g : Nat → Int} {a m i : Nat} (ha : a ≤ i) (hi : i ≤ m) (h : GoDn f a (m + 1) m i g) (hu : upK K f a m) (h1 : ∀ k, a ≤ k → k < i → K (f k) ≤ K (f m)) (h2 : ∀ k, i ≤ k → k < m → K (f m) ≤ K (f k)) : InI K f a (m + 1) g where
  out := h.po.out
  perm := h.po.perm
  up p q p1 p2 p3 := by
    rcases Nat.lt_trichotomy q i with e | e | e
    · rw [h.low p (by omega), h.low q e]
      exact hu _ _ p1 p2 (by omega)
    · subst e
      rw [h.low p p2, h.here]
      exact h1 _ p1 p2
    · rw [h.high q e (by omega)]
      rcases Nat.lt_trichotomy p i with e2 | e2 | e2
      · rw [h.low p e2]
        by_cases e3 : p = q - 1
        · omega
        · exact hu _ _ p1 (by omega) (by omega)
      · subst e2
        rw [h.here]
        exact h2 _ (by omega) (by omega)
      · rw [h.high p e2 (by omega)]
        exact hu _ _ (by omega) (by omega) (by omega)
/-- Two halves in order, each element of the first at most each of the second. -/
theorem halves {K : Int → Int} {f g g1 g2 : Nat → Int} {a c b : Nat} (h1 : a ≤ c) (h2 : c ≤ b) (hp : PO f a b g) (i1 : InI K g a c g1) (i2 : InI K g1 c b g2) (hx : ∀ p q, a ≤ p → p < c → c ≤ q → q < b → K (g p) ≤ K (g q)) : InI K f a b g2 where
  out := (hp.trans ((i1.po.wide (Nat.le_refl _) h1 h2).trans (i2.po.wide h1 h2 (Nat.le_refl _)))).out
  perm := (hp.trans ((i1.po.wide (Nat.le_refl _) h1 h2).trans (i2.po.wide h1 h2 (Nat.le_refl _)))).perm
  up p q p1 p2 p3 := by
    by_cases e1 : q < c
    · rw [i2.out p (by omega), i2.out q (by omega)]
      exact i1.up p q p1 p2 e1
    · by_cases e2 : p < c
      · rw [i2.out p (by omega)]
        obtain ⟨p', r1, r2, r3⟩ := i1.src p1 e2
        obtain ⟨q', t1, t2, t3⟩ := i2.src (show c ≤ q by omega) p3
        rw [r3, t3, i1.out q' (by omega)]
        exact hx _ _ r1 r2 t1 t2
      · exact i2.up p q (by omega) p2 p3
/-- What merging has after the rotation. -/
structure MF (V : Int → Prop) (O : Int → Int → Prop) (K : Int → Int) (f : Nat → Int) (a c b s e : Nat) (g : Nat → Int) : Prop where
  po : PO f a b g
  v : allV V g a b
  u1 : upK K g a s
  u2 : upK K g s c
  u3 : upK K g c e
  u4 : upK K g e b
  o1 : ∀ p q, a ≤ p → p < s → s ≤ q → q < c → O (g p) (g q)
  o2 : ∀ p q, c ≤ p → p < e → e ≤ q → q < b → O (g p) (g q)
  hx : ∀ p q, a ≤ p → p < c → c ≤ q → q < b → K (g p) ≤ K (g q)
theorem mf {V : Int → Prop} {O : Int → Int → Prop} {K : Int → Int} {f : Nat → Int} {a m b c s e : Nat} (hV : allV V f a b) (hu1 : upK K f a m) (hu2 : upK K f m b) (hO : ∀ p q, a ≤ p → p < m → m ≤ q → q < b → O (f p) (f q))
    (h1 : a ≤ s) (h2 : s ≤ m) (h3 : m ≤ e) (h4 : e ≤ b) (h5 : s ≤ c) (h6 : e = c + m - s) (lo : a < s → e < b → K (f (s - 1)) ≤ K (f e)) (hi : s < m → m < e → K (f (e - 1)) < K (f s)) : MF V O K f a c b s e (rot f s m e) := by
  have rA : ∀ k, s ≤ k → k < c → rot f s m e k = f (k - s + m) := fun k k1 k2 => by simp only [rot]; rw [if_pos (by omega)]
  have rB : ∀ k, c ≤ k → k < e → rot f s m e k = f (k - (c - s)) := fun k k1 k2 => by simp only [rot]; rw [if_neg (by omega), if_pos (by omega), show e - m = c - s by omega]
  have rC : ∀ k, k < s ∨ e ≤ k → rot f s m e k = f k := fun k hk => by simp only [rot]; rw [if_neg (by omega), if_neg (by omega)]
  have hle : ∀ p q, a ≤ p → p ≤ q → q < m → K (f p) ≤ K (f q) := fun p q p1 p2 p3 => by
    by_cases e : p = q
    · subst e; exact Int.le_refl _
    · exact hu1 p q p1 (by omega) p3
  have hle2 : ∀ p q, m ≤ p → p ≤ q → q < b → K (f p) ≤ K (f q) := fun p q p1 p2 p3 => by
    by_cases e : p = q
    · subst e; exact Int.le_refl _
    · exact hu2 p q p1 (by omega) p3
  refine ⟨(PO.rot f h2 h3).wide h1 (by omega) h4, fun k k1 k2 => ?_, fun p q p1 p2 p3 => ?_, fun p q p1 p2 p3 => ?_, fun p q p1 p2 p3 => ?_, fun p q p1 p2 p3 => ?_, fun p q p1 p2 p3 p4 => ?_, fun p q p1 p2 p3 p4 => ?_, fun p q p1 p2 p3 p4 => ?_⟩
  · obtain ⟨q, q1, q2, q3⟩ := ((PO.rot f h2 h3).wide h1 (by omega) h4).src k1 k2
    rw [q3]
    exact hV q q1 q2
  · rw [rC p (by omega), rC q (by omega)]
    exact hu1 p q p1 p2 (by omega)
  · rw [rA p p1 (by omega), rA q (by omega) p3]
    exact hu2 _ _ (by omega) (by omega) (by omega)
  · rw [rB p p1 (by omega), rB q (by omega) p3]
    exact hu1 _ _ (by omega) (by omega) (by omega)
  · rw [rC p (by omega), rC q (by omega)]
    exact hu2 p q (by omega) p2 p3
  · rw [rC p (by omega), rA q p3 p4]
    exact hO _ _ p1 (by omega) (by omega) (by omega)
  · rw [rB p p1 p2, rC q (by omega)]
    exact hO _ _ (by omega) (by omega) (by omega) p4
  · by_cases e1 : p < s
    · rw [rC p (by omega)]
      by_cases e2 : q < e
      · rw [rB q p3 e2]
        exact hle _ _ p1 (by omega) (by omega)
      · rw [rC q (by omega)]
        exact Int.le_trans (hle p (s - 1) p1 (by omega) (by omega)) (Int.le_trans (lo (by omega) (by omega)) (hle2 e q h3 (by omega) p4))
    · rw [rA p (by omega) p2]
      by_cases e2 : q < e
      · rw [rB q p3 e2]
        exact Int.le_trans (hle2 _ (e - 1) (by omega) (by omega) (by omega)) (Int.le_trans (Int.le_of_lt (hi (by omega) (by omega))) (hle s _ h1 (by omega) (by omega)))
      · rw [rC q (by omega)]
        exact hle2 _ _ (by omega) (by omega) p4
theorem rot_nil {f : Nat → Int} {s m e : Nat} (h2 : s ≤ m) (h3 : m ≤ e) (h : s = m ∨ e = m) : rot f s m e = f := by
  funext k
  simp only [rot]
  repeat' split
  all_goals first | omega | (congr 1; omega) | rfl
end Go.Proofs.YtolioflblegneaaGreat
namespace Go.Proofs.YtolioflblegneaaGreat
open Go.RowKit
theorem hv {x y e : Nat} (h : e = (x + y) / 2) : ((x : Int) + (y : Int)).fdiv (2 ^ min 1 IntKind.u64.bits) = (e : Int) := by
  have : (2 ^ min 1 IntKind.u64.bits : Int) = 2 := by decide
  rw [this, h, Int.fdiv_eq_ediv_of_nonneg _ (by omega)]
  omega
set_option maxHeartbeats 2000000 in
theorem merge_ok (g : FuncId) (fs cs : List SV) (n cap : Nat) (H : List Ob) (V : Int → Prop) (O : Int → Int → Prop) (cm : Int → Int → Int) (K : Int → Int)
    (hC : Cmp g fs cs n cap H V cm) (hK : Kn V O cm K) (hro : roB H = true) (hn : n ≤ cap) (hcap : n ≤ 1152921504606846976) :
    ∀ (d : Nat) (f : Nat → Int) (a m b : Nat), b - a = d → a < m → m < b → b ≤ n → allV V f a b → upK K f a m → upK K f m b → (∀ p q, a ≤ p → p < m → m ≤ q → q < b → O (f p) (f q)) →
    Sp Tryz.prog 171 [.s 0 0 0 n cap 1, .v (.int .i64 a), .v (.int .i64 m), .v (.int .i64 b), .f (.func g) fs cs] (rOwn 3 n cap f :: H) (fun r H' => ∃ f', r = .t [] ∧ H' = rOwn 3 n cap f' :: H ∧ InI K f a b f') := by
  intro d
  induction d using Nat.strongRecOn with
  | _ d ih =>
  intro f a m b hd ham hmb hbn hV hu1 hu2 hO
  refine sp_wk ?_
  refine sp_of_ex true [(11, .one 0 (.one 1 (.one 2 (.one 3 (.one 4 (.one 5 (.one 6 (.one 7 (.one 8 (.one 10 (.one 11 (.one 12 (.alt [(9, .one 13 (.one 14 (.one 15 (.one 16 (.one 17 .fin))))), (13, .one 9 (.one 14 (.one 15 (.one 16 (.one 17 .fin)))))]))))))))))))), (23, .one 0 (.one 1 (.one 2 (.one 3 (.one 4 (.one 5 (.one 6 (.one 7 (.one 8 (.one 10 (.one 11 (.one 12 (.alt [(9, .one 13 (.one 14 (.one 15 (.one 16 (.one 17 .fin))))), (13, .one 9 (.one 14 (.one 15 (.one 16 (.one 17 .fin)))))])))))))))))))] mixed Tryz.call171 Tryz.func171 rfl Tryz.ntmps171 Tryz.results171 (by decide +kernel) rfl ?_
  refine sxo ?_
  try with_reducible exact trivial
  repeat (with_reducible refine And.intro (by omega) ?_)
  refine ⟨fun h => ?_, fun h => ?_⟩
  · refine tr_loop mixed (by kernel_rfl) (fun (x : Nat × Nat) => [(10, .v (.int .i64 x.1)), (11, .v (.int .i64 x.2)), (0, .s 0 0 0 n cap 1), (1, .v (.int .i64 a)), (2, .v (.int .i64 m)), (3, .v (.int .i64 b)), (4, .f (.func g) fs cs)])
      (fun x => rOwn 3 n cap f :: H) (fun x => m ≤ x.1 ∧ x.1 ≤ x.2 ∧ x.2 ≤ b ∧ (∀ k, m ≤ k → k < x.1 → K (f k) < K (f a)) ∧ ∀ k, x.2 ≤ k → k < b → K (f a) ≤ K (f k)) (fun x => x.2 - x.1) (m, b)
      ⟨Nat.le_refl _, by simp only; omega, Nat.le_refl _, fun k _ _ => by simp only at *; omega, fun k _ _ => by simp only at *; omega⟩ (swk_head ?_ fun _ _ _ _ => rfl) ?_
    · refine sxo ?_
      try with_reducible exact trivial
    rintro ⟨i, j⟩ ⟨k1, k2, k3, k4, k5⟩
    simp only at k1 k2 k3 k4 k5
    refine sxo ?_
    try with_reducible exact trivial
    refine ⟨fun h3 => ?_, fun h3 => ?_⟩
    · obtain ⟨e, he⟩ : ∃ e, e = (i + j) / 2 := ⟨_, rfl⟩
      simp only [hv he]
      repeat (with_reducible refine And.intro (by omega) ?_)
      simp only [Int.toNat_natCast]
      repeat (with_reducible refine And.intro (by omega) ?_)
      have v1 := hV e (by omega) (by omega)
      have v2 := hV a (by omega) (by omega)
      have hc := hK.cmp _ _ v1 v2 (hO a e (by omega) (by omega) (by omega) (by omega))
      refine qc_pu (hC f _ _ v1 v2) rfl ?_
      refine sxo ?_
      try with_reducible exact trivial
      refine ⟨fun h4 => ?_, fun h4 => ?_⟩
      · repeat (with_reducible refine And.intro (by omega) ?_)
        have h5 := hc.mp h4
        refine lpK_wk (e + 1, j) ?_ ?_ (swk_head ?_ fun _ _ _ _ => rfl)
        · refine ⟨by simp only; omega, by simp only; omega, k3, fun k q1 q2 => ?_, k5⟩
          simp only at q2
          by_cases e1 : k = e
          · subst e1; exact h5
          · have := hu2 k e q1 (by omega) (by omega)
            omega
        · simp only; omega
        · refine sxo ?_
          try with_reducible exact trivial
      · have h5 : K (f a) ≤ K (f e) := by rw [hc] at h4; omega
        refine lpK_wk (i, e) ?_ ?_ (swk_head ?_ fun _ _ _ _ => rfl)
        · refine ⟨k1, by simp only; omega, by simp only; omega, k4, fun k q1 q2 => ?_⟩
          simp only at q1
          by_cases e1 : k = e
          · subst e1; exact h5
          · have := hu2 e k (by omega) (by omega) q2
            omega
        · simp only; omega
        · refine sxo ?_
          try with_reducible exact trivial
    · obtain rfl : i = j := by omega
      refine tr_loop mixed (by kernel_rfl) (fun (x : Nat × (Nat → Int)) => [(13, .v (.int .i64 x.1)), (10, .v (.int .i64 i)), (0, .s 0 0 0 n cap 1), (1, .v (.int .i64 a)), (2, .v (.int .i64 m)), (3, .v (.int .i64 b)), (4, .f (.func g) fs cs)])
        (fun x => rOwn 3 n cap x.2 :: H) (fun x => a ≤ x.1 ∧ x.1 ≤ i - 1 ∧ GoUp f a b x.1 x.2) (fun x => i - x.1) (a, f) ⟨Nat.le_refl _, by simp only; omega, goUp_0 f a b⟩ (swk_head ?_ fun _ _ _ _ => rfl) ?_
      · refine sxo ?_
        try with_reducible exact trivial
      rintro ⟨k, f1⟩ ⟨l1, l2, l3⟩
      simp only at l1 l2 l3
      refine sxo ?_
      try with_reducible exact trivial
      repeat (with_reducible refine And.intro (by omega) ?_)
      refine ⟨fun h4 => ?_, fun h4 => ?_⟩
      · have l4 := goUp_1 l1 (by omega) l3
        have e1 : ((k : Int) + 1).toNat = k + 1 := by omega
        repeat' (with_reducible apply And.intro)
        all_goals try omega
        all_goals
          simp only [e1]
          refine lpK_wk (k + 1, swF f1 k (k + 1)) ?_ ?_ (swk_head ?_ fun x hx p hp => ?_)
          · exact ⟨by simp only; omega, by simp only; omega, l4⟩
          · simp only; omega
          · refine sxo ?_
            try with_reducible exact trivial
          · exact upd_two (by omega) hx
      · obtain rfl : k = i - 1 := by omega
        refine ⟨_, _, vwk_head (f' := fun x k => [.v (.int .i64 (f1 k))]) fun _ _ _ _ => rfl, f1, rfl, rfl, ?_⟩
        obtain rfl : m = a + 1 := by omega
        exact goUp_up (by omega) k3 l3 hu2 (fun k q1 q2 => by have := k4 k (by omega) q2; omega) k5
  · repeat (with_reducible refine And.intro (by omega) ?_)
    refine ⟨fun h2 => ?_, fun h2 => ?_⟩
    · refine tr_loop mixed (by kernel_rfl) (fun (x : Nat × Nat) => [(14, .v (.int .i64 x.1)), (15, .v (.int .i64 x.2)), (0, .s 0 0 0 n cap 1), (1, .v (.int .i64 a)), (2, .v (.int .i64 m)), (3, .v (.int .i64 b)), (4, .f (.func g) fs cs)])
        (fun x => rOwn 3 n cap f :: H) (fun x => a ≤ x.1 ∧ x.1 ≤ x.2 ∧ x.2 ≤ m ∧ (∀ k, a ≤ k → k < x.1 → K (f k) ≤ K (f m)) ∧ ∀ k, x.2 ≤ k → k < m → K (f m) < K (f k)) (fun x => x.2 - x.1) (a, m)
        ⟨Nat.le_refl _, by simp only; omega, Nat.le_refl _, fun k _ _ => by simp only at *; omega, fun k _ _ => by simp only at *; omega⟩ (swk_head ?_ fun _ _ _ _ => rfl) ?_
      · refine sxo ?_
        try with_reducible exact trivial
      rintro ⟨i, j⟩ ⟨k1, k2, k3, k4, k5⟩
      simp only at k1 k2 k3 k4 k5
      refine sxo ?_
      try with_reducible exact trivial
      refine ⟨fun h3 => ?_, fun h3 => ?_⟩
      · obtain ⟨e, he⟩ : ∃ e, e = (i + j) / 2 := ⟨_, rfl⟩
        simp only [hv he]
        repeat (with_reducible refine And.intro (by omega) ?_)
        simp only [Int.toNat_natCast]
        repeat (with_reducible refine And.intro (by omega) ?_)
        have v1 := hV e (by omega) (by omega)
        have v2 := hV m (by omega) (by omega)
        have hc := hK.cmp _ _ v2 v1 (hO e m (by omega) (by omega) (by omega) (by omega))
        refine qc_pu (hC f _ _ v2 v1) rfl ?_
        refine sxo ?_
        try with_reducible exact trivial
        refine ⟨fun h4 => ?_, fun h4 => ?_⟩
        · have h5 := hc.mp h4
          refine lpK_wk (i, e) ?_ ?_ (swk_head ?_ fun _ _ _ _ => rfl)
          · refine ⟨k1, by simp only; omega, by simp only; omega, k4, fun k q1 q2 => ?_⟩
            simp only at q1
            by_cases e1 : k = e
            · subst e1; exact h5
            · have := hu1 e k (by omega) (by omega) q2
              omega
          · simp only; omega
          · refine sxo ?_
            try with_reducible exact trivial
        · repeat (with_reducible refine And.intro (by omega) ?_)
          have h5 : K (f e) ≤ K (f m) := by rw [hc] at h4; omega
          refine lpK_wk (e + 1, j) ?_ ?_ (swk_head ?_ fun _ _ _ _ => rfl)
          · refine ⟨by simp only; omega, by simp only; omega, k3, fun k q1 q2 => ?_, k5⟩
            simp only at q2
            by_cases e1 : k = e
            · subst e1; exact h5
            · have := hu1 k e q1 (by omega) (by omega)
              omega
          · simp only; omega
          · refine sxo ?_
            try with_reducible exact trivial
      · obtain rfl : i = j := by omega
        refine tr_loop mixed (by kernel_rfl) (fun (x : Nat × (Nat → Int)) => [(17, .v (.int .i64 x.1)), (14, .v (.int .i64 i)), (0, .s 0 0 0 n cap 1), (1, .v (.int .i64 a)), (2, .v (.int .i64 m)), (3, .v (.int .i64 b)), (4, .f (.func g) fs cs)])
          (fun x => rOwn 3 n cap x.2 :: H) (fun x => i ≤ x.1 ∧ x.1 ≤ m ∧ GoDn f a b m x.1 x.2) (fun x => x.1) (m, f) ⟨k3, Nat.le_refl _, goDn_0 f a b m⟩ (swk_head ?_ fun _ _ _ _ => rfl) ?_
        · refine sxo ?_
          try with_reducible exact trivial
        rintro ⟨k, f1⟩ ⟨l1, l2, l3⟩
        simp only at l1 l2 l3
        refine sxo ?_
        try with_reducible exact trivial
        refine ⟨fun h4 => ?_, fun h4 => ?_⟩
        · have l4 := goDn_1 (by omega) l2 hmb l3
          have e1 : ((k : Int) - 1).toNat = k - 1 := by omega
          repeat' (with_reducible apply And.intro)
          all_goals try omega
          all_goals
            simp only [e1]
            refine lpK_wk (k - 1, swF f1 (k - 1) k) ?_ ?_ (swk_head ?_ fun x hx p hp => ?_)
            · exact ⟨by simp only; omega, by simp only; omega, l4⟩
            · simp only; omega
            · refine sxo ?_
              try with_reducible exact trivial
              rw [show ((k - 1 : Nat) : Int) = (k : Int) - 1 by omega]
            · exact upd_sw (by omega) hx
        · obtain rfl : k = i := by omega
          refine ⟨_, _, vwk_head (f' := fun x k => [.v (.int .i64 (f1 k))]) fun _ _ _ _ => rfl, f1, rfl, rfl, ?_⟩
          obtain rfl : b = m + 1 := by omega
          exact goDn_up k1 k3 l3 hu1 k4 fun k q1 q2 => by have := k5 k q1 q2; omega
    · repeat (with_reducible refine And.intro (by omega) ?_)
      obtain ⟨c, hc⟩ : ∃ c, c = (a + b) / 2 := ⟨_, rfl⟩
      simp only [hv hc]
      repeat (with_reducible refine And.intro (by omega) ?_)
      refine ⟨fun h3 => ?a1, fun h3 => ?b1⟩
      case' a1 =>
        obtain ⟨s0, hs0⟩ : ∃ s, s = c + m - b := ⟨_, rfl⟩
        obtain ⟨r0, hr0⟩ : ∃ r, r = c := ⟨_, rfl⟩
        have q1 : a ≤ s0 ∧ s0 ≤ r0 ∧ r0 ≤ m ∧ r0 ≤ c ∧ c + m - s0 ≤ b ∧ (s0 = a ∨ c + m - s0 = b) ∧ (r0 = m ∨ r0 = c) ∧ (c : Int) + m - b = s0 ∧ (c : Int) = r0 := by omega
        have e20 : (c : Int) + m - b = s0 := by omega
        have e21 : (c : Int) = r0 := by omega
      case' b1 =>
        obtain ⟨s0, hs0⟩ : ∃ s, s = a := ⟨_, rfl⟩
        obtain ⟨r0, hr0⟩ : ∃ r, r = m := ⟨_, rfl⟩
        have q1 : a ≤ s0 ∧ s0 ≤ r0 ∧ r0 ≤ m ∧ r0 ≤ c ∧ c + m - s0 ≤ b ∧ (s0 = a ∨ c + m - s0 = b) ∧ (r0 = m ∨ r0 = c) := by omega
        have e20 : (a : Int) = s0 := by omega
        have e21 : (m : Int) = r0 := by omega
      all_goals
        repeat (with_reducible refine And.intro (by omega) ?_)
        refine tr_loop mixed (by kernel_rfl) (fun (x : Nat × Nat) => [(20, .v (.int .i64 x.1)), (21, .v (.int .i64 x.2)), (22, .v (.int .i64 ((c : Int) + m - 1))), (19, .v (.int .i64 ((c : Int) + m))), (18, .v (.int .i64 c)), (0, .s 0 0 0 n cap 1), (1, .v (.int .i64 a)), (2, .v (.int .i64 m)), (3, .v (.int .i64 b)), (4, .f (.func g) fs cs)])
          (fun x => rOwn 3 n cap f :: H) (fun x => s0 ≤ x.1 ∧ x.1 ≤ x.2 ∧ x.2 ≤ r0 ∧ (∀ k, s0 ≤ k → k < x.1 → K (f k) ≤ K (f (c + m - 1 - k))) ∧ ∀ k, x.2 ≤ k → k < r0 → K (f (c + m - 1 - k)) < K (f k)) (fun x => x.2 - x.1) (s0, r0)
          ⟨Nat.le_refl _, by simp only; omega, Nat.le_refl _, fun k _ _ => by simp only at *; omega, fun k _ _ => by simp only at *; omega⟩ (swk_head ?_ fun _ _ _ _ => rfl) ?_
        · refine sxo ?_
          try with_reducible exact trivial
          exact ⟨by rw [e20], by rw [e21]⟩
        rintro ⟨i, j⟩ ⟨k1, k2, k3, k4, k5⟩
        simp only at k1 k2 k3 k4 k5
        refine sxo ?_
        try with_reducible exact trivial
        refine ⟨fun h4 => ?_, fun h4 => ?_⟩
        · obtain ⟨e, he⟩ : ∃ e, e = (i + j) / 2 := ⟨_, rfl⟩
          simp only [hv he]
          repeat (with_reducible refine And.intro (by omega) ?_)
          have e1 : ((c : Int) + m - 1 - e).toNat = c + m - 1 - e := by omega
          simp only [Int.toNat_natCast, e1]
          repeat (with_reducible refine And.intro (by omega) ?_)
          have v1 := hV e (by omega) (by omega)
          have v2 := hV (c + m - 1 - e) (by omega) (by omega)
          have hc := hK.cmp _ _ v2 v1 (hO e (c + m - 1 - e) (by omega) (by omega) (by omega) (by omega))
          refine qc_pu (hC f _ _ v2 v1) rfl ?_
          refine sxo ?_
          try with_reducible exact trivial
          refine ⟨fun h5 => ?_, fun h5 => ?_⟩
          · have h6 := hc.mp h5
            refine lpK_wk (i, e) ?_ ?_ (swk_head ?_ fun _ _ _ _ => rfl)
            · refine ⟨k1, by simp only; omega, by simp only; omega, k4, fun k q1 q2 => ?_⟩
              simp only at q1
              by_cases e1 : k = e
              · subst e1; exact h6
              · have t1 := hu1 e k (by omega) (by omega) (by omega)
                have t2 := hu2 (c + m - 1 - k) (c + m - 1 - e) (by omega) (by omega) (by omega)
                omega
            · simp only; omega
            · refine sxo ?_
              try with_reducible exact trivial
          · repeat (with_reducible refine And.intro (by omega) ?_)
            have h6 : K (f e) ≤ K (f (c + m - 1 - e)) := by rw [hc] at h5; omega
            refine lpK_wk (e + 1, j) ?_ ?_ (swk_head ?_ fun _ _ _ _ => rfl)
            · refine ⟨by simp only; omega, by simp only; omega, k3, fun k q1 q2 => ?_, k5⟩
              simp only at q2
              by_cases e1 : k = e
              · subst e1; exact h6
              · have t1 := hu1 k e (by omega) (by omega) (by omega)
                have t2 := hu2 (c + m - 1 - e) (c + m - 1 - k) (by omega) (by omega) (by omega)
                omega
            · simp only; omega
            · refine sxo ?_
              try with_reducible exact trivial
        · obtain rfl : i = j := by omega
          obtain ⟨en, hen⟩ : ∃ en, en = c + m - i := ⟨_, rfl⟩
          have e2 : (c : Int) + m - i = (en : Int) := by omega
          simp only [e2]
          repeat (with_reducible refine And.intro (by omega) ?_)
          have lo : a < i → en < b → K (f (i - 1)) ≤ K (f en) := fun u1 u2 => by
            have := k4 (i - 1) (by omega) (by omega)
            rw [show c + m - 1 - (i - 1) = en by omega] at this
            exact this
          have hi : i < m → m < en → K (f (en - 1)) < K (f i) := fun u1 u2 => by
            have := k5 i (Nat.le_refl _) (by omega)
            rw [show c + m - 1 - i = en - 1 by omega] at this
            exact this
          have F := mf (c := c) (s := i) (e := en) hV hu1 hu2 hO (by omega) (by omega) (by omega) (by omega) (by omega) hen lo hi
          have hr1 : i = m ∨ en = m → rot f i m en = f := rot_nil (by omega) (by omega)
          obtain ⟨G, hG⟩ : ∃ G, G = rot f i m en := ⟨_, rfl⟩
          rw [← hG] at F hr1
          have I1 := fun (u1 : a < i) (u2 : i < c) => ih (c - a) (by omega) G a i c rfl u1 u2 (by omega) (fun k q1 q2 => F.v k q1 (by omega)) F.u1 F.u2 F.o1
          have N1 : ¬(a < i ∧ i < c) → InI K G a c G := fun u => ⟨fun _ _ => rfl, .refl _, by
            by_cases e : i = a
            · rw [← e]; exact F.u2
            · have e3 : i = c := by omega
              rw [← e3]; exact F.u1⟩
          have I2 : ∀ g1, InI K G a c g1 → c < en → en < b → _ := fun g1 i1 u1 u2 => ih (b - c) (by omega) g1 c en b rfl u1 u2 (by omega) (fun k q1 q2 => by rw [i1.out k (by omega)]; exact F.v k (by omega) q2) (fun p q p1 p2 p3 => by rw [i1.out p (by omega), i1.out q (by omega)]; exact F.u3 p q p1 p2 p3) (fun p q p1 p2 p3 => by rw [i1.out p (by omega), i1.out q (by omega)]; exact F.u4 p q p1 p2 p3) (fun p q p1 p2 p3 p4 => by rw [i1.out p (by omega), i1.out q (by omega)]; exact F.o2 p q p1 p2 p3 p4)
          have N2 : ∀ g1, InI K G a c g1 → ¬(c < en ∧ en < b) → InI K g1 c b g1 := fun g1 i1 u => ⟨fun _ _ => rfl, .refl _, fun p q p1 p2 p3 => by
            rw [i1.out p (by omega), i1.out q (by omega)]
            by_cases e : en = c
            · exact F.u4 p q (by omega) p2 p3
            · exact F.u3 p q p1 p2 (by omega)⟩
          have fin : ∀ g1 g2, InI K G a c g1 → InI K g1 c b g2 → InI K f a b g2 := fun g1 g2 i1 i2 => halves (by omega) (by omega) F.po i1 i2 F.hx
          refine ⟨fun w1 => ⟨fun w2 => ?_, fun w2 => ?_⟩, fun w1 => ?_⟩
          · have hs := rot_sp g fs cs n cap H f i m en (by omega) (by omega) (by omega) hn hcap
            refine sp_mono hs ?_
            rintro r H' ⟨rfl, rfl⟩
            rw [← hG]
            refine sxo ?_
            try with_reducible exact trivial
            refine ⟨fun u1 => ⟨fun u2 => ?_, fun u2 => ?_⟩, fun u1 => ?_⟩
            · refine sp_mono (I1 (by omega) (by omega)) ?_
              rintro r H' ⟨f4, rfl, rfl, i4⟩
              refine sxo ?_
              try with_reducible exact trivial
              refine ⟨fun u3 => ⟨fun u4 => ?_, fun u4 => ?_⟩, fun u3 => ?_⟩
              · refine sp_mono (I2 _ (i4) (by omega) (by omega)) ?_
                rintro r H' ⟨f5, rfl, rfl, i5⟩
                refine sxo ?_
                try with_reducible exact trivial
                exact ⟨_, _, vwk_head (f' := fun x k => [.v (.int .i64 (f5 k))]) (fun _ _ _ _ => rfl), f5, rfl, rfl, fin _ _ (i4) i5⟩
              · exact ⟨_, _, vwk_head (f' := fun x k => [.v (.int .i64 (f4 k))]) (fun _ _ _ _ => rfl), f4, rfl, rfl, fin _ _ (i4) (N2 _ (i4) (by omega))⟩
              · exact ⟨_, _, vwk_head (f' := fun x k => [.v (.int .i64 (f4 k))]) (fun _ _ _ _ => rfl), f4, rfl, rfl, fin _ _ (i4) (N2 _ (i4) (by omega))⟩
            · refine ⟨fun u3 => ⟨fun u4 => ?_, fun u4 => ?_⟩, fun u3 => ?_⟩
              · refine sp_mono (I2 _ (N1 (by omega)) (by omega) (by omega)) ?_
                rintro r H' ⟨f5, rfl, rfl, i5⟩
                refine sxo ?_
                try with_reducible exact trivial
                exact ⟨_, _, vwk_head (f' := fun x k => [.v (.int .i64 (f5 k))]) (fun _ _ _ _ => rfl), f5, rfl, rfl, fin _ _ (N1 (by omega)) i5⟩
              · exact ⟨_, _, vwk_head (f' := fun x k => [.v (.int .i64 (G k))]) (fun _ _ _ _ => rfl), G, rfl, rfl, fin _ _ (N1 (by omega)) (N2 _ (N1 (by omega)) (by omega))⟩
              · exact ⟨_, _, vwk_head (f' := fun x k => [.v (.int .i64 (G k))]) (fun _ _ _ _ => rfl), G, rfl, rfl, fin _ _ (N1 (by omega)) (N2 _ (N1 (by omega)) (by omega))⟩
            · refine ⟨fun u3 => ⟨fun u4 => ?_, fun u4 => ?_⟩, fun u3 => ?_⟩
              · refine sp_mono (I2 _ (N1 (by omega)) (by omega) (by omega)) ?_
                rintro r H' ⟨f5, rfl, rfl, i5⟩
                refine sxo ?_
                try with_reducible exact trivial
                exact ⟨_, _, vwk_head (f' := fun x k => [.v (.int .i64 (f5 k))]) (fun _ _ _ _ => rfl), f5, rfl, rfl, fin _ _ (N1 (by omega)) i5⟩
              · exact ⟨_, _, vwk_head (f' := fun x k => [.v (.int .i64 (G k))]) (fun _ _ _ _ => rfl), G, rfl, rfl, fin _ _ (N1 (by omega)) (N2 _ (N1 (by omega)) (by omega))⟩
              · exact ⟨_, _, vwk_head (f' := fun x k => [.v (.int .i64 (G k))]) (fun _ _ _ _ => rfl), G, rfl, rfl, fin _ _ (N1 (by omega)) (N2 _ (N1 (by omega)) (by omega))⟩
          · obtain rfl : G = f := hr1 (by omega)
            refine ⟨fun u1 => ⟨fun u2 => ?_, fun u2 => ?_⟩, fun u1 => ?_⟩
            · refine sp_mono (I1 (by omega) (by omega)) ?_
              rintro r H' ⟨f4, rfl, rfl, i4⟩
              refine sxo ?_
              try with_reducible exact trivial
              refine ⟨fun u3 => ⟨fun u4 => ?_, fun u4 => ?_⟩, fun u3 => ?_⟩
              · refine sp_mono (I2 _ (i4) (by omega) (by omega)) ?_
                rintro r H' ⟨f5, rfl, rfl, i5⟩
                refine sxo ?_
                try with_reducible exact trivial
                exact ⟨_, _, vwk_head (f' := fun x k => [.v (.int .i64 (f5 k))]) (fun _ _ _ _ => rfl), f5, rfl, rfl, fin _ _ (i4) i5⟩
              · exact ⟨_, _, vwk_head (f' := fun x k => [.v (.int .i64 (f4 k))]) (fun _ _ _ _ => rfl), f4, rfl, rfl, fin _ _ (i4) (N2 _ (i4) (by omega))⟩
              · exact ⟨_, _, vwk_head (f' := fun x k => [.v (.int .i64 (f4 k))]) (fun _ _ _ _ => rfl), f4, rfl, rfl, fin _ _ (i4) (N2 _ (i4) (by omega))⟩
            · refine ⟨fun u3 => ⟨fun u4 => ?_, fun u4 => ?_⟩, fun u3 => ?_⟩
              · refine sp_mono (I2 _ (N1 (by omega)) (by omega) (by omega)) ?_
                rintro r H' ⟨f5, rfl, rfl, i5⟩
                refine sxo ?_
                try with_reducible exact trivial
                exact ⟨_, _, vwk_head (f' := fun x k => [.v (.int .i64 (f5 k))]) (fun _ _ _ _ => rfl), f5, rfl, rfl, fin _ _ (N1 (by omega)) i5⟩
              · exact ⟨_, _, vwk_head (f' := fun x k => [.v (.int .i64 (G k))]) (fun _ _ _ _ => rfl), G, rfl, rfl, fin _ _ (N1 (by omega)) (N2 _ (N1 (by omega)) (by omega))⟩
              · exact ⟨_, _, vwk_head (f' := fun x k => [.v (.int .i64 (G k))]) (fun _ _ _ _ => rfl), G, rfl, rfl, fin _ _ (N1 (by omega)) (N2 _ (N1 (by omega)) (by omega))⟩
            · refine ⟨fun u3 => ⟨fun u4 => ?_, fun u4 => ?_⟩, fun u3 => ?_⟩
              · refine sp_mono (I2 _ (N1 (by omega)) (by omega) (by omega)) ?_
                rintro r H' ⟨f5, rfl, rfl, i5⟩
                refine sxo ?_
                try with_reducible exact trivial
                exact ⟨_, _, vwk_head (f' := fun x k => [.v (.int .i64 (f5 k))]) (fun _ _ _ _ => rfl), f5, rfl, rfl, fin _ _ (N1 (by omega)) i5⟩
              · exact ⟨_, _, vwk_head (f' := fun x k => [.v (.int .i64 (G k))]) (fun _ _ _ _ => rfl), G, rfl, rfl, fin _ _ (N1 (by omega)) (N2 _ (N1 (by omega)) (by omega))⟩
              · exact ⟨_, _, vwk_head (f' := fun x k => [.v (.int .i64 (G k))]) (fun _ _ _ _ => rfl), G, rfl, rfl, fin _ _ (N1 (by omega)) (N2 _ (N1 (by omega)) (by omega))⟩
          · obtain rfl : G = f := hr1 (by omega)
            refine ⟨fun u1 => ⟨fun u2 => ?_, fun u2 => ?_⟩, fun u1 => ?_⟩
            · refine sp_mono (I1 (by omega) (by omega)) ?_
              rintro r H' ⟨f4, rfl, rfl, i4⟩
              refine sxo ?_
              try with_reducible exact trivial
              refine ⟨fun u3 => ⟨fun u4 => ?_, fun u4 => ?_⟩, fun u3 => ?_⟩
              · refine sp_mono (I2 _ (i4) (by omega) (by omega)) ?_
                rintro r H' ⟨f5, rfl, rfl, i5⟩
                refine sxo ?_
                try with_reducible exact trivial
                exact ⟨_, _, vwk_head (f' := fun x k => [.v (.int .i64 (f5 k))]) (fun _ _ _ _ => rfl), f5, rfl, rfl, fin _ _ (i4) i5⟩
              · exact ⟨_, _, vwk_head (f' := fun x k => [.v (.int .i64 (f4 k))]) (fun _ _ _ _ => rfl), f4, rfl, rfl, fin _ _ (i4) (N2 _ (i4) (by omega))⟩
              · exact ⟨_, _, vwk_head (f' := fun x k => [.v (.int .i64 (f4 k))]) (fun _ _ _ _ => rfl), f4, rfl, rfl, fin _ _ (i4) (N2 _ (i4) (by omega))⟩
            · refine ⟨fun u3 => ⟨fun u4 => ?_, fun u4 => ?_⟩, fun u3 => ?_⟩
              · refine sp_mono (I2 _ (N1 (by omega)) (by omega) (by omega)) ?_
                rintro r H' ⟨f5, rfl, rfl, i5⟩
                refine sxo ?_
                try with_reducible exact trivial
                exact ⟨_, _, vwk_head (f' := fun x k => [.v (.int .i64 (f5 k))]) (fun _ _ _ _ => rfl), f5, rfl, rfl, fin _ _ (N1 (by omega)) i5⟩
              · exact ⟨_, _, vwk_head (f' := fun x k => [.v (.int .i64 (G k))]) (fun _ _ _ _ => rfl), G, rfl, rfl, fin _ _ (N1 (by omega)) (N2 _ (N1 (by omega)) (by omega))⟩
              · exact ⟨_, _, vwk_head (f' := fun x k => [.v (.int .i64 (G k))]) (fun _ _ _ _ => rfl), G, rfl, rfl, fin _ _ (N1 (by omega)) (N2 _ (N1 (by omega)) (by omega))⟩
            · refine ⟨fun u3 => ⟨fun u4 => ?_, fun u4 => ?_⟩, fun u3 => ?_⟩
              · refine sp_mono (I2 _ (N1 (by omega)) (by omega) (by omega)) ?_
                rintro r H' ⟨f5, rfl, rfl, i5⟩
                refine sxo ?_
                try with_reducible exact trivial
                exact ⟨_, _, vwk_head (f' := fun x k => [.v (.int .i64 (f5 k))]) (fun _ _ _ _ => rfl), f5, rfl, rfl, fin _ _ (N1 (by omega)) i5⟩
              · exact ⟨_, _, vwk_head (f' := fun x k => [.v (.int .i64 (G k))]) (fun _ _ _ _ => rfl), G, rfl, rfl, fin _ _ (N1 (by omega)) (N2 _ (N1 (by omega)) (by omega))⟩
              · exact ⟨_, _, vwk_head (f' := fun x k => [.v (.int .i64 (G k))]) (fun _ _ _ _ => rfl), G, rfl, rfl, fin _ _ (N1 (by omega)) (N2 _ (N1 (by omega)) (by omega))⟩
end Go.Proofs.YtolioflblegneaaGreat
namespace Go.Proofs.YtolioflblegneaaGreat
open Go.RowKit
theorem sort_sp (g : FuncId) (fs cs : List SV) (n cap : Nat) (H : List Ob) (V : Int → Prop) (O : Int → Int → Prop) (cm : Int → Int → Int) (K : Int → Int) (f : Nat → Int)
    (hC : Cmp g fs cs n cap H V cm) (hK : Kn V O cm K) (hV : allV V f 0 n) (hO : ∀ p q, p < q → q < n → O (f p) (f q)) (hro : roB H = true) (hn : n ≤ cap) (hcap : n ≤ 1152921504606846976) :
    Sp Tryz.prog 81 [.s 0 0 0 n cap 1, .f (.func g) fs cs] (rOwn 3 n cap f :: H) (fun r H' => ∃ f', r = .t [] ∧ H' = rOwn 3 n cap f' :: H ∧ InI K f 0 n f') := by
  have hs := stable_sp g fs cs n cap H V O cm K f (fun _ f a m b => merge_ok g fs cs n cap H V O cm K hC hK hro hn hcap _ f a m b rfl) hC hK hV hO hro hn hcap
  refine sp_of_ex true [] mixed Tryz.call81 Tryz.func81 rfl Tryz.ntmps81 Tryz.results81 (by decide +kernel) rfl ?_
  refine sxo ?_
  try with_reducible exact trivial
  refine sp_mono hs ?_
  rintro r H' ⟨f5, rfl, rfl, i5⟩
  refine sxo ?_
  try with_reducible exact trivial
  exact ⟨f5, rfl, i5⟩
end Go.Proofs.YtolioflblegneaaGreat
namespace Go.Proofs.YtolioflblegneaaGreat
open Go.RowKit
theorem app_int {p q : List Int} {v : Int} (e : q = p ++ [v]) (rl : List Nat) : q.length ≤ p.length + 1 ∧ ∀ k, k < q.length → Value.int IntKind.i64 (ix q k) = Value.int IntKind.i64 (bif decide (k < p.length) then ix p k else v) ∧ mtL rl [] (bif decide (k < p.length) then [] else []) := by
  subst e
  refine ⟨by simp, fun k hk => ?_⟩
  have h2 : mtL rl [] (bif decide (k < p.length) then ([] : List SV) else []) := by cases decide (k < p.length) <;> simp [mtL]
  refine ⟨?_, h2⟩
  rw [ix_eq hk]
  by_cases h : k < p.length
  · simp [h, ix_eq h, List.getElem_append_left h]
  · have : k = p.length := by simp at hk; omega
    subst this
    simp
def rIO (l : List Int) (cap : Nat) : Ob := rOwn 3 l.length cap (fun k => ix l k)
attribute [push_cast] rIO
theorem sorted_of {K : Int → Int} {p : List Int} {f' : Nat → Int} (h : InI K (fun k => ix p k) 0 p.length f') (hi : ∀ x ∈ p, ∀ y ∈ p, K x = K y → x = y) : ∀ k, k < p.length → f' k = ix (sortK K p) k := by
  have e : seg (fun k => ix p k) 0 p.length = p := by
    apply List.ext_getElem (by rw [seg_len])
    intro i h1 h2
    simp only [seg, List.getElem_map, List.getElem_range, Nat.zero_add]
    exact ix_eq h2
  have h2 := h.perm
  rw [Nat.sub_zero, e] at h2
  have h3 := seg_sorted h2 hi h.up
  exact fun k hk => seg_ix h3 hk
/-- A variable that holds bundles. -/
def rBoxB (j : Nat) (n c : Nat) : Ob := ⟨22, true, .st [.s j 0 0 n c 2]⟩
attribute [push_cast] rBoxB
theorem hcmp_pu (l : List Pc) (c : Nat) (x y : Int) (hv : orderB l = true) (hx : 0 ≤ x ∧ x < l.length) (hy : 0 ≤ y ∧ y < l.length) : Pu Tryz.prog 82 [.v (.int .i64 x), .v (.int .i64 y), .p 0 0 0] [rBoxB 1 l.length c, rPc l] (.v (.int .i64 ((ix l y.toNat).len - (ix l x.toNat).len))) := by
  have m1 := order_at hv (k := x.toNat) (by omega)
  have m2 := order_at hv (k := y.toNat) (by omega)
  refine pu_of_ex true [] mixed Tryz.call82 Tryz.func82 rfl Tryz.ntmps82 Tryz.results82 (by decide +kernel) rfl rfl rfl ?_
  refine sxo ?_
  try with_reducible exact trivial
  repeat (first | (with_reducible refine And.intro (by omega) ?_) | omega)
def VB (l : List Pc) (x : Int) : Prop := 0 ≤ x ∧ x < l.length
theorem h_cmp (l : List Pc) (hv : orderB l = true) (c n cap : Nat) : Cmp 82 [] [.p 1 0 0] n cap [rBoxB 2 l.length c, rPc l] (VB l) (fun x y => (ix l y.toNat).len - (ix l x.toNat).len) := fun f x y hx hy =>
  pu_at (hcmp_pu l c x y hv hx hy) rfl [1, 2] rfl (by (simp only [push_cast, ↓branch_true, ↓branch_false, Nat.reduceBEq, Nat.reduceAdd, Nat.reduceMul, Nat.reduceSub, Int.reduceToNat, reduceCtorEq, branch_decide, branch_not, branch_beq, branch_bne])) (by (simp only [push_cast, ↓branch_true, ↓branch_false, Nat.reduceBEq, Nat.reduceAdd, Nat.reduceMul, Nat.reduceSub, Int.reduceToNat, reduceCtorEq, branch_decide, branch_not, branch_beq, branch_bne]))
def KH (l : List Pc) (x : Int) : Int := -(ix l x.toNat).len * 2000 + x
theorem knH {l : List Pc} (h : l.length ≤ 1000) : Kn (VB l) (fun y x => y < x) (fun x y => (ix l y.toNat).len - (ix l x.toNat).len) (KH l) := ⟨fun x y hx hy hO => by
  obtain ⟨x1, x2⟩ := hx
  obtain ⟨y1, y2⟩ := hy
  simp only [KH]
  omega⟩
theorem kH_inj {l : List Pc} (h : l.length ≤ 1000) {x y : Int} (hx : VB l x) (hy : VB l y) (e : KH l x = KH l y) : x = y := by
  obtain ⟨x1, x2⟩ := hx
  obtain ⟨y1, y2⟩ := hy
  simp only [KH] at e
  omega
/-- The numbers from 0 on. -/
def rng (n : Nat) : List Int := (List.range n).map fun (k : Nat) => (k : Int)
theorem rng_len (n : Nat) : (rng n).length = n := by simp [rng]
theorem rng_succ (n : Nat) : rng (n + 1) = rng n ++ [(n : Int)] := by simp [rng, List.range_succ]
theorem rng_ix {n k : Nat} (h : k < n) : ix (rng n) k = k := by rw [ix_eq (by rw [rng_len]; exact h)]; simp [rng]
theorem rng_mem {n : Nat} {x : Int} (h : x ∈ rng n) : 0 ≤ x ∧ x < n := by
  simp only [rng, List.mem_map, List.mem_range] at h
  obtain ⟨k, h1, rfl⟩ := h
  omega
/-- The heaviest bundles first. -/
def lnO (l : List Pc) : List Int := sortK (KH l) (rng l.length)
theorem lnO_len (l : List Pc) : (lnO l).length = l.length := by rw [lnO, (sortK_perm _ _).length_eq, rng_len]
theorem lnO_mem {l : List Pc} {x : Int} (h : x ∈ lnO l) : 0 ≤ x ∧ x < l.length := rng_mem ((sortK_perm _ _).mem_iff.1 h)
/-- The lines of all pieces, the longest pieces first. -/
def repF (l : List Pc) (x : List Int) : List Int := x.flatMap fun i => List.replicate (ix l i.toNat).cnt.toNat i
def longL (l : List Pc) : List Int := repF l (lnO l)
theorem repF_snoc (l : List Pc) (x : List Int) (i : Int) : repF l (x ++ [i]) = repF l x ++ List.replicate (ix l i.toNat).cnt.toNat i := by
  unfold repF
  rw [List.flatMap_append]; simp
theorem rep_sum {l : List Pc} (ho : orderB l = true) : ∀ {x : List Int}, (∀ i ∈ x, 0 ≤ i ∧ i < l.length) → ((repF l x).length : Int) = (x.map fun i => (ix l i.toNat).cnt).sum
  | [], _ => rfl
  | i :: x, h => by
    have h1 := h i List.mem_cons_self
    have h2 := order_at ho (k := i.toNat) (by omega)
    have ih := rep_sum ho (x := x) fun j hj => h j (List.mem_cons_of_mem _ hj)
    have e : repF l (i :: x) = List.replicate (ix l i.toNat).cnt.toNat i ++ repF l x := rfl
    rw [e, List.length_append, List.length_replicate, List.map_cons, List.sum_cons]
    omega
theorem sum_permI {x y : List Int} (h : x.Perm y) : x.sum = y.sum := by
  induction h with
  | nil => rfl
  | cons _ _ ih => simp [ih]
  | swap => simp; omega
  | trans _ _ h1 h2 => rw [h1, h2]
theorem long_len {l : List Pc} (ho : orderB l = true) : ((longL l).length : Int) = cntL l := by
  unfold longL
  have hp : (lnO l).Perm (rng l.length) := sortK_perm _ _
  rw [rep_sum ho fun i hi => lnO_mem hi, sum_permI (hp.map fun i => (ix l i.toNat).cnt)]
  unfold cntL cntT
  rw [List.take_length]
  congr 1
  unfold rng
  rw [List.map_map]
  refine List.ext_getElem (by simp) fun k h1 h2 => ?_
  have hk : k < l.length := by simpa using h2
  simp [ix_eq hk]
theorem rep_mono (l : List Pc) (x : List Int) (k : Nat) : (repF l (x.take k)).length ≤ (repF l x).length := by
  have e : repF l x = repF l (x.take k) ++ repF l (x.drop k) := by
    conv => lhs; rw [← List.take_append_drop k x]
    unfold repF
    rw [List.flatMap_append]
  rw [e, List.length_append]; omega
set_option maxHeartbeats 1000000 in
theorem longest_sp (l : List Pc) (c : Nat) (hv : orderB l = true) (hc : cntL l ≤ 1000) : Sp Tryz.prog 39 [.s 0 0 0 l.length c 2] [rPc l] (fun r H => ∃ cap, (longL l).length ≤ cap ∧ r = .s 1 0 0 (longL l).length cap 1 ∧ H = [rPc l, rIO (longL l) cap]) := by
  have hlen := order_len hv
  have hll := long_len hv
  refine sp_weak ?_
  refine sp_of_ex true [] mixed Tryz.call39 Tryz.func39 rfl Tryz.ntmps39 Tryz.results39 (by decide +kernel) rfl ?_
  refine sxo ?_
  try with_reducible exact trivial
  refine tr_loop mixed (by kernel_rfl) (fun (x : Nat × Nat) => [(10, .v (.int .i64 x.1)), (9, .v (.int .i64 l.length)), (3, .s 2 0 0 (rng x.1).length x.2 1), (1, .p 1 0 0), (0, .s 0 0 0 l.length c 2)])
    (fun x => [rPc l, rBoxB 0 l.length c, rIO (rng x.1) x.2]) (fun x => x.1 ≤ l.length ∧ x.1 ≤ x.2) (fun x => l.length - x.1) (0, 0) ⟨Nat.zero_le _, Nat.le_refl _⟩ (Mt.wk (rl := [0, 1, 2]) ⟨by kernel_rfl, ?_, ?_⟩) ?_
  · refine sxo ?_
    try with_reducible exact trivial
    simp [rng]
  · refine sxo ?_
    try with_reducible exact trivial
    simp [rng]
  rintro ⟨k, cap⟩ ⟨h1, h2⟩
  simp only at h1 h2
  have hrl := rng_len k
  refine sxo ?_
  try with_reducible exact trivial
  refine ⟨fun h => ?_, fun h => ?_⟩
  · repeat (with_reducible refine And.intro (by omega) ?_)
    refine Or.inr ?_
    repeat (with_reducible refine And.intro (by omega) ?_)
    intro cap2 hcap2
    repeat (with_reducible refine And.intro (by omega) ?_)
    refine lpK_normal (k + 1, cap2) [0, 1, 4] ⟨by simp only; omega, by simp only; omega⟩ (by simp only; omega) (by kernel_rfl) ?_ ?_
    · simp only [push_cast, ↓branch_true, ↓branch_false, Nat.reduceBEq, Nat.reduceAdd, Nat.reduceMul, Nat.reduceSub, Int.reduceToNat, reduceCtorEq, branch_decide, branch_not, branch_beq, branch_bne, rng_len]
    · refine sxo ?_
      try with_reducible exact trivial
      exact fun i hi => app_int (rng_succ k) _
  · obtain rfl : k = l.length := by omega
    refine sp_at (sort_sp 82 [] [.p 1 0 0] (rng l.length).length cap [rBoxB 2 l.length c, rPc l] (VB l) (fun y x => y < x) _ (KH l) (fun k => ix (rng l.length) k) (h_cmp l hv c _ cap) (knH (by omega)) (fun k _ h => by have e := rng_ix (n := l.length) (k := k) (by omega); show VB l (ix (rng l.length) k); rw [e]; exact ⟨by omega, by omega⟩) (fun p q h1 h2 => by have e1 := rng_ix (n := l.length) (k := p) (by omega); have e2 := rng_ix (n := l.length) (k := q) (by omega); show ix (rng l.length) p < ix (rng l.length) q; rw [e1, e2]; omega) rfl (by omega) (by omega)) [2, 1, 0] rfl ?_ ?_ ?_
    · refine sxo ?_
      try with_reducible exact trivial
    · refine sxo ?_
      try with_reducible exact trivial
    rintro _ _ ⟨f', rfl, rfl, hi⟩
    refine sxo ?_
    try with_reducible exact trivial
    have hs := sorted_of hi fun x hx y hy => kH_inj (by omega) (rng_mem hx) (rng_mem hy)
    rw [hrl] at hs
    refine tr_loop mixed (by kernel_rfl) (fun (x : Nat × Nat) => [(23, .v (.int .i64 x.1)), (22, .v (.int .i64 l.length)), (21, .s 2 0 0 l.length cap 1), (5, .s 3 0 0 (repF l ((lnO l).take x.1)).length x.2 1), (1, .p 1 0 0)])
      (fun x => [rPc l, rBoxB 0 l.length c, rOwn 3 l.length cap (fun k => ix (lnO l) k), rIO (repF l ((lnO l).take x.1)) x.2]) (fun x => x.1 ≤ l.length ∧ (repF l ((lnO l).take x.1)).length ≤ x.2) (fun x => l.length - x.1) (0, 0) ⟨Nat.zero_le _, Nat.le_refl _⟩ (Mt.wk (rl := [0, 1, 2, 3]) ⟨by kernel_rfl, ?_, ?_⟩) ?_
    · simp only [push_cast, ↓branch_true, ↓branch_false, Nat.reduceBEq, Nat.reduceAdd, Nat.reduceMul, Nat.reduceSub, Int.reduceToNat, reduceCtorEq, branch_decide, branch_not, branch_beq, branch_bne, hrl]
      exact rfl
    · simp only [push_cast, ↓branch_true, ↓branch_false, Nat.reduceBEq, Nat.reduceAdd, Nat.reduceMul, Nat.reduceSub, Int.reduceToNat, reduceCtorEq, branch_decide, branch_not, branch_beq, branch_bne, hrl]
      refine ⟨fun i _ q hq => ?_, ?_⟩
      · rw [hs q hq]; rfl
      · exact .inl rfl
    rintro ⟨k, co⟩ ⟨g1, g2⟩
    simp only at g1 g2
    have hol := lnO_len l
    refine sxo ?_
    try with_reducible exact trivial
    refine ⟨fun h3 => ?_, fun h3 => ?_⟩
    rotate_left
    · obtain rfl : k = l.length := by omega
      have e : repF l ((lnO l).take l.length) = longL l := by rw [show (lnO l).take l.length = lnO l by rw [← hol, List.take_length]]; rfl
      rw [e] at g2 ⊢
      refine ⟨_, _, [0, 3], ?_, by kernel_rfl, ?_, co, g2, rfl, rfl⟩
      · refine sxo ?_
        try with_reducible exact trivial
      · refine sxo ?_
        try with_reducible exact trivial
    have hk : k < l.length := by omega
    have hi := lnO_mem (ix_mem (l := lnO l) (k := k) (by omega))
    have hp := order_at hv (k := (ix (lnO l) k).toNat) (by omega)
    have hmo := rep_mono l (lnO l) (k + 1)
    have hsn : repF l ((lnO l).take (k + 1)) = repF l ((lnO l).take k) ++ List.replicate (ix l (ix (lnO l) k).toNat).cnt.toNat (ix (lnO l) k) := by rw [take_snoc (by omega), repF_snoc]
    change _ ≤ (longL l).length at hmo
    rw [hsn, List.length_append, List.length_replicate] at hmo
    generalize hP : repF l ((lnO l).take k) = P at *
    obtain ⟨n, hn⟩ : ∃ n : Nat, (ix l (ix (lnO l) k).toNat).cnt = n := ⟨(ix l (ix (lnO l) k).toNat).cnt.toNat, by omega⟩
    generalize hI : ix (lnO l) k = I at *
    rw [hn] at hmo hsn hp
    rw [Int.toNat_natCast] at hmo hsn
    simp only [push_cast, ↓branch_true, ↓branch_false, Nat.reduceBEq, Nat.reduceAdd, Nat.reduceMul, Nat.reduceSub, Int.reduceToNat, reduceCtorEq, branch_decide, branch_not, branch_beq, branch_bne, hI, hn]
    repeat (with_reducible refine And.intro (by omega) ?_)
    refine tr_loop mixed (by kernel_rfl) (fun (x : Nat × Nat) => [(32, .v (.int .i64 x.1)), (31, .v (.int .i64 n)), (7, .v (.int .i64 I)), (5, .s 3 0 0 (P ++ List.replicate x.1 I).length x.2 1), (23, .v (.int .i64 k)), (22, .v (.int .i64 l.length)), (21, .s 2 0 0 l.length cap 1), (1, .p 1 0 0)])
      (fun x => [rPc l, rBoxB 0 l.length c, rOwn 3 l.length cap (fun k => ix (lnO l) k), rIO (P ++ List.replicate x.1 I) x.2]) (fun x => x.1 ≤ n ∧ P.length + x.1 ≤ x.2) (fun x => n - x.1) (0, co) ⟨Nat.zero_le _, g2⟩ (Mt.wk (rl := [0, 1, 2, 3]) ⟨by kernel_rfl, ?_, ?_⟩) ?_
    · simp only [push_cast, ↓branch_true, ↓branch_false, Nat.reduceBEq, Nat.reduceAdd, Nat.reduceMul, Nat.reduceSub, Int.reduceToNat, reduceCtorEq, branch_decide, branch_not, branch_beq, branch_bne, List.replicate_zero, List.append_nil]
    · simp only [push_cast, ↓branch_true, ↓branch_false, Nat.reduceBEq, Nat.reduceAdd, Nat.reduceMul, Nat.reduceSub, Int.reduceToNat, reduceCtorEq, branch_decide, branch_not, branch_beq, branch_bne, List.replicate_zero, List.append_nil]
    rintro ⟨j, cj⟩ ⟨f1, f2⟩
    simp only at f1 f2
    have hjl : (P ++ List.replicate j I).length = P.length + j := by simp
    have hre : P ++ List.replicate (j + 1) I = (P ++ List.replicate j I) ++ [I] := by rw [List.append_assoc, List.replicate_succ']
    refine sxo ?_
    try with_reducible exact trivial
    refine ⟨fun h4 => ?_, fun h4 => ?_⟩
    · repeat (with_reducible refine And.intro (by omega) ?_)
      refine Or.inr ?_
      repeat (with_reducible refine And.intro (by omega) ?_)
      intro c3 hc3
      repeat (with_reducible refine And.intro (by omega) ?_)
      refine lpK_normal (j + 1, c3) [0, 1, 2, 5] ⟨by simp only; omega, by simp only; omega⟩ (by simp only; omega) (by kernel_rfl) ?_ ?_
      · simp only [push_cast, ↓branch_true, ↓branch_false, Nat.reduceBEq, Nat.reduceAdd, Nat.reduceMul, Nat.reduceSub, Int.reduceToNat, reduceCtorEq, branch_decide, branch_not, branch_beq, branch_bne, hre, List.length_append]
      · refine sxo ?_
        try with_reducible exact trivial
        exact fun i hi => app_int hre _
    · obtain rfl : j = n := by omega
      repeat (with_reducible refine And.intro (by omega) ?_)
      refine lpK_normal (k + 1, cj) [0, 1, 2, 3] ⟨by simp only; omega, by simp only; rw [hsn, hjl]; exact f2⟩ (by simp only; omega) (by kernel_rfl) ?_ ?_
      · simp only [push_cast, ↓branch_true, ↓branch_false, Nat.reduceBEq, Nat.reduceAdd, Nat.reduceMul, Nat.reduceSub, Int.reduceToNat, reduceCtorEq, branch_decide, branch_not, branch_beq, branch_bne, hsn]
      · simp only [push_cast, ↓branch_true, ↓branch_false, Nat.reduceBEq, Nat.reduceAdd, Nat.reduceMul, Nat.reduceSub, Int.reduceToNat, reduceCtorEq, branch_decide, branch_not, branch_beq, branch_bne, hsn]
end Go.Proofs.YtolioflblegneaaGreat
