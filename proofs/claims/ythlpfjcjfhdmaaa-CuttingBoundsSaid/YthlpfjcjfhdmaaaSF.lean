/- Contracts: the sort by insertion. -/
import Derived.Test.YthlpfjcjfhdmaaaSE
set_option maxRecDepth 100000
set_option linter.unusedSimpArgs false
set_option linter.unusedVariables false
namespace Go.Proofs.Ythlpfjcjfhdmaaa
open Go.RowKit
/- A row at the head of the list of objects, in other words; the tail stays abstract. -/
theorem inv_head {β : Bs} {w : World} {T : List Ob} {ty : TypeId} {sz N : Nat} {len cap : Nat → Nat} {f f' : Nat → Nat → List SV} (h : ∀ i, i < N → ∀ k, k < len i → f' i k = f i k)
    (hI : Inv β (⟨ty, false, .row sz N len cap f⟩ :: T) w) : Inv β (⟨ty, false, .row sz N len cap f'⟩ :: T) w := by
  have hg : ∀ {j : Nat} {o : Ob}, ((⟨ty, false, .row sz N len cap f'⟩ : Ob) :: T)[j]? = some o → ∃ o1, ((⟨ty, false, .row sz N len cap f⟩ : Ob) :: T)[j]? = some o1 ∧ (∀ i, o.own i → o1.own i) ∧ (∀ i, o.mem i → o1.mem i) ∧ (∀ i, o.over i → o1.over i) ∧ (ObOk β w j o1 → ObOk β w j o) := by
    intro j o ho
    cases j with
    | zero =>
      simp at ho
      subst ho
      refine ⟨_, rfl, fun i hi => hi, fun i hi => hi, fun i hi => hi, fun hok => ?_⟩
      simp only [ObOk, Bool.false_eq_true, if_false] at hok ⊢
      intro i hi
      rcases hok i hi with h1 | ⟨g, cur, h1, h2, h3, h4, h5, h6⟩
      · exact .inl h1
      · refine .inr ⟨g, cur, h1, h2, h3, h4, h5, fun k hk => ?_⟩
        rw [h i hi k hk]
        exact h6 k hk
    | succ j => exact ⟨o, by simpa using ho, fun i hi => hi, fun i hi => hi, fun i hi => hi, fun h => h⟩
  refine ⟨fun j o ho => ?_, fun j i hj => hI.out j i (by simpa using hj), fun j i j' i' o o' g b b' h1 h2 h3 h4 h5 h6 => ?_, fun j o i h1 h2 => ?_⟩
  · obtain ⟨o1, k1, _, _, _, k5⟩ := hg ho
    exact k5 (hI.ob j o1 k1)
  · obtain ⟨o1, k1, k2, _, _, _⟩ := hg h1
    obtain ⟨o2, l1, _, l3, _, _⟩ := hg h2
    exact hI.sep j i j' i' o1 o2 g b b' k1 l1 (k2 i h3) (l3 i' h4) h5 h6
  · obtain ⟨o1, k1, _, _, k4, _⟩ := hg h1
    exact hI.bey j o1 i k1 (k4 i h2)
theorem wk_head {α : Type} {n0 : Nat} {A A' : Bs → α → Prop} {T : List Ob} {ty : TypeId} {sz N : Nat} {len cap : Nat → Nat} {f f' : Nat → Nat → List SV} (h : ∀ i, i < N → ∀ k, k < len i → f' i k = f i k) (hA : ∀ β u, A β u → A' β u) :
    Wk n0 A A' (⟨ty, false, .row sz N len cap f⟩ :: T) (⟨ty, false, .row sz N len cap f'⟩ :: T) := fun β w hI hn => by
  have hm : ∀ {j : Nat} {o : Ob}, ((⟨ty, false, .row sz N len cap f'⟩ : Ob) :: T)[j]? = some o → ∃ o1, ((⟨ty, false, .row sz N len cap f⟩ : Ob) :: T)[j]? = some o1 ∧ (∀ i, o.own i → o1.own i) ∧ (∀ i, o.mem i → o1.mem i) := by
    intro j o ho
    cases j with
    | zero => simp at ho; subst ho; exact ⟨_, rfl, fun i hi => hi, fun i hi => hi⟩
    | succ j => exact ⟨o, by simpa using ho, fun i hi => hi, fun i hi => hi⟩
  refine ⟨β, inv_head h hI, hA β, fun j i x hj hx => hx, fun g ⟨j, i, o, b, h1, h2, h3⟩ => ?_, fun g ⟨j, i, o, b, h1, h2, h3⟩ => ?_, by simpa using hn⟩
  · obtain ⟨o1, k1, k2, _⟩ := hm h1
    exact ⟨j, i, o1, b, k1, k2 i h2, h3⟩
  · obtain ⟨o1, k1, _, k3⟩ := hm h1
    exact ⟨j, i, o1, b, k1, k3 i h2, h3⟩
theorem swk_head {n0 : Nat} {σ σ' : Sl} {T : List Ob} {ty : TypeId} {sz N : Nat} {len cap : Nat → Nat} {f f' : Nat → Nat → List SV} (hs : slE σ σ') (h : ∀ i, i < N → ∀ k, k < len i → f' i k = f i k) :
    SWk n0 σ (⟨ty, false, .row sz N len cap f⟩ :: T) σ' (⟨ty, false, .row sz N len cap f'⟩ :: T) := wk_head h fun _ _ ha => slE_ok ha hs
theorem vwk_head {n0 : Nat} {r : SV} {T : List Ob} {ty : TypeId} {sz N : Nat} {len cap : Nat → Nat} {f f' : Nat → Nat → List SV} (h : ∀ i, i < N → ∀ k, k < len i → f' i k = f i k) :
    VWk n0 r (⟨ty, false, .row sz N len cap f⟩ :: T) r (⟨ty, false, .row sz N len cap f'⟩ :: T) := wk_head h fun _ _ ha => ha
/-- What a comparison may rely on: whatever the row holds, it answers by the elements alone. -/
def Cmp (g : FuncId) (fs cs : List SV) (n cap : Nat) (H : List Ob) (V : Int → Prop) (cm : Int → Int → Int) : Prop :=
  ∀ (f : Nat → Int) x y, V x → V y → Pu Try.prog g (fs ++ [.v (.int .i64 x), .v (.int .i64 y)] ++ cs) (rOwn 3 n cap f :: H) (.v (.int .i64 (cm x y)))
/-- Elements of a stretch. -/
def allV (V : Int → Prop) (f : Nat → Int) (a b : Nat) : Prop := ∀ k, a ≤ k → k < b → V (f k)
/-- What is known of a stretch that is being sorted: `O y x` = y stood before x at first. -/
structure Kn (V : Int → Prop) (O : Int → Int → Prop) (cm : Int → Int → Int) (K : Int → Int) : Prop where
  cmp : ∀ x y, V x → V y → O y x → (cm x y < 0 ↔ K x < K y)
structure InI (K : Int → Int) (f : Nat → Int) (a i : Nat) (g : Nat → Int) : Prop where
  out : ∀ k, k < a ∨ i ≤ k → g k = f k
  perm : (seg g a (i - a)).Perm (seg f a (i - a))
  up : upK K g a i
structure InJ (K : Int → Int) (f : Nat → Int) (a i : Nat) (j : Nat) (g : Nat → Int) : Prop where
  out : ∀ k, k < a ∨ i + 1 ≤ k → g k = f k
  perm : (seg g a (i + 1 - a)).Perm (seg f a (i + 1 - a))
  here : g j = f i
  low : (∀ p, a ≤ p → p < j → ∃ q, a ≤ q ∧ q < i ∧ g p = f q)
  up : ∀ p q, a ≤ p → p < q → q ≤ i → p ≠ j → q ≠ j → K (g p) ≤ K (g q)
  up2 : ∀ q, j < q → q ≤ i → K (f i) < K (g q)
theorem inJ_0 {K : Int → Int} {f g : Nat → Int} {a i : Nat} (ha : a ≤ i) (h : InI K f a i g) : InJ K f a i i g where
  out k hk := h.out k (by omega)
  perm := by
    rw [show i + 1 - a = (i - a) + 1 by omega, seg_succ, seg_succ, show a + (i - a) = i by omega, h.out i (by omega)]
    exact h.perm.append_right _
  here := h.out i (by omega)
  low p h1 h2 := by
    have : g p ∈ seg f a (i - a) := h.perm.mem_iff.mp (mem_seg.mpr ⟨p, h1, by omega, rfl⟩)
    obtain ⟨q, q1, q2, q3⟩ := mem_seg.mp this
    exact ⟨q, q1, by omega, q3.symm⟩
  up p q h1 h2 h3 h4 h5 := h.up p q h1 h2 (by omega)
  up2 q h1 h2 := by omega
theorem inJ_down {K : Int → Int} {f g : Nat → Int} {a i j : Nat} (ha : a < j) (hj : j ≤ i) (h : InJ K f a i j g) (hk : K (f i) < K (g (j - 1))) : InJ K f a i (j - 1) (swF g (j - 1) j) where
  out k hk := by
    rw [← h.out k hk]
    simp [swF, show k ≠ j by omega, show k ≠ j - 1 by omega]
  perm := (swF_perm g (by omega) (by omega) (by omega)).trans h.perm
  here := by simp [swF, show j - 1 ≠ j by omega, h.here]
  low p h1 h2 := by
    obtain ⟨q, e⟩ := h.low p h1 (by omega)
    exact ⟨q, by simpa [swF, show p ≠ j by omega, show p ≠ j - 1 by omega] using e⟩
  up p q h1 h2 h3 h4 h5 := by
    by_cases e1 : p = j
    · subst e1
      have := h.up (p - 1) q (by omega) (by omega) h3 (by omega) (by omega)
      simpa [swF, show q ≠ p by omega, show q ≠ p - 1 by omega] using this
    · by_cases e2 : q = j
      · subst e2
        have := h.up p (q - 1) h1 (by omega) (by omega) e1 (by omega)
        simpa [swF, show p ≠ q by omega, show p ≠ q - 1 by omega] using this
      · have := h.up p q h1 h2 h3 e1 e2
        simpa [swF, e1, e2, h4, h5] using this
  up2 q h1 h2 := by
    by_cases e : q = j
    · subst e; simpa [swF] using hk
    · have := h.up2 q (by omega) h2
      simpa [swF, e, show q ≠ j - 1 by omega] using this
theorem inI_1 {K : Int → Int} {f g : Nat → Int} {a i j : Nat} (ha : a ≤ j) (hj : j ≤ i) (h : InJ K f a i j g) (hk : a < j → K (g (j - 1)) ≤ K (f i)) : InI K f a (i + 1) g where
  out := h.out
  perm := h.perm
  up p q h1 h2 h3 := by
    by_cases e1 : p = j
    · subst e1
      rw [h.here]
      exact Int.le_of_lt (h.up2 q h2 (by omega))
    · by_cases e2 : q = j
      · subst e2
        rw [h.here]
        have h4 := hk (by omega)
        by_cases e3 : p = q - 1
        · subst e3; exact h4
        · exact Int.le_trans (h.up p (q - 1) h1 (by omega) (by omega) e1 (by omega)) h4
      · exact h.up p q h1 h2 (by omega) e1 e2
theorem upd_sw {f : Nat → Int} {j x k : Nat} (hj : 0 < j) (hx : x < 1) : [SV.v (.int .i64 (swF f (j - 1) j k))] = updF (updF (fun _ k => [SV.v (.int .i64 (f k))]) 0 j [.v (.int .i64 (f (j - 1)))]) 0 (j - 1) (.v (.int .i64 (f j)) :: bif j - 1 == j then [] else []) x k := by
  obtain rfl : x = 0 := by omega
  have e : (j - 1 == j) = false := by simp; omega
  simp only [updF, e, swF]
  by_cases e1 : k = j
  · subst e1
    have e3 : (k == k - 1) = false := by simp; omega
    simp [mrgL, mrg1, e3]
  · have e4 : (k == j) = false := by simpa using e1
    by_cases e2 : k = j - 1
    · subst e2
      simp [mrgL, mrg1, e1]
    · have e5 : (k == j - 1) = false := by simpa using e2
      simp [mrgL, mrg1, e1, e2, e4, e5]
theorem inI_0 (K : Int → Int) (f : Nat → Int) (a : Nat) : InI K f a (a + 1) f := ⟨fun _ _ => rfl, .refl _, upK_one K f a⟩
theorem inI_e (K : Int → Int) (f : Nat → Int) (a : Nat) : InI K f a a f := ⟨fun _ _ => rfl, .refl _, fun p q _ _ _ => by omega⟩
theorem ins_sp (g : FuncId) (fs cs : List SV) (n cap : Nat) (H : List Ob) (V : Int → Prop) (O : Int → Int → Prop) (cm : Int → Int → Int) (K : Int → Int) (f : Nat → Int) (a b : Nat)
    (hC : Cmp g fs cs n cap H V cm) (hK : Kn V O cm K) (hV : allV V f a b) (hO : ∀ p q, a ≤ p → p < q → q < b → O (f p) (f q)) (hro : roB H = true) (hab : a ≤ b) (hb : b ≤ n) (hn : n ≤ cap) (hcap : n ≤ 4611686018427387904) :
    Sp Try.prog 95 [.s 0 0 0 n cap 1, .v (.int .i64 a), .v (.int .i64 b), .f (.func g) fs cs] (rOwn 3 n cap f :: H) (fun r H' => ∃ f', r = .t [] ∧ H' = rOwn 3 n cap f' :: H ∧ InI K f a b f') := by
  refine sp_wk ?_
  refine sp_of_ex true [(6, .one 0 (.one 1 (.one 2 (.one 3 (.one 4 (.one 5 (.one 6 (.one 7 (.one 8 (.one 10 (.one 11 (.one 12 (.alt [(9, .one 13 (.one 14 (.one 15 (.one 16 (.one 17 .fin))))), (13, .one 9 (.one 14 (.one 15 (.one 16 (.one 17 .fin)))))])))))))))))))] mixed Try.call95 Try.func95 rfl Try.ntmps95 Try.results95 (by decide +kernel) rfl ?_
  simp only [push_cast, ↓branch_true, ↓branch_false, Nat.reduceBEq, Nat.reduceAdd, Nat.reduceMul, Nat.reduceSub, Int.reduceToNat, reduceCtorEq, branch_decide, branch_not, branch_beq, branch_bne]
  refine ⟨by omega, ?_⟩
  refine tr_loop mixed (by kernel_rfl) (fun (x : Nat × (Nat → Int)) => [(8, .v (.int .i64 x.1)), (0, .s 0 0 0 n cap 1), (1, .v (.int .i64 a)), (2, .v (.int .i64 b)), (3, .f (.func g) fs cs)])
    (fun x => rOwn 3 n cap x.2 :: H) (fun x => a < x.1 ∧ (x.1 ≤ b ∨ (a = b ∧ x.1 = a + 1)) ∧ InI K f a x.1 x.2) (fun x => b - x.1) (a + 1, f) ⟨by simp, by simp; omega, inI_0 K f a⟩ (swk_head ?_ fun _ _ _ _ => rfl) ?_
  · simp only [push_cast, ↓branch_true, ↓branch_false, Nat.reduceBEq, Nat.reduceAdd, Nat.reduceMul, Nat.reduceSub, Int.reduceToNat, reduceCtorEq, branch_decide, branch_not, branch_beq, branch_bne]
  rintro ⟨i, f1⟩ ⟨h1, h2, h3⟩
  simp only [push_cast, ↓branch_true, ↓branch_false, Nat.reduceBEq, Nat.reduceAdd, Nat.reduceMul, Nat.reduceSub, Int.reduceToNat, reduceCtorEq, branch_decide, branch_not, branch_beq, branch_bne]
  refine ⟨fun h => ?_, fun h => ?_⟩
  · repeat (with_reducible refine And.intro (by omega) ?_)
    refine tr_loop mixed (by kernel_rfl) (fun (x : Nat × (Nat → Int)) => [(9, .v (.int .i64 x.1)), (8, .v (.int .i64 i)), (0, .s 0 0 0 n cap 1), (1, .v (.int .i64 a)), (2, .v (.int .i64 b)), (3, .f (.func g) fs cs)])
      (fun x => rOwn 3 n cap x.2 :: H) (fun x => a ≤ x.1 ∧ x.1 ≤ i ∧ InJ K f a i x.1 x.2) (fun x => x.1) (i, f1) ⟨by omega, Nat.le_refl _, inJ_0 (by omega) h3⟩ (swk_head ?_ fun _ _ _ _ => rfl) ?_
    · simp only [push_cast, ↓branch_true, ↓branch_false, Nat.reduceBEq, Nat.reduceAdd, Nat.reduceMul, Nat.reduceSub, Int.reduceToNat, reduceCtorEq, branch_decide, branch_not, branch_beq, branch_bne]
    rintro ⟨j, f2⟩ ⟨k1, k2, k3⟩
    simp only [push_cast, ↓branch_true, ↓branch_false, Nat.reduceBEq, Nat.reduceAdd, Nat.reduceMul, Nat.reduceSub, Int.reduceToNat, reduceCtorEq, branch_decide, branch_not, branch_beq, branch_bne]
    simp only at h1 h2 h3 k1 k2 k3
    refine ⟨fun h5 => ?_, fun h5 => ?_⟩
    · repeat (with_reducible refine And.intro (by omega) ?_)
      have e1 : ((j : Int) - 1).toNat = j - 1 := by omega
      rw [e1]
      obtain ⟨q, q1, q2, q3⟩ := k3.low (j - 1) (by omega) (by omega)
      have v1 : V (f2 j) := by rw [k3.here]; exact hV i (by omega) (by omega)
      have v2 : V (f2 (j - 1)) := by rw [q3]; exact hV q q1 (by omega)
      have ho : O (f2 (j - 1)) (f2 j) := by rw [k3.here, q3]; exact hO q i q1 q2 (by omega)
      have hc := hK.cmp _ _ v1 v2 ho
      refine qc_pu (hC f2 _ _ v1 v2) rfl ?_
      simp only [push_cast, ↓branch_true, ↓branch_false, Nat.reduceBEq, Nat.reduceAdd, Nat.reduceMul, Nat.reduceSub, Int.reduceToNat, reduceCtorEq, branch_decide, branch_not, branch_beq, branch_bne]
      refine ⟨fun h6 => ?_, fun h6 => ?_⟩
      · have h7 := hc.mp h6
        rw [k3.here] at h7
        have k4 := inJ_down (by omega) k2 k3 h7
        repeat (with_reducible refine And.intro (by omega) ?_)
        simp only [e1]
        repeat' (with_reducible apply And.intro)
        all_goals try omega
        all_goals
          refine lpK_wk (j - 1, swF f2 (j - 1) j) ⟨by simp; omega, by simp; omega, k4⟩ (by simp; omega) (swk_head ?_ fun x hx k hk => upd_sw (by omega) hx)
          simp only [push_cast, ↓branch_true, ↓branch_false, Nat.reduceBEq, Nat.reduceAdd, Nat.reduceMul, Nat.reduceSub, Int.reduceToNat, reduceCtorEq, branch_decide, branch_not, branch_beq, branch_bne]
          rw [show (((j - 1 : Nat)) : Int) = (j : Int) - 1 by omega]
      · repeat (with_reducible refine And.intro (by omega) ?_)
        refine lpK_wk (i + 1, f2) ?_ ?_ (swk_head ?_ fun _ _ _ _ => rfl)
        · refine ⟨by simp; omega, by simp; omega, inI_1 k1 k2 k3 fun h => ?_⟩
          rw [k3.here] at hc
          rw [k3.here, hc] at h6
          exact Int.not_lt.mp h6
        · simp; omega
        · simp only [push_cast, ↓branch_true, ↓branch_false, Nat.reduceBEq, Nat.reduceAdd, Nat.reduceMul, Nat.reduceSub, Int.reduceToNat, reduceCtorEq, branch_decide, branch_not, branch_beq, branch_bne]
    · repeat (with_reducible refine And.intro (by omega) ?_)
      refine lpK_wk (i + 1, f2) ?_ ?_ (swk_head ?_ fun _ _ _ _ => rfl)
      · exact ⟨by simp; omega, by simp; omega, inI_1 k1 k2 k3 fun h => by omega⟩
      · simp; omega
      · simp only [push_cast, ↓branch_true, ↓branch_false, Nat.reduceBEq, Nat.reduceAdd, Nat.reduceMul, Nat.reduceSub, Int.reduceToNat, reduceCtorEq, branch_decide, branch_not, branch_beq, branch_bne]
  · repeat (with_reducible refine And.intro (by omega) ?_)
    refine ⟨_, _, vwk_head (f' := fun x k => [.v (.int .i64 (f1 k))]) fun _ _ _ _ => rfl, f1, rfl, rfl, ?_⟩
    simp only at h1 h2 h3
    by_cases e : a = b
    · subst e
      refine ⟨fun k hk => ?_, by rw [Nat.sub_self]; exact .refl _, fun p q _ _ _ => by omega⟩
      by_cases ek : k < a ∨ i ≤ k
      · exact h3.out k ek
      · obtain rfl : k = a := by omega
        have hp := h3.perm
        rw [show i - k = 1 by omega, seg_one, seg_one] at hp
        simpa using hp.eq_singleton
    · obtain rfl : i = b := by omega
      exact h3
end Go.Proofs.Ythlpfjcjfhdmaaa
