/- Contracts: the stable sort (merging given), the walk. -/
import Derived.Test.YthlpfjcjfhdmaaaSG
set_option maxRecDepth 100000
set_option linter.unusedSimpArgs false
set_option linter.unusedVariables false
namespace Go.Proofs.Ythlpfjcjfhdmaaa
open Go.RowKit
theorem sp_mono {P : Program} {f : FuncId} {args : List SV} {H : List Ob} {K0 K : SV → List Ob → Prop} (h : Sp P f args H K0) (hk : ∀ r H', K0 r H' → K r H') : Sp P f args H K := by
  refine ⟨h.1, fun β w vals hI ha => (h.2 β w vals hI ha).mono ?_⟩
  rintro e w' ⟨r', u, β', H1, rfl, hK, h5, h6, h7⟩
  exact ⟨r', u, β', H1, rfl, hk _ _ hK, h5, h6, h7⟩
/-- Merging does what it should. -/
def MergeOk (g : FuncId) (fs cs : List SV) (n cap : Nat) (H : List Ob) (V : Int → Prop) (O : Int → Int → Prop) (K : Int → Int) : Prop :=
  ∀ (f : Nat → Int) (a m b : Nat), a < m → m < b → b ≤ n → allV V f a b → upK K f a m → upK K f m b → (∀ p q, a ≤ p → p < m → m ≤ q → q < b → O (f p) (f q)) →
    Sp Try.prog 96 [.s 0 0 0 n cap 1, .v (.int .i64 a), .v (.int .i64 m), .v (.int .i64 b), .f (.func g) fs cs] (rOwn 3 n cap f :: H) (fun r H' => ∃ f', r = .t [] ∧ H' = rOwn 3 n cap f' :: H ∧ InI K f a b f')
theorem stable_sp (g : FuncId) (fs cs : List SV) (n cap : Nat) (H : List Ob) (V : Int → Prop) (O : Int → Int → Prop) (cm : Int → Int → Int) (K : Int → Int) (f : Nat → Int)
    (hM : 20 < n → MergeOk g fs cs n cap H V O K)
    (hC : Cmp g fs cs n cap H V cm) (hK : Kn V O cm K) (hV : allV V f 0 n) (hO : ∀ p q, p < q → q < n → O (f p) (f q)) (hro : roB H = true) (hn : n ≤ cap) (hcap : n ≤ 1152921504606846976) :
    Sp Try.prog 90 [.s 0 0 0 n cap 1, .v (.int .i64 n), .f (.func g) fs cs] (rOwn 3 n cap f :: H) (fun r H' => ∃ f', r = .t [] ∧ H' = rOwn 3 n cap f' :: H ∧ InI K f 0 n f') := by
  refine sp_of_ex true [] mixed Try.call90 Try.func90 rfl Try.ntmps90 Try.results90 (by decide +kernel) rfl ?_
  simp only [push_cast, ↓branch_true, ↓branch_false, Nat.reduceBEq, Nat.reduceAdd, Nat.reduceMul, Nat.reduceSub, Int.reduceToNat, reduceCtorEq, branch_decide, branch_not, branch_beq, branch_bne]
  refine tr_loop mixed (by kernel_rfl) (fun (x : Nat × (Nat → Int)) => [(7, .v (.int .i64 (20 * (x.1 : Int)))), (8, .v (.int .i64 (20 * (x.1 : Int) + 20))), (6, .v (.int .i64 20)), (0, .s 0 0 0 n cap 1), (1, .v (.int .i64 n)), (2, .f (.func g) fs cs)])
    (fun x => rOwn 3 n cap x.2 :: H) (fun x => 20 * x.1 ≤ n ∧ BI K f n 20 (20 * x.1) x.2 ∧ ∀ k, 20 * x.1 ≤ k → x.2 k = f k) (fun x => n - 20 * x.1) (0, f) ⟨by simp, bi_0 K f n 20, fun _ _ => rfl⟩ (swk_head ?_ fun _ _ _ _ => rfl) ?_
  · simp only [push_cast, ↓branch_true, ↓branch_false, Nat.reduceBEq, Nat.reduceAdd, Nat.reduceMul, Nat.reduceSub, Int.reduceToNat, reduceCtorEq, branch_decide, branch_not, branch_beq, branch_bne]
    exact ⟨rfl, rfl⟩
  rintro ⟨c, f1⟩ ⟨h1, h2, h3⟩
  simp only at h1 h2 h3
  simp only [push_cast, ↓branch_true, ↓branch_false, Nat.reduceBEq, Nat.reduceAdd, Nat.reduceMul, Nat.reduceSub, Int.reduceToNat, reduceCtorEq, branch_decide, branch_not, branch_beq, branch_bne]
  have hV1 : ∀ b, b ≤ n → allV V f1 (20 * c) b := fun b hb k k1 k2 => by rw [h3 k k1]; exact hV k (by omega) (by omega)
  have hO1 : ∀ b, b ≤ n → ∀ p q, 20 * c ≤ p → p < q → q < b → O (f1 p) (f1 q) := fun b hb p q p1 p2 p3 => by rw [h3 p p1, h3 q (by omega)]; exact hO p q p2 (by omega)
  refine ⟨fun h => ?_, fun h => ?_⟩
  · have hi := ins_sp g fs cs n cap H V O cm K f1 (20 * c) (20 * c + 20) hC hK (hV1 _ (by omega)) (hO1 _ (by omega)) hro (by omega) (by omega) hn (by omega)
    rw [show ((20 * c : Nat) : Int) = 20 * (c : Int) by omega, show ((20 * c + 20 : Nat) : Int) = 20 * (c : Int) + 20 by omega] at hi
    refine sp_mono hi ?_
    rintro r H' ⟨f2, rfl, rfl, i2⟩
    simp only [push_cast, ↓branch_true, ↓branch_false, Nat.reduceBEq, Nat.reduceAdd, Nat.reduceMul, Nat.reduceSub, Int.reduceToNat, reduceCtorEq, branch_decide, branch_not, branch_beq, branch_bne]
    repeat (with_reducible refine And.intro (by omega) ?_)
    refine lpK_wk (c + 1, f2) ⟨by simp; omega, bi_next (by omega) h2 h3 (by omega) (by omega) (by simp; omega) i2, fun k hk => ?_⟩ (by simp; omega) (swk_head ?_ fun _ _ _ _ => rfl)
    · simp only at hk ⊢
      rw [i2.out k (by omega), h3 k (by omega)]
    · simp only [push_cast, ↓branch_true, ↓branch_false, Nat.reduceBEq, Nat.reduceAdd, Nat.reduceMul, Nat.reduceSub, Int.reduceToNat, reduceCtorEq, branch_decide, branch_not, branch_beq, branch_bne]
      rw [Int.mul_add]
      exact ⟨rfl, rfl⟩
  · have hi := ins_sp g fs cs n cap H V O cm K f1 (20 * c) n hC hK (hV1 _ (by omega)) (hO1 _ (by omega)) hro (by omega) (by omega) hn (by omega)
    rw [show ((20 * c : Nat) : Int) = 20 * (c : Int) by omega] at hi
    refine sp_mono hi ?_
    rintro r H' ⟨f2, rfl, rfl, i2⟩
    have b2 := bi_next (by omega) h2 h3 (by omega) (by omega) (Nat.le_refl n) i2
    clear i2 h2 h3 hV1 hO1
    simp only [push_cast, ↓branch_true, ↓branch_false, Nat.reduceBEq, Nat.reduceAdd, Nat.reduceMul, Nat.reduceSub, Int.reduceToNat, reduceCtorEq, branch_decide, branch_not, branch_beq, branch_bne]
    refine tr_loop mixed (by kernel_rfl) (fun (x : Nat × (Nat → Int)) => [(6, .v (.int .i64 x.1)), (0, .s 0 0 0 n cap 1), (1, .v (.int .i64 n)), (2, .f (.func g) fs cs)])
      (fun x => rOwn 3 n cap x.2 :: H) (fun x => 20 ≤ x.1 ∧ (20 < x.1 → 20 < n) ∧ BI K f n x.1 n x.2) (fun x => n - x.1) (20, f2) ⟨by simp, by simp, b2⟩ (swk_head ?_ fun _ _ _ _ => rfl) ?_
    · simp only [push_cast, ↓branch_true, ↓branch_false, Nat.reduceBEq, Nat.reduceAdd, Nat.reduceMul, Nat.reduceSub, Int.reduceToNat, reduceCtorEq, branch_decide, branch_not, branch_beq, branch_bne]
      exact rfl
    clear b2
    rintro ⟨s, f3⟩ ⟨k1, k0, k2⟩
    simp only at k1 k0 k2
    simp only [push_cast, ↓branch_true, ↓branch_false, Nat.reduceBEq, Nat.reduceAdd, Nat.reduceMul, Nat.reduceSub, Int.reduceToNat, reduceCtorEq, branch_decide, branch_not, branch_beq, branch_bne]
    refine ⟨fun h4 => ?_, fun h4 => ?_⟩
    · have hM := hM (by omega)
      repeat (with_reducible refine And.intro (by omega) ?_)
      refine tr_loop mixed (by kernel_rfl) (fun (x : Nat × (Nat → Int)) => [(7, .v (.int .i64 (2 * (s : Int) * (x.1 : Int)))), (8, .v (.int .i64 (2 * (s : Int) * (x.1 : Int) + 2 * (s : Int)))), (6, .v (.int .i64 s)), (0, .s 0 0 0 n cap 1), (1, .v (.int .i64 n)), (2, .f (.func g) fs cs)])
        (fun x => rOwn 3 n cap x.2 :: H) (fun x => 2 * s * x.1 ≤ n ∧ MI K f f3 n s (2 * s * x.1) x.2) (fun x => n - 2 * s * x.1) (0, f3) ⟨by simp, by simpa using mi_0 k2⟩ (swk_head ?_ fun _ _ _ _ => rfl) ?_
      · simp only [push_cast, ↓branch_true, ↓branch_false, Nat.reduceBEq, Nat.reduceAdd, Nat.reduceMul, Nat.reduceSub, Int.reduceToNat, reduceCtorEq, branch_decide, branch_not, branch_beq, branch_bne]
        simp
      rintro ⟨d, f4⟩ ⟨l1, l2⟩
      simp only at l1 l2
      simp only [push_cast, ↓branch_true, ↓branch_false, Nat.reduceBEq, Nat.reduceAdd, Nat.reduceMul, Nat.reduceSub, Int.reduceToNat, reduceCtorEq, branch_decide, branch_not, branch_beq, branch_bne]
      obtain ⟨A, hA⟩ : ∃ A, A = 2 * s * d := ⟨_, rfl⟩
      have ed : 2 * (s : Int) * (d : Int) = (A : Int) := by rw [hA]; push_cast; try rfl
      simp only [ed]
      refine ⟨fun h5 => ?_, fun h5 => ?_⟩
      · obtain ⟨m1, m2, m3, m4⟩ := mi_ask (b := 2 * s * d + 2 * s) (by omega) k2 l2 (by omega) (by omega) (by omega) hV hO
        have hm := hM f4 (2 * s * d) (2 * s * d + s) (2 * s * d + 2 * s) (by omega) (by omega) (by omega) m1 m2 m3 m4
        rw [show ((2 * s * d + s : Nat) : Int) = (A : Int) + (s : Int) by omega, show ((2 * s * d + 2 * s : Nat) : Int) = (A : Int) + 2 * (s : Int) by omega, ← hA] at hm
        repeat (with_reducible refine And.intro (by omega) ?_)
        refine sp_mono hm ?_
        rintro r H' ⟨f5, rfl, rfl, i5⟩
        rw [hA] at i5
        have m5 := mi_next (by omega) k2 l2 (by omega) (Nat.le_refl _) (by omega) i5
        have e6 : 2 * s * (d + 1) = 2 * s * d + 2 * s := by rw [Nat.mul_add, Nat.mul_one]
        rw [← e6] at m5
        simp only [push_cast, ↓branch_true, ↓branch_false, Nat.reduceBEq, Nat.reduceAdd, Nat.reduceMul, Nat.reduceSub, Int.reduceToNat, reduceCtorEq, branch_decide, branch_not, branch_beq, branch_bne]
        repeat (with_reducible refine And.intro (by omega) ?_)
        refine lpK_wk (d + 1, f5) ?_ ?_ (swk_head ?_ fun _ _ _ _ => rfl)
        · exact ⟨by simp only; omega, m5⟩
        · simp only
          omega
        simp only [push_cast, ↓branch_true, ↓branch_false, Nat.reduceBEq, Nat.reduceAdd, Nat.reduceMul, Nat.reduceSub, Int.reduceToNat, reduceCtorEq, branch_decide, branch_not, branch_beq, branch_bne]
        rw [← ed, Int.mul_add, Int.mul_one]
        exact ⟨rfl, rfl⟩
      · repeat (with_reducible refine And.intro (by omega) ?_)
        refine ⟨fun h6 => ?_, fun h6 => ?_⟩
        · obtain ⟨m1, m2, m3, m4⟩ := mi_ask (b := n) (by omega) k2 l2 (by omega) (by omega) (by omega) hV hO
          have hm := hM f4 (2 * s * d) (2 * s * d + s) n (by omega) (by omega) (by omega) m1 m2 m3 m4
          rw [show ((2 * s * d + s : Nat) : Int) = (A : Int) + (s : Int) by omega, ← hA] at hm
          refine sp_mono hm ?_
          rintro r H' ⟨f5, rfl, rfl, i5⟩
          rw [hA] at i5
          have m5 := mi_next (by omega) k2 l2 (by omega) (by omega) (Nat.le_refl n) i5
          simp only [push_cast, ↓branch_true, ↓branch_false, Nat.reduceBEq, Nat.reduceAdd, Nat.reduceMul, Nat.reduceSub, Int.reduceToNat, reduceCtorEq, branch_decide, branch_not, branch_beq, branch_bne]
          repeat (with_reducible refine And.intro (by omega) ?_)
          refine lpK_wk (2 * s, f5) ⟨by simp only; omega, fun _ => by omega, m5.b⟩ (by simp only; omega) (swk_head ?_ fun _ _ _ _ => rfl)
          simp only [push_cast, ↓branch_true, ↓branch_false, Nat.reduceBEq, Nat.reduceAdd, Nat.reduceMul, Nat.reduceSub, Int.reduceToNat, reduceCtorEq, branch_decide, branch_not, branch_beq, branch_bne]
          rw [Int.mul_comm]
          exact rfl
        · have m5 := mi_end (by omega) k2 l2 (by omega) (by omega)
          repeat (with_reducible refine And.intro (by omega) ?_)
          refine lpK_wk (2 * s, f4) ⟨by simp only; omega, fun _ => by omega, m5⟩ (by simp only; omega) (swk_head ?_ fun _ _ _ _ => rfl)
          simp only [push_cast, ↓branch_true, ↓branch_false, Nat.reduceBEq, Nat.reduceAdd, Nat.reduceMul, Nat.reduceSub, Int.reduceToNat, reduceCtorEq, branch_decide, branch_not, branch_beq, branch_bne]
          rw [Int.mul_comm]
          exact rfl
    · refine ⟨f3, ?_, ?_⟩
      · rfl
      refine ⟨fun k hk => k2.out k (by omega), by simpa using k2.perm, fun p q p1 p2 p3 => k2.up p q p2 p3 ?_⟩
      rw [Nat.div_eq_of_lt (by omega), Nat.div_eq_of_lt (by omega)]
end Go.Proofs.Ythlpfjcjfhdmaaa
