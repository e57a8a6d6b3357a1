/- Contracts: merging in place. -/
import Derived.Test.YthlpfjcjfhdmaaaSJ
set_option maxRecDepth 100000
set_option linter.unusedSimpArgs false
set_option linter.unusedVariables false
namespace Go.Proofs.Ythlpfjcjfhdmaaa
open Go.RowKit
theorem hv {x y e : Nat} (h : e = (x + y) / 2) : ((x : Int) + (y : Int)).fdiv (2 ^ min 1 IntKind.u64.bits) = (e : Int) := by
  have : (2 ^ min 1 IntKind.u64.bits : Int) = 2 := by decide
  rw [this, h, Int.fdiv_eq_ediv_of_nonneg _ (by omega)]
  omega
set_option maxHeartbeats 2000000 in
theorem merge_ok (g : FuncId) (fs cs : List SV) (n cap : Nat) (H : List Ob) (V : Int → Prop) (O : Int → Int → Prop) (cm : Int → Int → Int) (K : Int → Int)
    (hC : Cmp g fs cs n cap H V cm) (hK : Kn V O cm K) (hro : roB H = true) (hn : n ≤ cap) (hcap : n ≤ 1152921504606846976) :
    ∀ (d : Nat) (f : Nat → Int) (a m b : Nat), b - a = d → a < m → m < b → b ≤ n → allV V f a b → upK K f a m → upK K f m b → (∀ p q, a ≤ p → p < m → m ≤ q → q < b → O (f p) (f q)) →
    Sp Try.prog 96 [.s 0 0 0 n cap 1, .v (.int .i64 a), .v (.int .i64 m), .v (.int .i64 b), .f (.func g) fs cs] (rOwn 3 n cap f :: H) (fun r H' => ∃ f', r = .t [] ∧ H' = rOwn 3 n cap f' :: H ∧ InI K f a b f') := by
  intro d
  induction d using Nat.strongRecOn with
  | _ d ih =>
  intro f a m b hd ham hmb hbn hV hu1 hu2 hO
  refine sp_wk ?_
  refine sp_of_ex true [(11, .one 0 (.one 1 (.one 2 (.one 3 (.one 4 (.one 5 (.one 6 (.one 7 (.one 8 (.one 10 (.one 11 (.one 12 (.alt [(9, .one 13 (.one 14 (.one 15 (.one 16 (.one 17 .fin))))), (13, .one 9 (.one 14 (.one 15 (.one 16 (.one 17 .fin)))))]))))))))))))), (23, .one 0 (.one 1 (.one 2 (.one 3 (.one 4 (.one 5 (.one 6 (.one 7 (.one 8 (.one 10 (.one 11 (.one 12 (.alt [(9, .one 13 (.one 14 (.one 15 (.one 16 (.one 17 .fin))))), (13, .one 9 (.one 14 (.one 15 (.one 16 (.one 17 .fin)))))])))))))))))))] mixed Try.call96 Try.func96 rfl Try.ntmps96 Try.results96 (by decide +kernel) rfl ?_
  simp only [push_cast, ↓branch_true, ↓branch_false, Nat.reduceBEq, Nat.reduceAdd, Nat.reduceMul, Nat.reduceSub, Int.reduceToNat, reduceCtorEq, branch_decide, branch_not, branch_beq, branch_bne]
  repeat (with_reducible refine And.intro (by omega) ?_)
  refine ⟨fun h => ?_, fun h => ?_⟩
  · refine tr_loop mixed (by kernel_rfl) (fun (x : Nat × Nat) => [(10, .v (.int .i64 x.1)), (11, .v (.int .i64 x.2)), (0, .s 0 0 0 n cap 1), (1, .v (.int .i64 a)), (2, .v (.int .i64 m)), (3, .v (.int .i64 b)), (4, .f (.func g) fs cs)])
      (fun x => rOwn 3 n cap f :: H) (fun x => m ≤ x.1 ∧ x.1 ≤ x.2 ∧ x.2 ≤ b ∧ (∀ k, m ≤ k → k < x.1 → K (f k) < K (f a)) ∧ ∀ k, x.2 ≤ k → k < b → K (f a) ≤ K (f k)) (fun x => x.2 - x.1) (m, b)
      ⟨Nat.le_refl _, by simp only; omega, Nat.le_refl _, fun k _ _ => by simp only at *; omega, fun k _ _ => by simp only at *; omega⟩ (swk_head ?_ fun _ _ _ _ => rfl) ?_
    · simp only [push_cast, ↓branch_true, ↓branch_false, Nat.reduceBEq, Nat.reduceAdd, Nat.reduceMul, Nat.reduceSub, Int.reduceToNat, reduceCtorEq, branch_decide, branch_not, branch_beq, branch_bne]
    rintro ⟨i, j⟩ ⟨k1, k2, k3, k4, k5⟩
    simp only at k1 k2 k3 k4 k5
    simp only [push_cast, ↓branch_true, ↓branch_false, Nat.reduceBEq, Nat.reduceAdd, Nat.reduceMul, Nat.reduceSub, Int.reduceToNat, reduceCtorEq, branch_decide, branch_not, branch_beq, branch_bne]
    refine ⟨fun h3 => ?_, fun h3 => ?_⟩
    · obtain ⟨e, he⟩ : ∃ e, e = (i + j) / 2 := ⟨_, rfl⟩
      simp only [hv he]
      repeat (with_reducible refine And.intro (by omega) ?_)
      simp only [Int.toNat_natCast]
      repeat (with_reducible refine And.intro (by omega) ?_)
      have v1 := hV e (by omega) (by omega)
      have v2 := hV a (by omega) (by omega)
      have hc := hK.cmp _ _ v1 v2 (hO a e (by omega) (by omega) (by omega) (by omega))
      refine qc_pu (hC f _ _ v1 v2) rfl ?_
      simp only [push_cast, ↓branch_true, ↓branch_false, Nat.reduceBEq, Nat.reduceAdd, Nat.reduceMul, Nat.reduceSub, Int.reduceToNat, reduceCtorEq, branch_decide, branch_not, branch_beq, branch_bne]
      refine ⟨fun h4 => ?_, fun h4 => ?_⟩
      · repeat (with_reducible refine And.intro (by omega) ?_)
        have h5 := hc.mp h4
        refine lpK_wk (e + 1, j) ?_ ?_ (swk_head ?_ fun _ _ _ _ => rfl)
        · refine ⟨by simp only; omega, by simp only; omega, k3, fun k q1 q2 => ?_, k5⟩
          simp only at q2
          by_cases e1 : k = e
          · subst e1; exact h5
          · have := hu2 k e q1 (by omega) (by omega)
            omega
        · simp only; omega
        · simp only [push_cast, ↓branch_true, ↓branch_false, Nat.reduceBEq, Nat.reduceAdd, Nat.reduceMul, Nat.reduceSub, Int.reduceToNat, reduceCtorEq, branch_decide, branch_not, branch_beq, branch_bne]
      · have h5 : K (f a) ≤ K (f e) := by rw [hc] at h4; omega
        refine lpK_wk (i, e) ?_ ?_ (swk_head ?_ fun _ _ _ _ => rfl)
        · refine ⟨k1, by simp only; omega, by simp only; omega, k4, fun k q1 q2 => ?_⟩
          simp only at q1
          by_cases e1 : k = e
          · subst e1; exact h5
          · have := hu2 e k (by omega) (by omega) q2
            omega
        · simp only; omega
        · simp only [push_cast, ↓branch_true, ↓branch_false, Nat.reduceBEq, Nat.reduceAdd, Nat.reduceMul, Nat.reduceSub, Int.reduceToNat, reduceCtorEq, branch_decide, branch_not, branch_beq, branch_bne]
    · obtain rfl : i = j := by omega
      refine tr_loop mixed (by kernel_rfl) (fun (x : Nat × (Nat → Int)) => [(13, .v (.int .i64 x.1)), (10, .v (.int .i64 i)), (0, .s 0 0 0 n cap 1), (1, .v (.int .i64 a)), (2, .v (.int .i64 m)), (3, .v (.int .i64 b)), (4, .f (.func g) fs cs)])
        (fun x => rOwn 3 n cap x.2 :: H) (fun x => a ≤ x.1 ∧ x.1 ≤ i - 1 ∧ GoUp f a b x.1 x.2) (fun x => i - x.1) (a, f) ⟨Nat.le_refl _, by simp only; omega, goUp_0 f a b⟩ (swk_head ?_ fun _ _ _ _ => rfl) ?_
      · simp only [push_cast, ↓branch_true, ↓branch_false, Nat.reduceBEq, Nat.reduceAdd, Nat.reduceMul, Nat.reduceSub, Int.reduceToNat, reduceCtorEq, branch_decide, branch_not, branch_beq, branch_bne]
      rintro ⟨k, f1⟩ ⟨l1, l2, l3⟩
      simp only at l1 l2 l3
      simp only [push_cast, ↓branch_true, ↓branch_false, Nat.reduceBEq, Nat.reduceAdd, Nat.reduceMul, Nat.reduceSub, Int.reduceToNat, reduceCtorEq, branch_decide, branch_not, branch_beq, branch_bne]
      repeat (with_reducible refine And.intro (by omega) ?_)
      refine ⟨fun h4 => ?_, fun h4 => ?_⟩
      · have l4 := goUp_1 l1 (by omega) l3
        have e1 : ((k : Int) + 1).toNat = k + 1 := by omega
        repeat' (with_reducible apply And.intro)
        all_goals try omega
        all_goals
          simp only [e1]
          refine lpK_wk (k + 1, swF f1 k (k + 1)) ?_ ?_ (swk_head ?_ fun x hx p hp => ?_)
          · exact ⟨by simp only; omega, by simp only; omega, l4⟩
          · simp only; omega
          · simp only [push_cast, ↓branch_true, ↓branch_false, Nat.reduceBEq, Nat.reduceAdd, Nat.reduceMul, Nat.reduceSub, Int.reduceToNat, reduceCtorEq, branch_decide, branch_not, branch_beq, branch_bne]
          · exact upd_two (by omega) hx
      · obtain rfl : k = i - 1 := by omega
        refine ⟨_, _, vwk_head (f' := fun x k => [.v (.int .i64 (f1 k))]) fun _ _ _ _ => rfl, f1, rfl, rfl, ?_⟩
        obtain rfl : m = a + 1 := by omega
        exact goUp_up (by omega) k3 l3 hu2 (fun k q1 q2 => by have := k4 k (by omega) q2; omega) k5
  · repeat (with_reducible refine And.intro (by omega) ?_)
    refine ⟨fun h2 => ?_, fun h2 => ?_⟩
    · refine tr_loop mixed (by kernel_rfl) (fun (x : Nat × Nat) => [(14, .v (.int .i64 x.1)), (15, .v (.int .i64 x.2)), (0, .s 0 0 0 n cap 1), (1, .v (.int .i64 a)), (2, .v (.int .i64 m)), (3, .v (.int .i64 b)), (4, .f (.func g) fs cs)])
        (fun x => rOwn 3 n cap f :: H) (fun x => a ≤ x.1 ∧ x.1 ≤ x.2 ∧ x.2 ≤ m ∧ (∀ k, a ≤ k → k < x.1 → K (f k) ≤ K (f m)) ∧ ∀ k, x.2 ≤ k → k < m → K (f m) < K (f k)) (fun x => x.2 - x.1) (a, m)
        ⟨Nat.le_refl _, by simp only; omega, Nat.le_refl _, fun k _ _ => by simp only at *; omega, fun k _ _ => by simp only at *; omega⟩ (swk_head ?_ fun _ _ _ _ => rfl) ?_
      · simp only [push_cast, ↓branch_true, ↓branch_false, Nat.reduceBEq, Nat.reduceAdd, Nat.reduceMul, Nat.reduceSub, Int.reduceToNat, reduceCtorEq, branch_decide, branch_not, branch_beq, branch_bne]
      rintro ⟨i, j⟩ ⟨k1, k2, k3, k4, k5⟩
      simp only at k1 k2 k3 k4 k5
      simp only [push_cast, ↓branch_true, ↓branch_false, Nat.reduceBEq, Nat.reduceAdd, Nat.reduceMul, Nat.reduceSub, Int.reduceToNat, reduceCtorEq, branch_decide, branch_not, branch_beq, branch_bne]
      refine ⟨fun h3 => ?_, fun h3 => ?_⟩
      · obtain ⟨e, he⟩ : ∃ e, e = (i + j) / 2 := ⟨_, rfl⟩
        simp only [hv he]
        repeat (with_reducible refine And.intro (by omega) ?_)
        simp only [Int.toNat_natCast]
        repeat (with_reducible refine And.intro (by omega) ?_)
        have v1 := hV e (by omega) (by omega)
        have v2 := hV m (by omega) (by omega)
        have hc := hK.cmp _ _ v2 v1 (hO e m (by omega) (by omega) (by omega) (by omega))
        refine qc_pu (hC f _ _ v2 v1) rfl ?_
        simp only [push_cast, ↓branch_true, ↓branch_false, Nat.reduceBEq, Nat.reduceAdd, Nat.reduceMul, Nat.reduceSub, Int.reduceToNat, reduceCtorEq, branch_decide, branch_not, branch_beq, branch_bne]
        refine ⟨fun h4 => ?_, fun h4 => ?_⟩
        · have h5 := hc.mp h4
          refine lpK_wk (i, e) ?_ ?_ (swk_head ?_ fun _ _ _ _ => rfl)
          · refine ⟨k1, by simp only; omega, by simp only; omega, k4, fun k q1 q2 => ?_⟩
            simp only at q1
            by_cases e1 : k = e
            · subst e1; exact h5
            · have := hu1 e k (by omega) (by omega) q2
              omega
          · simp only; omega
          · simp only [push_cast, ↓branch_true, ↓branch_false, Nat.reduceBEq, Nat.reduceAdd, Nat.reduceMul, Nat.reduceSub, Int.reduceToNat, reduceCtorEq, branch_decide, branch_not, branch_beq, branch_bne]
        · repeat (with_reducible refine And.intro (by omega) ?_)
          have h5 : K (f e) ≤ K (f m) := by rw [hc] at h4; omega
          refine lpK_wk (e + 1, j) ?_ ?_ (swk_head ?_ fun _ _ _ _ => rfl)
          · refine ⟨by simp only; omega, by simp only; omega, k3, fun k q1 q2 => ?_, k5⟩
            simp only at q2
            by_cases e1 : k = e
            · subst e1; exact h5
            · have := hu1 k e q1 (by omega) (by omega)
              omega
          · simp only; omega
          · simp only [push_cast, ↓branch_true, ↓branch_false, Nat.reduceBEq, Nat.reduceAdd, Nat.reduceMul, Nat.reduceSub, Int.reduceToNat, reduceCtorEq, branch_decide, branch_not, branch_beq, branch_bne]
      · obtain rfl : i = j := by omega
        refine tr_loop mixed (by kernel_rfl) (fun (x : Nat × (Nat → Int)) => [(17, .v (.int .i64 x.1)), (14, .v (.int .i64 i)), (0, .s 0 0 0 n cap 1), (1, .v (.int .i64 a)), (2, .v (.int .i64 m)), (3, .v (.int .i64 b)), (4, .f (.func g) fs cs)])
          (fun x => rOwn 3 n cap x.2 :: H) (fun x => i ≤ x.1 ∧ x.1 ≤ m ∧ GoDn f a b m x.1 x.2) (fun x => x.1) (m, f) ⟨k3, Nat.le_refl _, goDn_0 f a b m⟩ (swk_head ?_ fun _ _ _ _ => rfl) ?_
        · simp only [push_cast, ↓branch_true, ↓branch_false, Nat.reduceBEq, Nat.reduceAdd, Nat.reduceMul, Nat.reduceSub, Int.reduceToNat, reduceCtorEq, branch_decide, branch_not, branch_beq, branch_bne]
        rintro ⟨k, f1⟩ ⟨l1, l2, l3⟩
        simp only at l1 l2 l3
        simp only [push_cast, ↓branch_true, ↓branch_false, Nat.reduceBEq, Nat.reduceAdd, Nat.reduceMul, Nat.reduceSub, Int.reduceToNat, reduceCtorEq, branch_decide, branch_not, branch_beq, branch_bne]
        refine ⟨fun h4 => ?_, fun h4 => ?_⟩
        · have l4 := goDn_1 (by omega) l2 hmb l3
          have e1 : ((k : Int) - 1).toNat = k - 1 := by omega
          repeat' (with_reducible apply And.intro)
          all_goals try omega
          all_goals
            simp only [e1]
            refine lpK_wk (k - 1, swF f1 (k - 1) k) ?_ ?_ (swk_head ?_ fun x hx p hp => ?_)
            · exact ⟨by simp only; omega, by simp only; omega, l4⟩
            · simp only; omega
            · simp only [push_cast, ↓branch_true, ↓branch_false, Nat.reduceBEq, Nat.reduceAdd, Nat.reduceMul, Nat.reduceSub, Int.reduceToNat, reduceCtorEq, branch_decide, branch_not, branch_beq, branch_bne]
              rw [show ((k - 1 : Nat) : Int) = (k : Int) - 1 by omega]
            · exact upd_sw (by omega) hx
        · obtain rfl : k = i := by omega
          refine ⟨_, _, vwk_head (f' := fun x k => [.v (.int .i64 (f1 k))]) fun _ _ _ _ => rfl, f1, rfl, rfl, ?_⟩
          obtain rfl : b = m + 1 := by omega
          exact goDn_up k1 k3 l3 hu1 k4 fun k q1 q2 => by have := k5 k q1 q2; omega
    · repeat (with_reducible refine And.intro (by omega) ?_)
      obtain ⟨c, hc⟩ : ∃ c, c = (a + b) / 2 := ⟨_, rfl⟩
      simp only [hv hc]
      repeat (with_reducible refine And.intro (by omega) ?_)
      refine ⟨fun h3 => ?a1, fun h3 => ?b1⟩
      case' a1 =>
        obtain ⟨s0, hs0⟩ : ∃ s, s = c + m - b := ⟨_, rfl⟩
        obtain ⟨r0, hr0⟩ : ∃ r, r = c := ⟨_, rfl⟩
        have q1 : a ≤ s0 ∧ s0 ≤ r0 ∧ r0 ≤ m ∧ r0 ≤ c ∧ c + m - s0 ≤ b ∧ (s0 = a ∨ c + m - s0 = b) ∧ (r0 = m ∨ r0 = c) ∧ (c : Int) + m - b = s0 ∧ (c : Int) = r0 := by omega
        have e20 : (c : Int) + m - b = s0 := by omega
        have e21 : (c : Int) = r0 := by omega
      case' b1 =>
        obtain ⟨s0, hs0⟩ : ∃ s, s = a := ⟨_, rfl⟩
        obtain ⟨r0, hr0⟩ : ∃ r, r = m := ⟨_, rfl⟩
        have q1 : a ≤ s0 ∧ s0 ≤ r0 ∧ r0 ≤ m ∧ r0 ≤ c ∧ c + m - s0 ≤ b ∧ (s0 = a ∨ c + m - s0 = b) ∧ (r0 = m ∨ r0 = c) := by omega
        have e20 : (a : Int) = s0 := by omega
        have e21 : (m : Int) = r0 := by omega
      all_goals
        repeat (with_reducible refine And.intro (by omega) ?_)
        refine tr_loop mixed (by kernel_rfl) (fun (x : Nat × Nat) => [(20, .v (.int .i64 x.1)), (21, .v (.int .i64 x.2)), (22, .v (.int .i64 ((c : Int) + m - 1))), (19, .v (.int .i64 ((c : Int) + m))), (18, .v (.int .i64 c)), (0, .s 0 0 0 n cap 1), (1, .v (.int .i64 a)), (2, .v (.int .i64 m)), (3, .v (.int .i64 b)), (4, .f (.func g) fs cs)])
          (fun x => rOwn 3 n cap f :: H) (fun x => s0 ≤ x.1 ∧ x.1 ≤ x.2 ∧ x.2 ≤ r0 ∧ (∀ k, s0 ≤ k → k < x.1 → K (f k) ≤ K (f (c + m - 1 - k))) ∧ ∀ k, x.2 ≤ k → k < r0 → K (f (c + m - 1 - k)) < K (f k)) (fun x => x.2 - x.1) (s0, r0)
          ⟨Nat.le_refl _, by simp only; omega, Nat.le_refl _, fun k _ _ => by simp only at *; omega, fun k _ _ => by simp only at *; omega⟩ (swk_head ?_ fun _ _ _ _ => rfl) ?_
        · simp only [push_cast, ↓branch_true, ↓branch_false, Nat.reduceBEq, Nat.reduceAdd, Nat.reduceMul, Nat.reduceSub, Int.reduceToNat, reduceCtorEq, branch_decide, branch_not, branch_beq, branch_bne]
          exact ⟨by rw [e20], by rw [e21]⟩
        rintro ⟨i, j⟩ ⟨k1, k2, k3, k4, k5⟩
        simp only at k1 k2 k3 k4 k5
        simp only [push_cast, ↓branch_true, ↓branch_false, Nat.reduceBEq, Nat.reduceAdd, Nat.reduceMul, Nat.reduceSub, Int.reduceToNat, reduceCtorEq, branch_decide, branch_not, branch_beq, branch_bne]
        refine ⟨fun h4 => ?_, fun h4 => ?_⟩
        · obtain ⟨e, he⟩ : ∃ e, e = (i + j) / 2 := ⟨_, rfl⟩
          simp only [hv he]
          repeat (with_reducible refine And.intro (by omega) ?_)
          have e1 : ((c : Int) + m - 1 - e).toNat = c + m - 1 - e := by omega
          simp only [Int.toNat_natCast, e1]
          repeat (with_reducible refine And.intro (by omega) ?_)
          have v1 := hV e (by omega) (by omega)
          have v2 := hV (c + m - 1 - e) (by omega) (by omega)
          have hc := hK.cmp _ _ v2 v1 (hO e (c + m - 1 - e) (by omega) (by omega) (by omega) (by omega))
          refine qc_pu (hC f _ _ v2 v1) rfl ?_
          simp only [push_cast, ↓branch_true, ↓branch_false, Nat.reduceBEq, Nat.reduceAdd, Nat.reduceMul, Nat.reduceSub, Int.reduceToNat, reduceCtorEq, branch_decide, branch_not, branch_beq, branch_bne]
          refine ⟨fun h5 => ?_, fun h5 => ?_⟩
          · have h6 := hc.mp h5
            refine lpK_wk (i, e) ?_ ?_ (swk_head ?_ fun _ _ _ _ => rfl)
            · refine ⟨k1, by simp only; omega, by simp only; omega, k4, fun k q1 q2 => ?_⟩
              simp only at q1
              by_cases e1 : k = e
              · subst e1; exact h6
              · have t1 := hu1 e k (by omega) (by omega) (by omega)
                have t2 := hu2 (c + m - 1 - k) (c + m - 1 - e) (by omega) (by omega) (by omega)
                omega
            · simp only; omega
            · simp only [push_cast, ↓branch_true, ↓branch_false, Nat.reduceBEq, Nat.reduceAdd, Nat.reduceMul, Nat.reduceSub, Int.reduceToNat, reduceCtorEq, branch_decide, branch_not, branch_beq, branch_bne]
          · repeat (with_reducible refine And.intro (by omega) ?_)
            have h6 : K (f e) ≤ K (f (c + m - 1 - e)) := by rw [hc] at h5; omega
            refine lpK_wk (e + 1, j) ?_ ?_ (swk_head ?_ fun _ _ _ _ => rfl)
            · refine ⟨by simp only; omega, by simp only; omega, k3, fun k q1 q2 => ?_, k5⟩
              simp only at q2
              by_cases e1 : k = e
              · subst e1; exact h6
              · have t1 := hu1 k e (by omega) (by omega) (by omega)
                have t2 := hu2 (c + m - 1 - e) (c + m - 1 - k) (by omega) (by omega) (by omega)
                omega
            · simp only; omega
            · simp only [push_cast, ↓branch_true, ↓branch_false, Nat.reduceBEq, Nat.reduceAdd, Nat.reduceMul, Nat.reduceSub, Int.reduceToNat, reduceCtorEq, branch_decide, branch_not, branch_beq, branch_bne]
        · obtain rfl : i = j := by omega
          obtain ⟨en, hen⟩ : ∃ en, en = c + m - i := ⟨_, rfl⟩
          have e2 : (c : Int) + m - i = (en : Int) := by omega
          simp only [e2]
          repeat (with_reducible refine And.intro (by omega) ?_)
          have lo : a < i → en < b → K (f (i - 1)) ≤ K (f en) := fun u1 u2 => by
            have := k4 (i - 1) (by omega) (by omega)
            rw [show c + m - 1 - (i - 1) = en by omega] at this
            exact this
          have hi : i < m → m < en → K (f (en - 1)) < K (f i) := fun u1 u2 => by
            have := k5 i (Nat.le_refl _) (by omega)
            rw [show c + m - 1 - i = en - 1 by omega] at this
            exact this
          have F := mf (c := c) (s := i) (e := en) hV hu1 hu2 hO (by omega) (by omega) (by omega) (by omega) (by omega) hen lo hi
          have hr1 : i = m ∨ en = m → rot f i m en = f := rot_nil (by omega) (by omega)
          obtain ⟨G, hG⟩ : ∃ G, G = rot f i m en := ⟨_, rfl⟩
          rw [← hG] at F hr1
          have I1 := fun (u1 : a < i) (u2 : i < c) => ih (c - a) (by omega) G a i c rfl u1 u2 (by omega) (fun k q1 q2 => F.v k q1 (by omega)) F.u1 F.u2 F.o1
          have N1 : ¬(a < i ∧ i < c) → InI K G a c G := fun u => ⟨fun _ _ => rfl, .refl _, by
            by_cases e : i = a
            · rw [← e]; exact F.u2
            · have e3 : i = c := by omega
              rw [← e3]; exact F.u1⟩
          have I2 : ∀ g1, InI K G a c g1 → c < en → en < b → _ := fun g1 i1 u1 u2 => ih (b - c) (by omega) g1 c en b rfl u1 u2 (by omega) (fun k q1 q2 => by rw [i1.out k (by omega)]; exact F.v k (by omega) q2) (fun p q p1 p2 p3 => by rw [i1.out p (by omega), i1.out q (by omega)]; exact F.u3 p q p1 p2 p3) (fun p q p1 p2 p3 => by rw [i1.out p (by omega), i1.out q (by omega)]; exact F.u4 p q p1 p2 p3) (fun p q p1 p2 p3 p4 => by rw [i1.out p (by omega), i1.out q (by omega)]; exact F.o2 p q p1 p2 p3 p4)
          have N2 : ∀ g1, InI K G a c g1 → ¬(c < en ∧ en < b) → InI K g1 c b g1 := fun g1 i1 u => ⟨fun _ _ => rfl, .refl _, fun p q p1 p2 p3 => by
            rw [i1.out p (by omega), i1.out q (by omega)]
            by_cases e : en = c
            · exact F.u4 p q (by omega) p2 p3
            · exact F.u3 p q p1 p2 (by omega)⟩
          have fin : ∀ g1 g2, InI K G a c g1 → InI K g1 c b g2 → InI K f a b g2 := fun g1 g2 i1 i2 => halves (by omega) (by omega) F.po i1 i2 F.hx
          refine ⟨fun w1 => ⟨fun w2 => ?_, fun w2 => ?_⟩, fun w1 => ?_⟩
          · have hs := rot_sp g fs cs n cap H f i m en (by omega) (by omega) (by omega) hn hcap
            refine sp_mono hs ?_
            rintro r H' ⟨rfl, rfl⟩
            rw [← hG]
            simp only [push_cast, ↓branch_true, ↓branch_false, Nat.reduceBEq, Nat.reduceAdd, Nat.reduceMul, Nat.reduceSub, Int.reduceToNat, reduceCtorEq, branch_decide, branch_not, branch_beq, branch_bne]
            refine ⟨fun u1 => ⟨fun u2 => ?_, fun u2 => ?_⟩, fun u1 => ?_⟩
            · refine sp_mono (I1 (by omega) (by omega)) ?_
              rintro r H' ⟨f4, rfl, rfl, i4⟩
              simp only [push_cast, ↓branch_true, ↓branch_false, Nat.reduceBEq, Nat.reduceAdd, Nat.reduceMul, Nat.reduceSub, Int.reduceToNat, reduceCtorEq, branch_decide, branch_not, branch_beq, branch_bne]
              refine ⟨fun u3 => ⟨fun u4 => ?_, fun u4 => ?_⟩, fun u3 => ?_⟩
              · refine sp_mono (I2 _ (i4) (by omega) (by omega)) ?_
                rintro r H' ⟨f5, rfl, rfl, i5⟩
                simp only [push_cast, ↓branch_true, ↓branch_false, Nat.reduceBEq, Nat.reduceAdd, Nat.reduceMul, Nat.reduceSub, Int.reduceToNat, reduceCtorEq, branch_decide, branch_not, branch_beq, branch_bne]
                exact ⟨_, _, vwk_head (f' := fun x k => [.v (.int .i64 (f5 k))]) (fun _ _ _ _ => rfl), f5, rfl, rfl, fin _ _ (i4) i5⟩
              · exact ⟨_, _, vwk_head (f' := fun x k => [.v (.int .i64 (f4 k))]) (fun _ _ _ _ => rfl), f4, rfl, rfl, fin _ _ (i4) (N2 _ (i4) (by omega))⟩
              · exact ⟨_, _, vwk_head (f' := fun x k => [.v (.int .i64 (f4 k))]) (fun _ _ _ _ => rfl), f4, rfl, rfl, fin _ _ (i4) (N2 _ (i4) (by omega))⟩
            · refine ⟨fun u3 => ⟨fun u4 => ?_, fun u4 => ?_⟩, fun u3 => ?_⟩
              · refine sp_mono (I2 _ (N1 (by omega)) (by omega) (by omega)) ?_
                rintro r H' ⟨f5, rfl, rfl, i5⟩
                simp only [push_cast, ↓branch_true, ↓branch_false, Nat.reduceBEq, Nat.reduceAdd, Nat.reduceMul, Nat.reduceSub, Int.reduceToNat, reduceCtorEq, branch_decide, branch_not, branch_beq, branch_bne]
                exact ⟨_, _, vwk_head (f' := fun x k => [.v (.int .i64 (f5 k))]) (fun _ _ _ _ => rfl), f5, rfl, rfl, fin _ _ (N1 (by omega)) i5⟩
              · exact ⟨_, _, vwk_head (f' := fun x k => [.v (.int .i64 (G k))]) (fun _ _ _ _ => rfl), G, rfl, rfl, fin _ _ (N1 (by omega)) (N2 _ (N1 (by omega)) (by omega))⟩
              · exact ⟨_, _, vwk_head (f' := fun x k => [.v (.int .i64 (G k))]) (fun _ _ _ _ => rfl), G, rfl, rfl, fin _ _ (N1 (by omega)) (N2 _ (N1 (by omega)) (by omega))⟩
            · refine ⟨fun u3 => ⟨fun u4 => ?_, fun u4 => ?_⟩, fun u3 => ?_⟩
              · refine sp_mono (I2 _ (N1 (by omega)) (by omega) (by omega)) ?_
                rintro r H' ⟨f5, rfl, rfl, i5⟩
                simp only [push_cast, ↓branch_true, ↓branch_false, Nat.reduceBEq, Nat.reduceAdd, Nat.reduceMul, Nat.reduceSub, Int.reduceToNat, reduceCtorEq, branch_decide, branch_not, branch_beq, branch_bne]
                exact ⟨_, _, vwk_head (f' := fun x k => [.v (.int .i64 (f5 k))]) (fun _ _ _ _ => rfl), f5, rfl, rfl, fin _ _ (N1 (by omega)) i5⟩
              · exact ⟨_, _, vwk_head (f' := fun x k => [.v (.int .i64 (G k))]) (fun _ _ _ _ => rfl), G, rfl, rfl, fin _ _ (N1 (by omega)) (N2 _ (N1 (by omega)) (by omega))⟩
              · exact ⟨_, _, vwk_head (f' := fun x k => [.v (.int .i64 (G k))]) (fun _ _ _ _ => rfl), G, rfl, rfl, fin _ _ (N1 (by omega)) (N2 _ (N1 (by omega)) (by omega))⟩
          · obtain rfl : G = f := hr1 (by omega)
            refine ⟨fun u1 => ⟨fun u2 => ?_, fun u2 => ?_⟩, fun u1 => ?_⟩
            · refine sp_mono (I1 (by omega) (by omega)) ?_
              rintro r H' ⟨f4, rfl, rfl, i4⟩
              simp only [push_cast, ↓branch_true, ↓branch_false, Nat.reduceBEq, Nat.reduceAdd, Nat.reduceMul, Nat.reduceSub, Int.reduceToNat, reduceCtorEq, branch_decide, branch_not, branch_beq, branch_bne]
              refine ⟨fun u3 => ⟨fun u4 => ?_, fun u4 => ?_⟩, fun u3 => ?_⟩
              · refine sp_mono (I2 _ (i4) (by omega) (by omega)) ?_
                rintro r H' ⟨f5, rfl, rfl, i5⟩
                simp only [push_cast, ↓branch_true, ↓branch_false, Nat.reduceBEq, Nat.reduceAdd, Nat.reduceMul, Nat.reduceSub, Int.reduceToNat, reduceCtorEq, branch_decide, branch_not, branch_beq, branch_bne]
                exact ⟨_, _, vwk_head (f' := fun x k => [.v (.int .i64 (f5 k))]) (fun _ _ _ _ => rfl), f5, rfl, rfl, fin _ _ (i4) i5⟩
              · exact ⟨_, _, vwk_head (f' := fun x k => [.v (.int .i64 (f4 k))]) (fun _ _ _ _ => rfl), f4, rfl, rfl, fin _ _ (i4) (N2 _ (i4) (by omega))⟩
              · exact ⟨_, _, vwk_head (f' := fun x k => [.v (.int .i64 (f4 k))]) (fun _ _ _ _ => rfl), f4, rfl, rfl, fin _ _ (i4) (N2 _ (i4) (by omega))⟩
            · refine ⟨fun u3 => ⟨fun u4 => ?_, fun u4 => ?_⟩, fun u3 => ?_⟩
              · refine sp_mono (I2 _ (N1 (by omega)) (by omega) (by omega)) ?_
                rintro r H' ⟨f5, rfl, rfl, i5⟩
                simp only [push_cast, ↓branch_true, ↓branch_false, Nat.reduceBEq, Nat.reduceAdd, Nat.reduceMul, Nat.reduceSub, Int.reduceToNat, reduceCtorEq, branch_decide, branch_not, branch_beq, branch_bne]
                exact ⟨_, _, vwk_head (f' := fun x k => [.v (.int .i64 (f5 k))]) (fun _ _ _ _ => rfl), f5, rfl, rfl, fin _ _ (N1 (by omega)) i5⟩
              · exact ⟨_, _, vwk_head (f' := fun x k => [.v (.int .i64 (G k))]) (fun _ _ _ _ => rfl), G, rfl, rfl, fin _ _ (N1 (by omega)) (N2 _ (N1 (by omega)) (by omega))⟩
              · exact ⟨_, _, vwk_head (f' := fun x k => [.v (.int .i64 (G k))]) (fun _ _ _ _ => rfl), G, rfl, rfl, fin _ _ (N1 (by omega)) (N2 _ (N1 (by omega)) (by omega))⟩
            · refine ⟨fun u3 => ⟨fun u4 => ?_, fun u4 => ?_⟩, fun u3 => ?_⟩
              · refine sp_mono (I2 _ (N1 (by omega)) (by omega) (by omega)) ?_
                rintro r H' ⟨f5, rfl, rfl, i5⟩
                simp only [push_cast, ↓branch_true, ↓branch_false, Nat.reduceBEq, Nat.reduceAdd, Nat.reduceMul, Nat.reduceSub, Int.reduceToNat, reduceCtorEq, branch_decide, branch_not, branch_beq, branch_bne]
                exact ⟨_, _, vwk_head (f' := fun x k => [.v (.int .i64 (f5 k))]) (fun _ _ _ _ => rfl), f5, rfl, rfl, fin _ _ (N1 (by omega)) i5⟩
              · exact ⟨_, _, vwk_head (f' := fun x k => [.v (.int .i64 (G k))]) (fun _ _ _ _ => rfl), G, rfl, rfl, fin _ _ (N1 (by omega)) (N2 _ (N1 (by omega)) (by omega))⟩
              · exact ⟨_, _, vwk_head (f' := fun x k => [.v (.int .i64 (G k))]) (fun _ _ _ _ => rfl), G, rfl, rfl, fin _ _ (N1 (by omega)) (N2 _ (N1 (by omega)) (by omega))⟩
          · obtain rfl : G = f := hr1 (by omega)
            refine ⟨fun u1 => ⟨fun u2 => ?_, fun u2 => ?_⟩, fun u1 => ?_⟩
            · refine sp_mono (I1 (by omega) (by omega)) ?_
              rintro r H' ⟨f4, rfl, rfl, i4⟩
              simp only [push_cast, ↓branch_true, ↓branch_false, Nat.reduceBEq, Nat.reduceAdd, Nat.reduceMul, Nat.reduceSub, Int.reduceToNat, reduceCtorEq, branch_decide, branch_not, branch_beq, branch_bne]
              refine ⟨fun u3 => ⟨fun u4 => ?_, fun u4 => ?_⟩, fun u3 => ?_⟩
              · refine sp_mono (I2 _ (i4) (by omega) (by omega)) ?_
                rintro r H' ⟨f5, rfl, rfl, i5⟩
                simp only [push_cast, ↓branch_true, ↓branch_false, Nat.reduceBEq, Nat.reduceAdd, Nat.reduceMul, Nat.reduceSub, Int.reduceToNat, reduceCtorEq, branch_decide, branch_not, branch_beq, branch_bne]
                exact ⟨_, _, vwk_head (f' := fun x k => [.v (.int .i64 (f5 k))]) (fun _ _ _ _ => rfl), f5, rfl, rfl, fin _ _ (i4) i5⟩
              · exact ⟨_, _, vwk_head (f' := fun x k => [.v (.int .i64 (f4 k))]) (fun _ _ _ _ => rfl), f4, rfl, rfl, fin _ _ (i4) (N2 _ (i4) (by omega))⟩
              · exact ⟨_, _, vwk_head (f' := fun x k => [.v (.int .i64 (f4 k))]) (fun _ _ _ _ => rfl), f4, rfl, rfl, fin _ _ (i4) (N2 _ (i4) (by omega))⟩
            · refine ⟨fun u3 => ⟨fun u4 => ?_, fun u4 => ?_⟩, fun u3 => ?_⟩
              · refine sp_mono (I2 _ (N1 (by omega)) (by omega) (by omega)) ?_
                rintro r H' ⟨f5, rfl, rfl, i5⟩
                simp only [push_cast, ↓branch_true, ↓branch_false, Nat.reduceBEq, Nat.reduceAdd, Nat.reduceMul, Nat.reduceSub, Int.reduceToNat, reduceCtorEq, branch_decide, branch_not, branch_beq, branch_bne]
                exact ⟨_, _, vwk_head (f' := fun x k => [.v (.int .i64 (f5 k))]) (fun _ _ _ _ => rfl), f5, rfl, rfl, fin _ _ (N1 (by omega)) i5⟩
              · exact ⟨_, _, vwk_head (f' := fun x k => [.v (.int .i64 (G k))]) (fun _ _ _ _ => rfl), G, rfl, rfl, fin _ _ (N1 (by omega)) (N2 _ (N1 (by omega)) (by omega))⟩
              · exact ⟨_, _, vwk_head (f' := fun x k => [.v (.int .i64 (G k))]) (fun _ _ _ _ => rfl), G, rfl, rfl, fin _ _ (N1 (by omega)) (N2 _ (N1 (by omega)) (by omega))⟩
            · refine ⟨fun u3 => ⟨fun u4 => ?_, fun u4 => ?_⟩, fun u3 => ?_⟩
              · refine sp_mono (I2 _ (N1 (by omega)) (by omega) (by omega)) ?_
                rintro r H' ⟨f5, rfl, rfl, i5⟩
                simp only [push_cast, ↓branch_true, ↓branch_false, Nat.reduceBEq, Nat.reduceAdd, Nat.reduceMul, Nat.reduceSub, Int.reduceToNat, reduceCtorEq, branch_decide, branch_not, branch_beq, branch_bne]
                exact ⟨_, _, vwk_head (f' := fun x k => [.v (.int .i64 (f5 k))]) (fun _ _ _ _ => rfl), f5, rfl, rfl, fin _ _ (N1 (by omega)) i5⟩
              · exact ⟨_, _, vwk_head (f' := fun x k => [.v (.int .i64 (G k))]) (fun _ _ _ _ => rfl), G, rfl, rfl, fin _ _ (N1 (by omega)) (N2 _ (N1 (by omega)) (by omega))⟩
              · exact ⟨_, _, vwk_head (f' := fun x k => [.v (.int .i64 (G k))]) (fun _ _ _ _ => rfl), G, rfl, rfl, fin _ _ (N1 (by omega)) (N2 _ (N1 (by omega)) (by omega))⟩
end Go.Proofs.Ythlpfjcjfhdmaaa
