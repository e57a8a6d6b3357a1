/- Contract: fits. -/
import Derived.Test.YtdeaaonppokgkaaL
set_option maxRecDepth 100000
set_option linter.unusedSimpArgs false
set_option linter.unusedVariables false
namespace Go.Proofs.Ytdeaaonppokgkaa
open Go.RowKit Lp
set_option maxHeartbeats 8000000 in
theorem fits_pu (p : Pm) (hp : PmOk p) : Pu Try.prog 70 [svP p] (obP p) (.v (.bool (fitB p))) := by
  have hn := hp.n
  have hm := hp.m
  have hmc := hp.mc
  have hnc := hp.nc
  have hfz := p.fzm
  have hfl := fun t ht => fcs_le hp (t := t) ht
  have hf0 := hfl 0 (by omega)
  have hs0 : szs p.co 0 p.n = fcs p 0 := rfl
  have hsu := sum_pu 1 0 (fun _ => p.n) (fun _ => p.nc) (fun _ => p.co) 0 (by decide) (by show p.n ≤ _; omega) (by show szs p.co 0 p.n ≤ _; omega)
  simp only [hs0] at hsu
  refine pu_of_ex true [] mixed Try.call70 Try.func70 rfl Try.ntmps70 Try.results70 (by decide +kernel) rfl rfl rfl ?_
  simp only [push_cast, ↓branch_true, ↓branch_false, Nat.reduceBEq, Nat.reduceAdd, Nat.reduceMul, Nat.reduceSub, Int.reduceToNat, reduceCtorEq, Int.reduceAdd, Int.reduceEq, Int.reduceLE, Int.reduceLT, Nat.reduceLT, Nat.reduceLeDiff]
  refine sp_c hsu rfl [0] ?_
  simp only [push_cast, ↓branch_true, ↓branch_false, Nat.reduceBEq, Nat.reduceAdd, Nat.reduceMul, Nat.reduceSub, Int.reduceToNat, reduceCtorEq, Int.reduceAdd, Int.reduceEq, Int.reduceLE, Int.reduceLT, Nat.reduceLT, Nat.reduceLeDiff]
  refine tr_loop mixed (by kernel_rfl) (fun (x : Nat × Nat) => [(18, .v (.int .i64 x.1)), (17, .v (.int .i64 p.m)), (16, .s 1 0 0 p.m p.mc 3), (4, .s 4 0 0 (x.1 + 1) x.2 1), (3, .f (.func 93) [] []), (1, .p 3 0 0)])
    (fun x => obP p ++ [oBx p, oI (x.1 + 1) x.2 (fun t => (fcs p t : Nat))]) (fun x => x.1 ≤ p.m ∧ x.1 + 1 ≤ x.2) (fun x => p.m - x.1) (0, 1) ⟨Nat.zero_le _, Nat.le_refl _⟩ (Mt.wk (rl := [0, 1, 2, 3, 4]) ⟨by kernel_rfl, ?_, ?_⟩) ?_
  · simp only [push_cast, ↓branch_true, ↓branch_false, Nat.reduceBEq, Nat.reduceAdd, Nat.reduceMul, Nat.reduceSub, Int.reduceToNat, reduceCtorEq, Int.reduceAdd, Int.reduceEq, Int.reduceLE, Int.reduceLT, Nat.reduceLT, Nat.reduceLeDiff]
    try trivial
  · simp only [push_cast, ↓branch_true, ↓branch_false, Nat.reduceBEq, Nat.reduceAdd, Nat.reduceMul, Nat.reduceSub, Int.reduceToNat, reduceCtorEq, Int.reduceAdd, Int.reduceEq, Int.reduceLE, Int.reduceLT, Nat.reduceLT, Nat.reduceLeDiff]
    intro i _ k hk
    obtain rfl : k = 0 := by omega
    simp only [push_cast, ↓branch_true, ↓branch_false, Nat.reduceBEq, Nat.reduceAdd, Nat.reduceMul, Nat.reduceSub, Int.reduceToNat, reduceCtorEq, Int.reduceAdd, Int.reduceEq, Int.reduceLE, Int.reduceLT, Nat.reduceLT, Nat.reduceLeDiff]
  rintro ⟨k, cap⟩ ⟨hk, hcap⟩
  simp only at hk hcap
  simp only [push_cast, ↓branch_true, ↓branch_false, Nat.reduceBEq, Nat.reduceAdd, Nat.reduceMul, Nat.reduceSub, Int.reduceToNat, reduceCtorEq, Int.reduceAdd, Int.reduceEq, Int.reduceLE, Int.reduceLT, Nat.reduceLT, Nat.reduceLeDiff]
  refine ⟨fun h1 => ?_, fun h1 => ?_⟩
  · have hkm : k < p.m := by omega
    have hln := hp.ln k hkm
    have hbb := hp.b k hkm
    repeat (with_reducible refine And.intro (by omega) ?_)
    have hft : fcs p (k + 1) = szs (p.a k) (p.b k) (p.ln k) := by rw [hln]; rfl
    have hfk := hfl (k + 1) (by omega)
    have hs1 := sum_pu p.fz k p.ln p.cp p.a (p.b k) (by omega) (by omega) (by rw [← hft]; omega)
    rw [← hft] at hs1
    refine sp_c hs1 rfl [2] ?_
    simp only [push_cast, ↓branch_true, ↓branch_false, Nat.reduceBEq, Nat.reduceAdd, Nat.reduceMul, Nat.reduceSub, Int.reduceToNat, reduceCtorEq, Int.reduceAdd, Int.reduceEq, Int.reduceLE, Int.reduceLT, Nat.reduceLT, Nat.reduceLeDiff]
    repeat (with_reducible refine And.intro (by omega) ?_)
    refine Or.inr ⟨by omega, by omega, fun c2 hc2 => ?_⟩
    repeat (with_reducible refine And.intro (by omega) ?_)
    refine lpK_normal (k + 1, c2) [0, 1, 2, 3, 7] ⟨by simp only; omega, by simp only; omega⟩ (by simp only; omega) (by kernel_rfl) ?_ ?_
    · simp only [push_cast, ↓branch_true, ↓branch_false, Nat.reduceBEq, Nat.reduceAdd, Nat.reduceMul, Nat.reduceSub, Int.reduceToNat, reduceCtorEq, Int.reduceAdd, Int.reduceEq, Int.reduceLE, Int.reduceLT, Nat.reduceLT, Nat.reduceLeDiff]
    · simp only [push_cast, ↓branch_true, ↓branch_false, Nat.reduceBEq, Nat.reduceAdd, Nat.reduceMul, Nat.reduceSub, Int.reduceToNat, reduceCtorEq, Int.reduceAdd, Int.reduceEq, Int.reduceLE, Int.reduceLT, Nat.reduceLT, Nat.reduceLeDiff]
      exact lf3 (fun t => ((fcs p t : Nat) : Int))
  · obtain rfl : k = p.m := by omega
    repeat (with_reducible refine And.intro (by omega) ?_)
    refine tr_loop0 mixed (by kernel_rfl) (fun (j : Nat) => [(34, .v (.int .i64 j)), (33, .v (.int .i64 ((p.m : Int) + 1))), (32, .s 4 0 0 (p.m + 1) cap 1), (7, .v (.int .i64 (prd j (fcs p) : Nat))), (4, .s 4 0 0 (p.m + 1) cap 1)]) (fun j => j ≤ p.m + 1 ∧ (∀ q, q < j → prd q (fcs p) ≤ 17592186044416 / fcs p q) ∧ prd j (fcs p) ≤ 17592186044416) (fun j => p.m + 1 - j) 0 ⟨Nat.zero_le _, fun q hq => absurd hq (Nat.not_lt_zero _), by rw [prd]; omega⟩ ?_ ?_
    · simp only [push_cast, ↓branch_true, ↓branch_false, Nat.reduceBEq, Nat.reduceAdd, Nat.reduceMul, Nat.reduceSub, Int.reduceToNat, reduceCtorEq, Int.reduceAdd, Int.reduceEq, Int.reduceLE, Int.reduceLT, Nat.reduceLT, Nat.reduceLeDiff]
      rfl
    rintro j ⟨hj, hq, hb⟩
    have hqu : (17592186044416 : Int).tdiv ((fcs p j : Nat) : Int) = ((17592186044416 / fcs p j : Nat) : Int) := (Int.ofNat_tdiv 17592186044416 (fcs p j)).symm
    have hq2 : 17592186044416 / fcs p j ≤ 17592186044416 := Nat.div_le_self _ _
    have hfp := fcs_pos p j
    obtain ⟨Z, hZ⟩ : ∃ Z : Nat, Z = 17592186044416 / fcs p j := ⟨_, rfl⟩
    rw [← hZ] at hqu hq2
    simp only [push_cast, ↓branch_true, ↓branch_false, Nat.reduceBEq, Nat.reduceAdd, Nat.reduceMul, Nat.reduceSub, Int.reduceToNat, reduceCtorEq, Int.reduceAdd, Int.reduceEq, Int.reduceLE, Int.reduceLT, Nat.reduceLT, Nat.reduceLeDiff, hqu]
    refine ⟨fun h2 => ?_, fun h2 => ?_⟩
    · have hjm : j < p.m + 1 := by omega
      have hfj := hfl j hjm
      repeat (with_reducible refine And.intro (by omega) ?_)
      refine ⟨fun h3 => ?_, fun h3 => ?_⟩
      · refine vb ?_
        unfold fitB
        rw [decide_eq_false (fun h => by have := h j hjm; rw [← hZ] at this; omega), Bool.false_and]
      · have h4 : prd j (fcs p) ≤ 17592186044416 / fcs p j := by rw [← hZ]; omega
        have h5 : prd (j + 1) (fcs p) = prd j (fcs p) * fcs p j := rfl
        have h6 := (Nat.le_div_iff_mul_le hfp).1 h4
        rw [← h5] at h6
        have h7 : ((prd j (fcs p) : Nat) : Int) * ((fcs p j : Nat) : Int) = ((prd (j + 1) (fcs p) : Nat) : Int) := by rw [h5, Int.natCast_mul]
        simp only [push_cast, ↓branch_true, ↓branch_false, Nat.reduceBEq, Nat.reduceAdd, Nat.reduceMul, Nat.reduceSub, Int.reduceToNat, reduceCtorEq, Int.reduceAdd, Int.reduceEq, Int.reduceLE, Int.reduceLT, Nat.reduceLT, Nat.reduceLeDiff, h7]
        repeat (with_reducible refine And.intro (by omega) ?_)
        refine lp0_normal (j + 1) ⟨by omega, fun q hqj => ?_, h6⟩ (by omega) ?_
        · by_cases e : q = j
          · rw [e]; exact h4
          · exact hq q (by omega)
        · simp only [push_cast, ↓branch_true, ↓branch_false, Nat.reduceBEq, Nat.reduceAdd, Nat.reduceMul, Nat.reduceSub, Int.reduceToNat, reduceCtorEq, Int.reduceAdd, Int.reduceEq, Int.reduceLE, Int.reduceLT, Nat.reduceLT, Nat.reduceLeDiff]
    · obtain rfl : j = p.m + 1 := by omega
      have hmx := max_pu (p.m + 1) cap (fcs p) (by omega) (by omega)
      refine sp_c hmx rfl [4] ?_
      simp only [push_cast, ↓branch_true, ↓branch_false, Nat.reduceBEq, Nat.reduceAdd, Nat.reduceMul, Nat.reduceSub, Int.reduceToNat, reduceCtorEq, Int.reduceAdd, Int.reduceEq, Int.reduceLE, Int.reduceLT, Nat.reduceLT, Nat.reduceLeDiff]
      have hx1 := mxk_ge (fcs p) (show 0 < p.m + 1 by omega)
      have hx2 := fcs_pos p 0
      have hqm : (144115188075855872 : Int).tdiv ((mxk (fcs p) (p.m + 1) : Nat) : Int) = ((144115188075855872 / mxk (fcs p) (p.m + 1) : Nat) : Int) := (Int.ofNat_tdiv 144115188075855872 _).symm
      have hqm2 : 144115188075855872 / mxk (fcs p) (p.m + 1) ≤ 144115188075855872 := Nat.div_le_self _ _
      have hfi : fitB p = (decide (∀ q, q < p.m + 1 → prd q (fcs p) ≤ 17592186044416 / fcs p q) && decide (prd (p.m + 1) (fcs p) ≤ 144115188075855872 / mxk (fcs p) (p.m + 1))) := rfl
      rw [decide_eq_true hq, Bool.true_and] at hfi
      generalize 144115188075855872 / mxk (fcs p) (p.m + 1) = Z at *
      rw [hqm]
      refine ⟨by omega, by omega, vb ?_⟩
      rw [hfi, decide_eq_decide]
      omega
end Go.Proofs.Ytdeaaonppokgkaa
