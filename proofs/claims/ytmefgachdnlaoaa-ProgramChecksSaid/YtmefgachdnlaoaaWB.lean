/- Contract: short, for three lists. -/
import Derived.Test.YtmefgachdnlaoaaW
set_option maxRecDepth 100000
set_option linter.unusedSimpArgs false
set_option linter.unusedVariables false
namespace Go.Proofs.Ytmefgachdnlaoaa
open Go.RowKit Lp
/-- A list of three lists of fractions. -/
def rL3 (n1 c1 n2 c2 n3 c3 : Nat) : Ob := ⟨28, true, .row 1 1 (fun _ => 3) (fun _ => 3) (fun _ => rowF [.s 1 0 0 n1 c1 2, .s 2 0 0 n2 c2 2, .s 3 0 0 n3 c3 2] 1)⟩
attribute [push_cast] rL3
section
variable (n1 c1 n2 c2 n3 c3 : Nat) (N1 D1 N2 D2 N3 D3 : Nat → Int)
theorem long3_pu (f n cap : Nat) (hn : n ≤ 9223372036854775807) : Pu Try.prog 44 [.s f 0 0 n cap 2] [rL3 n1 c1 n2 c2 n3 c3, rFi n1 c1 N1 D1, rFi n2 c2 N2 D2, rFi n3 c3 N3 D3] (.v (.bool (decide (20 < n)))) := by
  refine pu_of_ex true [] mixed Try.call44 Try.func44 rfl Try.ntmps44 Try.results44 (by decide +kernel) rfl rfl rfl ?_
  simp only [push_cast, ↓branch_true, ↓branch_false, Nat.reduceBEq, Nat.reduceAdd, Nat.reduceMul, Nat.reduceSub, Int.reduceToNat, reduceCtorEq, Int.reduceAdd, Int.reduceEq, Int.reduceLE, Int.reduceLT, Nat.reduceLT, Nat.reduceLeDiff]
  exact vb (by rw [decide_eq_decide]; omega)
def lg3 (k : Nat) : Bool := bif k == 0 then decide (20 < n1) else bif k == 1 then decide (20 < n2) else decide (20 < n3)
theorem index3_pu (h1 : n1 ≤ 9223372036854775807) (h2 : n2 ≤ 9223372036854775807) (h3 : n3 ≤ 9223372036854775807) : Pu Try.prog 94 [.s 0 0 0 3 3 1, .f (.func 44) [] []] [rL3 n1 c1 n2 c2 n3 c3, rFi n1 c1 N1 D1, rFi n2 c2 N2 D2, rFi n3 c3 N3 D3] (.v (.int .i64 (ent (lg3 n1 n2 n3) 3))) := by
  have p1 := long3_pu n1 c1 n2 c2 n3 c3 N1 D1 N2 D2 N3 D3 1 n1 c1 h1
  have p2 := long3_pu n1 c1 n2 c2 n3 c3 N1 D1 N2 D2 N3 D3 2 n2 c2 h2
  have p3 := long3_pu n1 c1 n2 c2 n3 c3 N1 D1 N2 D2 N3 D3 3 n3 c3 h3
  refine pu_of_ex true [] mixed Try.call94 Try.func94 rfl Try.ntmps94 Try.results94 (by decide +kernel) rfl rfl rfl ?_
  simp only [push_cast, ↓branch_true, ↓branch_false, Nat.reduceBEq, Nat.reduceAdd, Nat.reduceMul, Nat.reduceSub, Int.reduceToNat, reduceCtorEq, Int.reduceAdd, Int.reduceEq, Int.reduceLE, Int.reduceLT, Nat.reduceLT, Nat.reduceLeDiff]
  refine tr_loop0 mixed (by kernel_rfl) (fun (k : Nat) => [(8, .v (.int .i64 k)), (7, .v (.int .i64 3)), (0, .s 0 0 0 3 3 1), (1, .f (.func 44) [] [])]) (fun k => k ≤ 3 ∧ ∀ j, j < k → lg3 n1 n2 n3 j = false) (fun k => 3 - k) 0 ⟨Nat.zero_le _, fun j h => by omega⟩ ?_ ?_
  · simp only [push_cast, ↓branch_true, ↓branch_false, Nat.reduceBEq, Nat.reduceAdd, Nat.reduceMul, Nat.reduceSub, Int.reduceToNat, reduceCtorEq, Int.reduceAdd, Int.reduceEq, Int.reduceLE, Int.reduceLT, Nat.reduceLT, Nat.reduceLeDiff]
  · rintro k ⟨hk, hn2⟩
    have hstep : lg3 n1 n2 n3 k = false → ∀ j, j < k + 1 → lg3 n1 n2 n3 j = false := fun h j hj => by
      by_cases e : j = k
      · rw [e]; exact h
      · exact hn2 j (by omega)
    obtain rfl | rfl | rfl | rfl : k = 0 ∨ k = 1 ∨ k = 2 ∨ k = 3 := by omega
    · simp only [push_cast, ↓branch_true, ↓branch_false, Nat.reduceBEq, Nat.reduceAdd, Nat.reduceMul, Nat.reduceSub, Int.reduceToNat, reduceCtorEq, Int.reduceAdd, Int.reduceEq, Int.reduceLE, Int.reduceLT, Nat.reduceLT, Nat.reduceLeDiff]
      refine sp_pu (by simpa only [push_cast] using p1) ?_
      simp only [push_cast, ↓branch_true, ↓branch_false, Nat.reduceBEq, Nat.reduceAdd, Nat.reduceMul, Nat.reduceSub, Int.reduceToNat, reduceCtorEq, Int.reduceAdd, Int.reduceEq, Int.reduceLE, Int.reduceLT, Nat.reduceLT, Nat.reduceLeDiff]
      refine ⟨fun h => ?_, fun h => ?_⟩
      · rw [ent_is (j := 0) (by decide) (show lg3 n1 n2 n3 0 = true from decide_eq_true (by omega)) (fun i hi => hn2 i hi)]
        rfl
      · refine lp0_normal 1 ⟨by decide, hstep (show lg3 n1 n2 n3 0 = false from decide_eq_false (by omega))⟩ (by decide) ?_
        simp only [push_cast, ↓branch_true, ↓branch_false, Nat.reduceBEq, Nat.reduceAdd, Nat.reduceMul, Nat.reduceSub, Int.reduceToNat, reduceCtorEq, Int.reduceAdd, Int.reduceEq, Int.reduceLE, Int.reduceLT, Nat.reduceLT, Nat.reduceLeDiff]
        try trivial
    · simp only [push_cast, ↓branch_true, ↓branch_false, Nat.reduceBEq, Nat.reduceAdd, Nat.reduceMul, Nat.reduceSub, Int.reduceToNat, reduceCtorEq, Int.reduceAdd, Int.reduceEq, Int.reduceLE, Int.reduceLT, Nat.reduceLT, Nat.reduceLeDiff]
      refine sp_pu (by simpa only [push_cast] using p2) ?_
      simp only [push_cast, ↓branch_true, ↓branch_false, Nat.reduceBEq, Nat.reduceAdd, Nat.reduceMul, Nat.reduceSub, Int.reduceToNat, reduceCtorEq, Int.reduceAdd, Int.reduceEq, Int.reduceLE, Int.reduceLT, Nat.reduceLT, Nat.reduceLeDiff]
      refine ⟨fun h => ?_, fun h => ?_⟩
      · rw [ent_is (j := 1) (by decide) (show lg3 n1 n2 n3 1 = true from decide_eq_true (by omega)) (fun i hi => hn2 i hi)]
        rfl
      · refine lp0_normal 2 ⟨by decide, hstep (show lg3 n1 n2 n3 1 = false from decide_eq_false (by omega))⟩ (by decide) ?_
        simp only [push_cast, ↓branch_true, ↓branch_false, Nat.reduceBEq, Nat.reduceAdd, Nat.reduceMul, Nat.reduceSub, Int.reduceToNat, reduceCtorEq, Int.reduceAdd, Int.reduceEq, Int.reduceLE, Int.reduceLT, Nat.reduceLT, Nat.reduceLeDiff]
        try trivial
    · simp only [push_cast, ↓branch_true, ↓branch_false, Nat.reduceBEq, Nat.reduceAdd, Nat.reduceMul, Nat.reduceSub, Int.reduceToNat, reduceCtorEq, Int.reduceAdd, Int.reduceEq, Int.reduceLE, Int.reduceLT, Nat.reduceLT, Nat.reduceLeDiff]
      refine sp_pu (by simpa only [push_cast] using p3) ?_
      simp only [push_cast, ↓branch_true, ↓branch_false, Nat.reduceBEq, Nat.reduceAdd, Nat.reduceMul, Nat.reduceSub, Int.reduceToNat, reduceCtorEq, Int.reduceAdd, Int.reduceEq, Int.reduceLE, Int.reduceLT, Nat.reduceLT, Nat.reduceLeDiff]
      refine ⟨fun h => ?_, fun h => ?_⟩
      · rw [ent_is (j := 2) (by decide) (show lg3 n1 n2 n3 2 = true from decide_eq_true (by omega)) (fun i hi => hn2 i hi)]
        rfl
      · refine lp0_normal 3 ⟨by decide, hstep (show lg3 n1 n2 n3 2 = false from decide_eq_false (by omega))⟩ (by decide) ?_
        simp only [push_cast, ↓branch_true, ↓branch_false, Nat.reduceBEq, Nat.reduceAdd, Nat.reduceMul, Nat.reduceSub, Int.reduceToNat, reduceCtorEq, Int.reduceAdd, Int.reduceEq, Int.reduceLE, Int.reduceLT, Nat.reduceLT, Nat.reduceLeDiff]
        try trivial
    · simp only [push_cast, ↓branch_true, ↓branch_false, Nat.reduceBEq, Nat.reduceAdd, Nat.reduceMul, Nat.reduceSub, Int.reduceToNat, reduceCtorEq, Int.reduceAdd, Int.reduceEq, Int.reduceLE, Int.reduceLT, Nat.reduceLT, Nat.reduceLeDiff]
      rw [ent_no fun j hj => hn2 j hj]
end
theorem list3 (n1 c1 n2 c2 n3 c3 : Nat) : ∀ (i : Nat), i < 1 → ∀ (k : Nat), k < 3 → mtL [0, 1, 2, 3] (List.take 1 (List.drop (k * 1) [SV.s 1 0 0 n1 c1 2, SV.s 2 0 0 n2 c2 2, SV.s 3 0 0 n3 c3 2])) (List.take 1 (List.drop (k * 1) [SV.s 1 0 0 n1 c1 2, SV.s 2 0 0 n2 c2 2, SV.s 3 0 0 n3 c3 2])) := fun i _ k hk => by
  obtain rfl | rfl | rfl : k = 0 ∨ k = 1 ∨ k = 2 := by omega
  · exact (by (simp only [push_cast, ↓branch_true, ↓branch_false, Nat.reduceBEq, Nat.reduceAdd, Nat.reduceMul, Nat.reduceSub, Int.reduceToNat, reduceCtorEq, Int.reduceAdd, Int.reduceEq, Int.reduceLE, Int.reduceLT, Nat.reduceLT, Nat.reduceLeDiff]) : mtL [0, 1, 2, 3] [SV.s 1 0 0 n1 c1 2] [SV.s 1 0 0 n1 c1 2])
  · exact (by (simp only [push_cast, ↓branch_true, ↓branch_false, Nat.reduceBEq, Nat.reduceAdd, Nat.reduceMul, Nat.reduceSub, Int.reduceToNat, reduceCtorEq, Int.reduceAdd, Int.reduceEq, Int.reduceLE, Int.reduceLT, Nat.reduceLT, Nat.reduceLeDiff]) : mtL [0, 1, 2, 3] [SV.s 2 0 0 n2 c2 2] [SV.s 2 0 0 n2 c2 2])
  · exact (by (simp only [push_cast, ↓branch_true, ↓branch_false, Nat.reduceBEq, Nat.reduceAdd, Nat.reduceMul, Nat.reduceSub, Int.reduceToNat, reduceCtorEq, Int.reduceAdd, Int.reduceEq, Int.reduceLE, Int.reduceLT, Nat.reduceLT, Nat.reduceLeDiff]) : mtL [0, 1, 2, 3] [SV.s 3 0 0 n3 c3 2] [SV.s 3 0 0 n3 c3 2])
theorem short3_pu (n1 c1 n2 c2 n3 c3 : Nat) (N1 D1 N2 D2 N3 D3 : Nat → Int) (h1 : n1 ≤ 9223372036854775807) (h2 : n2 ≤ 9223372036854775807) (h3 : n3 ≤ 9223372036854775807) : Pu Try.prog 13 [.s 0 0 0 3 3 1] [rL3 n1 c1 n2 c2 n3 c3, rFi n1 c1 N1 D1, rFi n2 c2 N2 D2, rFi n3 c3 N3 D3] (.v (.bool (decide (n1 ≤ 20 ∧ n2 ≤ 20 ∧ n3 ≤ 20)))) := by
  have h := index3_pu n1 c1 n2 c2 n3 c3 N1 D1 N2 D2 N3 D3 h1 h2 h3
  have he : (!decide (0 ≤ ent (lg3 n1 n2 n3) 3)) = decide (n1 ≤ 20 ∧ n2 ≤ 20 ∧ n3 ≤ 20) := by
    rw [ent_all, Bool.not_not, decide_eq_decide]
    constructor
    · intro h
      have e1 : decide (20 < n1) = false := h 0 (by decide)
      have e2 : decide (20 < n2) = false := h 1 (by decide)
      have e3 : decide (20 < n3) = false := h 2 (by decide)
      rw [decide_eq_false_iff_not] at e1 e2 e3
      omega
    · intro ⟨e1, e2, e3⟩ k hk
      obtain rfl | rfl | rfl : k = 0 ∨ k = 1 ∨ k = 2 := by omega
      · exact decide_eq_false (by omega)
      · exact decide_eq_false (by omega)
      · exact decide_eq_false (by omega)
  rw [← he]
  clear he
  generalize ent (lg3 n1 n2 n3) 3 = E at *
  have hc : Pu Try.prog 43 [.s 0 0 0 3 3 1, .f (.func 44) [] []] [rL3 n1 c1 n2 c2 n3 c3, rFi n1 c1 N1 D1, rFi n2 c2 N2 D2, rFi n3 c3 N3 D3] (.v (.bool (decide (0 ≤ E)))) := by
    refine pu_of_ex true [] mixed Try.call43 Try.func43 rfl Try.ntmps43 Try.results43 (by decide +kernel) rfl rfl rfl ?_
    simp only [push_cast, ↓branch_true, ↓branch_false, Nat.reduceBEq, Nat.reduceAdd, Nat.reduceMul, Nat.reduceSub, Int.reduceToNat, reduceCtorEq, Int.reduceAdd, Int.reduceEq, Int.reduceLE, Int.reduceLT, Nat.reduceLT, Nat.reduceLeDiff]
    refine sp_call h rfl [0, 1, 2, 3] rfl ?_ ?_ ?_
    · simp only [push_cast, ↓branch_true, ↓branch_false, Nat.reduceBEq, Nat.reduceAdd, Nat.reduceMul, Nat.reduceSub, Int.reduceToNat, reduceCtorEq, Int.reduceAdd, Int.reduceEq, Int.reduceLE, Int.reduceLT, Nat.reduceLT, Nat.reduceLeDiff]
    · simp only [push_cast, ↓branch_true, ↓branch_false, Nat.reduceBEq, Nat.reduceAdd, Nat.reduceMul, Nat.reduceSub, Int.reduceToNat, reduceCtorEq, Int.reduceAdd, Int.reduceEq, Int.reduceLE, Int.reduceLT, Nat.reduceLT, Nat.reduceLeDiff]
      exact list3 n1 c1 n2 c2 n3 c3
    simp only [push_cast, ↓branch_true, ↓branch_false, Nat.reduceBEq, Nat.reduceAdd, Nat.reduceMul, Nat.reduceSub, Int.reduceToNat, reduceCtorEq, Int.reduceAdd, Int.reduceEq, Int.reduceLE, Int.reduceLT, Nat.reduceLT, Nat.reduceLeDiff]
  refine pu_of_ex true [] mixed Try.call13 Try.func13 rfl Try.ntmps13 Try.results13 (by decide +kernel) rfl rfl rfl ?_
  simp only [push_cast, ↓branch_true, ↓branch_false, Nat.reduceBEq, Nat.reduceAdd, Nat.reduceMul, Nat.reduceSub, Int.reduceToNat, reduceCtorEq, Int.reduceAdd, Int.reduceEq, Int.reduceLE, Int.reduceLT, Nat.reduceLT, Nat.reduceLeDiff]
  refine sp_call hc rfl [0, 1, 2, 3] rfl ?_ ?_ ?_
  · simp only [push_cast, ↓branch_true, ↓branch_false, Nat.reduceBEq, Nat.reduceAdd, Nat.reduceMul, Nat.reduceSub, Int.reduceToNat, reduceCtorEq, Int.reduceAdd, Int.reduceEq, Int.reduceLE, Int.reduceLT, Nat.reduceLT, Nat.reduceLeDiff]
  · simp only [push_cast, ↓branch_true, ↓branch_false, Nat.reduceBEq, Nat.reduceAdd, Nat.reduceMul, Nat.reduceSub, Int.reduceToNat, reduceCtorEq, Int.reduceAdd, Int.reduceEq, Int.reduceLE, Int.reduceLT, Nat.reduceLT, Nat.reduceLeDiff]
    exact list3 n1 c1 n2 c2 n3 c3
  simp only [push_cast, ↓branch_true, ↓branch_false, Nat.reduceBEq, Nat.reduceAdd, Nat.reduceMul, Nat.reduceSub, Int.reduceToNat, reduceCtorEq, Int.reduceAdd, Int.reduceEq, Int.reduceLE, Int.reduceLT, Nat.reduceLT, Nat.reduceLeDiff]
end Go.Proofs.Ytmefgachdnlaoaa
