/- Contract: the law about runs. -/
import Derived.Test.YtgbldceimdjblaaR
set_option maxRecDepth 100000
set_option linter.unusedSimpArgs false
set_option linter.unusedVariables false
namespace Go.Proofs.Ytgbldceimdjblaa
open Go.RowKit
theorem rorder2_pu (n : Int) (o : List Int) (c : Nat) (hn : n ≤ 9223372036854775806) (hl : o.length ≤ 9223372036854775807) : Pu Try.prog 22 [.v (.int .i64 n), .s 0 0 0 o.length c 1] [rInt 3 o] (.v (.int .i64 (ordE n o))) := by
  by_cases h : o.length ≤ 9223372036854775806
  · exact rorder_pu n o c h
  refine pu_of_ex true [] mixed Try.call22 Try.func22 rfl Try.ntmps22 Try.results22 (by decide +kernel) rfl rfl rfl ?_
  simp only [push_cast, ↓branch_true, ↓branch_false, Nat.reduceBEq, Nat.reduceAdd, Nat.reduceMul, Nat.reduceSub, Int.reduceToNat, reduceCtorEq, branch_decide, branch_not, branch_beq, branch_bne]
  refine ⟨fun h2 => by omega, fun h2 => ?_⟩
  simp [ordE, show ¬(o.length : Int) = n by omega]
theorem runs_sp (l : List Jb) (o : List Int) (c co : Nat) (hlc : l.length ≤ c) (hoc : o.length ≤ co) (hl : l.length ≤ 9223372036854775807) (ho : o.length ≤ 9223372036854775807) :
    Sp Try.prog 6 [.s 0 0 0 l.length c 3, .s 1 0 0 o.length co 1] [rJb l, rInt 3 o] trueK := by
  refine sp_of_ex true [] mixed Try.call6 Try.func6 rfl Try.ntmps6 Try.results6 (by decide +kernel) rfl ?_
  simp only [push_cast, ↓branch_true, ↓branch_false, Nat.reduceBEq, Nat.reduceAdd, Nat.reduceMul, Nat.reduceSub, Int.reduceToNat, reduceCtorEq, branch_decide, branch_not, branch_beq, branch_bne]
  refine sp_at awake_sp [] rfl ?_ ?_ ?_
  · simp only [push_cast, ↓branch_true, ↓branch_false, Nat.reduceBEq, Nat.reduceAdd, Nat.reduceMul, Nat.reduceSub, Int.reduceToNat, reduceCtorEq, branch_decide, branch_not, branch_beq, branch_bne]
  · simp only [push_cast, ↓branch_true, ↓branch_false, Nat.reduceBEq, Nat.reduceAdd, Nat.reduceMul, Nat.reduceSub, Int.reduceToNat, reduceCtorEq, branch_decide, branch_not, branch_beq, branch_bne]
  rintro r0 H1 ⟨rfl, rfl⟩
  simp only [push_cast, ↓branch_true, ↓branch_false, Nat.reduceBEq, Nat.reduceAdd, Nat.reduceMul, Nat.reduceSub, Int.reduceToNat, reduceCtorEq, branch_decide, branch_not, branch_beq, branch_bne]
  refine ⟨fun _ => rfl, fun h20 => ?_⟩
  refine sp_call (long_pu l c) rfl [0] rfl (by simp only [push_cast, ↓branch_true, ↓branch_false, Nat.reduceBEq, Nat.reduceAdd, Nat.reduceMul, Nat.reduceSub, Int.reduceToNat, reduceCtorEq, branch_decide, branch_not, branch_beq, branch_bne]) (by simp only [push_cast, ↓branch_true, ↓branch_false, Nat.reduceBEq, Nat.reduceAdd, Nat.reduceMul, Nat.reduceSub, Int.reduceToNat, reduceCtorEq, branch_decide, branch_not, branch_beq, branch_bne]) ?_
  simp only [push_cast, ↓branch_true, ↓branch_false, Nat.reduceBEq, Nat.reduceAdd, Nat.reduceMul, Nat.reduceSub, Int.reduceToNat, reduceCtorEq, branch_decide, branch_not, branch_beq, branch_bne]
  cases hlo : longB l
  case true =>
    simp only [push_cast, ↓branch_true, ↓branch_false, Nat.reduceBEq, Nat.reduceAdd, Nat.reduceMul, Nat.reduceSub, Int.reduceToNat, reduceCtorEq, branch_decide, branch_not, branch_beq, branch_bne]
    rfl
  simp only [push_cast, ↓branch_true, ↓branch_false, Nat.reduceBEq, Nat.reduceAdd, Nat.reduceMul, Nat.reduceSub, Int.reduceToNat, reduceCtorEq, branch_decide, branch_not, branch_beq, branch_bne]
  refine sp_call (rvalid_pu l c hl) rfl [0] rfl (by simp only [push_cast, ↓branch_true, ↓branch_false, Nat.reduceBEq, Nat.reduceAdd, Nat.reduceMul, Nat.reduceSub, Int.reduceToNat, reduceCtorEq, branch_decide, branch_not, branch_beq, branch_bne]) (by simp only [push_cast, ↓branch_true, ↓branch_false, Nat.reduceBEq, Nat.reduceAdd, Nat.reduceMul, Nat.reduceSub, Int.reduceToNat, reduceCtorEq, branch_decide, branch_not, branch_beq, branch_bne]) ?_
  simp only [push_cast, ↓branch_true, ↓branch_false, Nat.reduceBEq, Nat.reduceAdd, Nat.reduceMul, Nat.reduceSub, Int.reduceToNat, reduceCtorEq, branch_decide, branch_not, branch_beq, branch_bne]
  cases hv : validB l
  case false =>
    simp only [push_cast, ↓branch_true, ↓branch_false, Nat.reduceBEq, Nat.reduceAdd, Nat.reduceMul, Nat.reduceSub, Int.reduceToNat, reduceCtorEq, branch_decide, branch_not, branch_beq, branch_bne]
    rfl
  simp only [push_cast, ↓branch_true, ↓branch_false, Nat.reduceBEq, Nat.reduceAdd, Nat.reduceMul, Nat.reduceSub, Int.reduceToNat, reduceCtorEq, branch_decide, branch_not, branch_beq, branch_bne]
  refine sp_call (rorder2_pu l.length o co (by omega) ho) rfl [1] rfl (by simp only [push_cast, ↓branch_true, ↓branch_false, Nat.reduceBEq, Nat.reduceAdd, Nat.reduceMul, Nat.reduceSub, Int.reduceToNat, reduceCtorEq, branch_decide, branch_not, branch_beq, branch_bne]) (by simp only [push_cast, ↓branch_true, ↓branch_false, Nat.reduceBEq, Nat.reduceAdd, Nat.reduceMul, Nat.reduceSub, Int.reduceToNat, reduceCtorEq, branch_decide, branch_not, branch_beq, branch_bne]) ?_
  simp only [push_cast, ↓branch_true, ↓branch_false, Nat.reduceBEq, Nat.reduceAdd, Nat.reduceMul, Nat.reduceSub, Int.reduceToNat, reduceCtorEq, branch_decide, branch_not, branch_beq, branch_bne]
  refine ⟨fun h0 => ?_, fun _ => rfl⟩
  have hg : givenE l o = 0 := by simp [givenE, hv, h0]
  have hs : startN l o = l.length := by simp [startN, hg]
  have hlv : lengthV l o = (runR l o).fin := by simp [lengthV, hg]
  obtain ⟨o1, o2⟩ := ordE_0 h0
  have hl60 := validB_len hv
  have F := run_f hv o1 (fun j hj => ⟨(o2 j hj).1, (o2 j hj).2.1⟩) (fun j i hj hi => (o2 j hj).2.2 i hi)
  have hbd := run_bound hv (fun j hj => ⟨(o2 j hj).1, (o2 j hj).2.1⟩) o.length (Nat.le_refl _)
  rw [List.take_length] at hbd
  have hs1 := starts_sp l o c co hlc hoc hl (by omega)
  have hl1 := length_sp l o c co hlc hoc hl (by omega)
  rw [hs, hg] at hs1
  rw [hlv, hg] at hl1
  generalize runR l o = R at F hbd hs1 hl1
  refine sp_at hs1 [0, 1] rfl ?_ ?_ ?_
  · simp only [push_cast, ↓branch_true, ↓branch_false, Nat.reduceBEq, Nat.reduceAdd, Nat.reduceMul, Nat.reduceSub, Int.reduceToNat, reduceCtorEq, branch_decide, branch_not, branch_beq, branch_bne]
  · simp only [push_cast, ↓branch_true, ↓branch_false, Nat.reduceBEq, Nat.reduceAdd, Nat.reduceMul, Nat.reduceSub, Int.reduceToNat, reduceCtorEq, branch_decide, branch_not, branch_beq, branch_bne]
  rintro r0 H1 ⟨rfl, rfl⟩
  simp only [push_cast, ↓branch_true, ↓branch_false, Nat.reduceBEq, Nat.reduceAdd, Nat.reduceMul, Nat.reduceSub, Int.reduceToNat, reduceCtorEq, branch_decide, branch_not, branch_beq, branch_bne]
  refine sp_at hl1 [0, 1] rfl ?_ ?_ ?_
  · simp only [push_cast, ↓branch_true, ↓branch_false, Nat.reduceBEq, Nat.reduceAdd, Nat.reduceMul, Nat.reduceSub, Int.reduceToNat, reduceCtorEq, branch_decide, branch_not, branch_beq, branch_bne]
  · simp only [push_cast, ↓branch_true, ↓branch_false, Nat.reduceBEq, Nat.reduceAdd, Nat.reduceMul, Nat.reduceSub, Int.reduceToNat, reduceCtorEq, branch_decide, branch_not, branch_beq, branch_bne]
  rintro r0 H1 ⟨rfl, rfl⟩
  simp only [push_cast, ↓branch_true, ↓branch_false, Nat.reduceBEq, Nat.reduceAdd, Nat.reduceMul, Nat.reduceSub, Int.reduceToNat, reduceCtorEq, branch_decide, branch_not, branch_beq, branch_bne]
  intro _ _ _ _
  have eN : ∀ k, k ≤ l.length → 0 ≤ endN l R k ∧ endN l R k ≤ R.fin := fun k hk => by
    induction k with
    | zero => simp only [endN]; omega
    | succ k ih =>
      have := ih (by omega)
      have := F.one k (by omega)
      simp only [endN]
      omega
  refine tr_loop mixed (by kernel_rfl) (fun (i : Nat) => [(71, .v (.int .i64 i)), (70, .v (.int .i64 l.length)), (69, .s 0 0 0 l.length c 3), (10, .v (.int .i64 (endN l R i))), (8, .v (.int .i64 R.fin)), (5, .s 2 0 0 l.length l.length 1), (6, .s 3 0 0 l.length l.length 1), (0, .s 0 0 0 l.length c 3)])
    (fun _ => [rJb l, rInt 3 o, rOwn 3 l.length l.length R.cut, rOwn 3 l.length l.length R.bent]) (fun i => i ≤ l.length) (fun i => l.length - i) 0 (Nat.zero_le _) (Mt.wk (rl := [0, 1, 2, 3]) ⟨by kernel_rfl, ?_, ?_⟩) ?_
  · simp only [push_cast, ↓branch_true, ↓branch_false, Nat.reduceBEq, Nat.reduceAdd, Nat.reduceMul, Nat.reduceSub, Int.reduceToNat, reduceCtorEq, branch_decide, branch_not, branch_beq, branch_bne]
    rfl
  · simp only [push_cast, ↓branch_true, ↓branch_false, Nat.reduceBEq, Nat.reduceAdd, Nat.reduceMul, Nat.reduceSub, Int.reduceToNat, reduceCtorEq, branch_decide, branch_not, branch_beq, branch_bne]
  intro i hi
  simp only [push_cast, ↓branch_true, ↓branch_false, Nat.reduceBEq, Nat.reduceAdd, Nat.reduceMul, Nat.reduceSub, Int.reduceToNat, reduceCtorEq, branch_decide, branch_not, branch_beq, branch_bne]
  refine ⟨fun h => ?_, fun h => ?_⟩
  · have hi2 : i < l.length := by omega
    have f1 := F.one i hi2
    have v1 := validB_at hv hi2
    have e1 := eN i hi
    repeat (with_reducible refine And.intro (by omega) ?_)
    intro _
    repeat (with_reducible refine And.intro (by omega) ?_)
    intro _
    repeat (with_reducible refine And.intro (by omega) ?_)
    refine tr_loop mixed (by kernel_rfl) (fun (k : Nat) => [(108, .v (.int .i64 k)), (107, .v (.int .i64 i)), (106, .s 0 0 0 i (c - 0) 3), (11, .v (.int .i64 i)), (12, .p 4 0 0), (71, .v (.int .i64 i)), (70, .v (.int .i64 l.length)), (69, .s 0 0 0 l.length c 3), (10, .v (.int .i64 (max (endN l R i) (R.bent i + (ix l i).bend)))), (8, .v (.int .i64 R.fin)), (5, .s 2 0 0 l.length l.length 1), (6, .s 3 0 0 l.length l.length 1), (0, .s 0 0 0 l.length c 3)])
      (fun _ => [rJb l, rInt 3 o, rOwn 3 l.length l.length R.cut, rOwn 3 l.length l.length R.bent, stW (ix l i)]) (fun k => k ≤ i) (fun k => i - k) 0 (Nat.zero_le _) (Mt.wk (rl := [0, 1, 2, 3, 4]) ⟨by kernel_rfl, ?_, ?_⟩) ?_
    · simp only [push_cast, ↓branch_true, ↓branch_false, Nat.reduceBEq, Nat.reduceAdd, Nat.reduceMul, Nat.reduceSub, Int.reduceToNat, reduceCtorEq, branch_decide, branch_not, branch_beq, branch_bne]
      simp
    · simp only [push_cast, ↓branch_true, ↓branch_false, Nat.reduceBEq, Nat.reduceAdd, Nat.reduceMul, Nat.reduceSub, Int.reduceToNat, reduceCtorEq, branch_decide, branch_not, branch_beq, branch_bne]
    intro k hk
    simp only [push_cast, ↓branch_true, ↓branch_false, Nat.reduceBEq, Nat.reduceAdd, Nat.reduceMul, Nat.reduceSub, Int.reduceToNat, reduceCtorEq, branch_decide, branch_not, branch_beq, branch_bne]
    refine ⟨fun h2 => ?_, fun h2 => ?_⟩
    · have hk2 : k < i := by omega
      have g1 := F.one k (by omega)
      have w1 := validB_at hv (show k < l.length by omega)
      obtain ⟨t1, t2⟩ := F.two i k hi2 hk2
      repeat' (with_reducible (first | apply And.intro | intro _))
      all_goals try omega
      all_goals
        refine lpK_normal (k + 1) [0, 1, 2, 3, 4] (by omega) (by omega) (by kernel_rfl) ?_ ?_
        · simp only [push_cast, ↓branch_true, ↓branch_false, Nat.reduceBEq, Nat.reduceAdd, Nat.reduceMul, Nat.reduceSub, Int.reduceToNat, reduceCtorEq, branch_decide, branch_not, branch_beq, branch_bne]
        · simp only [push_cast, ↓branch_true, ↓branch_false, Nat.reduceBEq, Nat.reduceAdd, Nat.reduceMul, Nat.reduceSub, Int.reduceToNat, reduceCtorEq, branch_decide, branch_not, branch_beq, branch_bne]
    · obtain rfl : k = i := by omega
      repeat (with_reducible refine And.intro (by omega) ?_)
      refine lpK_normal (k + 1) [0, 1, 2, 3] (by omega) (by omega) (by kernel_rfl) ?_ ?_
      · simp only [push_cast, ↓branch_true, ↓branch_false, Nat.reduceBEq, Nat.reduceAdd, Nat.reduceMul, Nat.reduceSub, Int.reduceToNat, reduceCtorEq, branch_decide, branch_not, branch_beq, branch_bne]
        rfl
      · simp only [push_cast, ↓branch_true, ↓branch_false, Nat.reduceBEq, Nat.reduceAdd, Nat.reduceMul, Nat.reduceSub, Int.reduceToNat, reduceCtorEq, branch_decide, branch_not, branch_beq, branch_bne]
  · obtain rfl : i = l.length := by omega
    rw [F.fin]
    simp [trueK]
end Go.Proofs.Ytgbldceimdjblaa
