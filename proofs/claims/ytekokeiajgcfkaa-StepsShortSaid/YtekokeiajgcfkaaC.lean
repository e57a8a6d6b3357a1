/- Contracts: short, the reference's Short. -/
import Derived.Test.YtekokeiajgcfkaaB
set_option maxRecDepth 100000
set_option linter.unusedSimpArgs false
set_option linter.unusedVariables false
namespace Go.Proofs.Ytekokeiajgcfkaa
open Go.RowKit
def shortL (last : Int) : List Stp → List Stp
  | [] => []
  | p :: l => if p.v = last then shortL p.v l else p :: shortL p.v l
/-- A row of steps of one's own. -/
def rSO (l : List Stp) (cap : Nat) : Ob := ⟨33, false, .row 2 1 (fun _ => l.length) (fun _ => cap) (fun _ k => cSt (ix l k))⟩
attribute [push_cast] rSO
theorem shortL_len : ∀ (l : List Stp) (n : Int), (shortL n l).length ≤ l.length
  | [], _ => Nat.le_refl _
  | p :: l, n => by
    have := shortL_len l p.v
    rw [shortL]
    split
    · simp only [List.length_cons]; omega
    · simp only [List.length_cons]; omega
theorem app_st {p q : List Stp} {v : Stp} (e : q = p ++ [v]) (rl : List Nat) : q.length ≤ p.length + 1 ∧ ∀ k, k < q.length → Value.int IntKind.i64 (ix q k).x = Value.int IntKind.i64 (bif decide (k < p.length) then (ix p k).x else v.x) ∧ Value.int IntKind.i64 (ix q k).v = Value.int IntKind.i64 (bif decide (k < p.length) then (ix p k).v else v.v) ∧ mtL rl [] (bif decide (k < p.length) then [] else []) := by
  subst e
  refine ⟨by simp, fun k hk => ?_⟩
  have h2 : mtL rl [] (bif decide (k < p.length) then ([] : List SV) else []) := by cases decide (k < p.length) <;> simp [mtL]
  refine ⟨?_, ?_, h2⟩
  all_goals
    rw [ix_eq hk]
    by_cases h : k < p.length
    · simp [h, ix_eq h, List.getElem_append_left h]
    · have : k = p.length := by simp at hk; omega
      subst this
      simp
theorem short_sp (l : List Stp) (c : Nat) (hl : l.length ≤ 1000000) : Sp Try.prog 49 [.s 0 0 0 l.length c 2] [rSt l] (fun r H => ∃ cap, (shortL 0 l).length ≤ cap ∧ r = .s 1 0 0 (shortL 0 l).length cap 2 ∧ H = [rSt l, rSO (shortL 0 l) cap]) := by
  refine sp_weak ?_
  refine sp_of_ex true [] mixed Try.call49 Try.func49 rfl Try.ntmps49 Try.results49 (by decide +kernel) rfl ?_
  simp only [push_cast, ↓branch_true, ↓branch_false, Nat.reduceBEq, Nat.reduceAdd, Nat.reduceMul, Nat.reduceSub, Int.reduceToNat, reduceCtorEq, branch_decide, branch_not, branch_beq, branch_bne]
  refine tr_loop mixed (by kernel_rfl) (fun (x : Nat × Int × List Stp × Nat) => [(9, .v (.int .i64 x.1)), (8, .v (.int .i64 l.length)), (7, .s 0 0 0 l.length c 2), (4, .v (.int .i64 x.2.1)), (3, .s 1 0 0 x.2.2.1.length x.2.2.2 2)])
    (fun x => [rSt l, rSO x.2.2.1 x.2.2.2]) (fun x => x.1 ≤ l.length ∧ x.2.2.1.length ≤ x.2.2.2 ∧ x.2.2.1.length ≤ x.1 ∧ shortL 0 l = x.2.2.1 ++ shortL x.2.1 (l.drop x.1)) (fun x => l.length - x.1) (0, 0, [], 0) ⟨Nat.zero_le _, Nat.le_refl _, Nat.zero_le _, rfl⟩ (Mt.wk (rl := [0, 1]) ⟨by kernel_rfl, ?_, ?_⟩) ?_
  · simp only [push_cast, ↓branch_true, ↓branch_false, Nat.reduceBEq, Nat.reduceAdd, Nat.reduceMul, Nat.reduceSub, Int.reduceToNat, reduceCtorEq, branch_decide, branch_not, branch_beq, branch_bne]
  · simp only [push_cast, ↓branch_true, ↓branch_false, Nat.reduceBEq, Nat.reduceAdd, Nat.reduceMul, Nat.reduceSub, Int.reduceToNat, reduceCtorEq, branch_decide, branch_not, branch_beq, branch_bne]
  rintro ⟨k, last, out, cap⟩ ⟨h1, h2, h3, h4⟩
  simp only at h1 h2 h3 h4
  simp only [push_cast, ↓branch_true, ↓branch_false, Nat.reduceBEq, Nat.reduceAdd, Nat.reduceMul, Nat.reduceSub, Int.reduceToNat, reduceCtorEq, branch_decide, branch_not, branch_beq, branch_bne]
  refine ⟨fun h => ?_, fun h => ?_⟩
  · repeat (with_reducible refine And.intro (by omega) ?_)
    rw [drop_ix (by omega), shortL] at h4
    refine ⟨fun h6 => ?_, fun h6 => ?_⟩
    · repeat (with_reducible refine And.intro (by omega) ?_)
      rw [if_pos h6] at h4
      refine lpK_normal (k + 1, (ix l k).v, out, cap) [0, 1] ⟨by simp only; omega, h2, by simp only; omega, h4⟩ (by simp only; omega) (by kernel_rfl) ?_ ?_
      · simp only [push_cast, ↓branch_true, ↓branch_false, Nat.reduceBEq, Nat.reduceAdd, Nat.reduceMul, Nat.reduceSub, Int.reduceToNat, reduceCtorEq, branch_decide, branch_not, branch_beq, branch_bne]
      · simp only [push_cast, ↓branch_true, ↓branch_false, Nat.reduceBEq, Nat.reduceAdd, Nat.reduceMul, Nat.reduceSub, Int.reduceToNat, reduceCtorEq, branch_decide, branch_not, branch_beq, branch_bne]
    · repeat (with_reducible refine And.intro (by omega) ?_)
      rw [if_neg h6] at h4
      refine .inr ?_
      repeat (with_reducible refine And.intro (by omega) ?_)
      intro cap2 hcap2
      repeat (with_reducible refine And.intro (by omega) ?_)
      refine lpK_normal (k + 1, (ix l k).v, out ++ [ix l k], cap2) [0, 4] ⟨by simp only; omega, by simp only [List.length_append, List.length_cons, List.length_nil]; omega, by simp only [List.length_append, List.length_cons, List.length_nil]; omega, by simp only [List.append_assoc]; exact h4⟩ (by simp only; omega) (by kernel_rfl) ?_ ?_
      · simp only [push_cast, ↓branch_true, ↓branch_false, Nat.reduceBEq, Nat.reduceAdd, Nat.reduceMul, Nat.reduceSub, Int.reduceToNat, reduceCtorEq, branch_decide, branch_not, branch_beq, branch_bne]
        simp
      · simp only [push_cast, ↓branch_true, ↓branch_false, Nat.reduceBEq, Nat.reduceAdd, Nat.reduceMul, Nat.reduceSub, Int.reduceToNat, reduceCtorEq, branch_decide, branch_not, branch_beq, branch_bne]
        exact fun i hi => app_st rfl _
  · have e : shortL 0 l = out := by rw [h4, List.drop_eq_nil_of_le (by omega), shortL, List.append_nil]
    rw [e]
    refine ⟨_, _, [0, 1], ?_, by kernel_rfl, ?_, cap, h2, rfl, rfl⟩
    · simp only [push_cast, ↓branch_true, ↓branch_false, Nat.reduceBEq, Nat.reduceAdd, Nat.reduceMul, Nat.reduceSub, Int.reduceToNat, reduceCtorEq, branch_decide, branch_not, branch_beq, branch_bne]
    · simp only [push_cast, ↓branch_true, ↓branch_false, Nat.reduceBEq, Nat.reduceAdd, Nat.reduceMul, Nat.reduceSub, Int.reduceToNat, reduceCtorEq, branch_decide, branch_not, branch_beq, branch_bne]
theorem rshort_sp (l : List Stp) (c : Nat) (hl : l.length ≤ 1000000) : Sp Try.prog 30 [.s 0 0 0 l.length c 2] [rSt l] (fun r H => ∃ cap, (shortL 0 l).length ≤ cap ∧ r = .s 1 0 0 (shortL 0 l).length cap 2 ∧ H = [rSt l, rSO (shortL 0 l) cap]) := by
  refine sp_weak ?_
  refine sp_of_ex true [] mixed Try.call30 Try.func30 rfl Try.ntmps30 Try.results30 (by decide +kernel) rfl ?_
  simp only [push_cast, ↓branch_true, ↓branch_false, Nat.reduceBEq, Nat.reduceAdd, Nat.reduceMul, Nat.reduceSub, Int.reduceToNat, reduceCtorEq, branch_decide, branch_not, branch_beq, branch_bne]
  refine tr_loop mixed (by kernel_rfl) (fun (x : Nat × Int × List Stp × Nat) => [(5, .v (.int .i64 x.1)), (0, .s 0 0 0 l.length c 2), (4, .v (.int .i64 x.2.1)), (3, .s 1 0 0 x.2.2.1.length x.2.2.2 2)])
    (fun x => [rSt l, rSO x.2.2.1 x.2.2.2]) (fun x => x.1 ≤ l.length ∧ x.2.2.1.length ≤ x.2.2.2 ∧ x.2.2.1.length ≤ x.1 ∧ shortL 0 l = x.2.2.1 ++ shortL x.2.1 (l.drop x.1)) (fun x => l.length - x.1) (0, 0, [], 0) ⟨Nat.zero_le _, Nat.le_refl _, Nat.zero_le _, rfl⟩ (Mt.wk (rl := [0, 1]) ⟨by kernel_rfl, ?_, ?_⟩) ?_
  · simp only [push_cast, ↓branch_true, ↓branch_false, Nat.reduceBEq, Nat.reduceAdd, Nat.reduceMul, Nat.reduceSub, Int.reduceToNat, reduceCtorEq, branch_decide, branch_not, branch_beq, branch_bne]
  · simp only [push_cast, ↓branch_true, ↓branch_false, Nat.reduceBEq, Nat.reduceAdd, Nat.reduceMul, Nat.reduceSub, Int.reduceToNat, reduceCtorEq, branch_decide, branch_not, branch_beq, branch_bne]
  rintro ⟨k, last, out, cap⟩ ⟨h1, h2, h3, h4⟩
  simp only at h1 h2 h3 h4
  simp only [push_cast, ↓branch_true, ↓branch_false, Nat.reduceBEq, Nat.reduceAdd, Nat.reduceMul, Nat.reduceSub, Int.reduceToNat, reduceCtorEq, branch_decide, branch_not, branch_beq, branch_bne]
  refine ⟨fun h => ?_, fun h => ?_⟩
  · repeat (with_reducible refine And.intro (by omega) ?_)
    rw [drop_ix (by omega), shortL] at h4
    refine ⟨fun h6 => ?_, fun h6 => ?_⟩
    · repeat (with_reducible refine And.intro (by omega) ?_)
      rw [if_pos h6] at h4
      refine lpK_normal (k + 1, (ix l k).v, out, cap) [0, 1] ⟨by simp only; omega, h2, by simp only; omega, h4⟩ (by simp only; omega) (by kernel_rfl) ?_ ?_
      · simp only [push_cast, ↓branch_true, ↓branch_false, Nat.reduceBEq, Nat.reduceAdd, Nat.reduceMul, Nat.reduceSub, Int.reduceToNat, reduceCtorEq, branch_decide, branch_not, branch_beq, branch_bne]
      · simp only [push_cast, ↓branch_true, ↓branch_false, Nat.reduceBEq, Nat.reduceAdd, Nat.reduceMul, Nat.reduceSub, Int.reduceToNat, reduceCtorEq, branch_decide, branch_not, branch_beq, branch_bne]
    · repeat (with_reducible refine And.intro (by omega) ?_)
      rw [if_neg h6] at h4
      refine .inr ?_
      repeat (with_reducible refine And.intro (by omega) ?_)
      intro cap2 hcap2
      repeat (with_reducible refine And.intro (by omega) ?_)
      refine lpK_normal (k + 1, (ix l k).v, out ++ [ix l k], cap2) [0, 3] ⟨by simp only; omega, by simp only [List.length_append, List.length_cons, List.length_nil]; omega, by simp only [List.length_append, List.length_cons, List.length_nil]; omega, by simp only [List.append_assoc]; exact h4⟩ (by simp only; omega) (by kernel_rfl) ?_ ?_
      · simp only [push_cast, ↓branch_true, ↓branch_false, Nat.reduceBEq, Nat.reduceAdd, Nat.reduceMul, Nat.reduceSub, Int.reduceToNat, reduceCtorEq, branch_decide, branch_not, branch_beq, branch_bne]
        simp
      · simp only [push_cast, ↓branch_true, ↓branch_false, Nat.reduceBEq, Nat.reduceAdd, Nat.reduceMul, Nat.reduceSub, Int.reduceToNat, reduceCtorEq, branch_decide, branch_not, branch_beq, branch_bne]
        exact fun i hi => app_st rfl _
  · have e : shortL 0 l = out := by rw [h4, List.drop_eq_nil_of_le (by omega), shortL, List.append_nil]
    rw [e]
    refine ⟨_, _, [0, 1], ?_, by kernel_rfl, ?_, cap, h2, rfl, rfl⟩
    · simp only [push_cast, ↓branch_true, ↓branch_false, Nat.reduceBEq, Nat.reduceAdd, Nat.reduceMul, Nat.reduceSub, Int.reduceToNat, reduceCtorEq, branch_decide, branch_not, branch_beq, branch_bne]
    · simp only [push_cast, ↓branch_true, ↓branch_false, Nat.reduceBEq, Nat.reduceAdd, Nat.reduceMul, Nat.reduceSub, Int.reduceToNat, reduceCtorEq, branch_decide, branch_not, branch_beq, branch_bne]
end Go.Proofs.Ytekokeiajgcfkaa
