/- StepsShort: slices.Insert of one step. -/
import Derived.Test.YtekokeiajgcfkaaC
import Derived.Lib.Overlaps
set_option maxRecDepth 100000
set_option linter.unusedSimpArgs false
set_option linter.unusedVariables false
namespace Go.Proofs.Ytekokeiajgcfkaa
open Go.RowKit
theorem insL_len {l : List Stp} {i : Nat} {p : Stp} (hi : i ≤ l.length) : (l.take i ++ p :: l.drop i).length = l.length + 1 := by
  simp; omega
theorem insL_ix {l : List Stp} {i k : Nat} {p : Stp} (hi : i ≤ l.length) (hk : k < l.length + 1) : ix (l.take i ++ p :: l.drop i) k = if k < i then ix l k else if k = i then p else ix l (k - 1) := by
  rw [ix_eq (by rw [insL_len hi]; exact hk)]
  by_cases h : k < i
  · rw [if_pos h, List.getElem_append_left (by simp; omega), List.getElem_take, ix_eq]
  · rw [if_neg h, List.getElem_append_right (by simp; omega)]
    by_cases h2 : k = i
    · subst h2
      rw [if_pos rfl]
      simp [Nat.min_eq_left hi]
    · rw [if_neg h2]
      have e : k - (l.take i).length = (k - 1 - i) + 1 := by simp [Nat.min_eq_left hi]; omega
      rw [ix_eq (by omega)]
      simp only [e, List.getElem_cons_succ, List.getElem_drop]
      congr 1
      omega
theorem appF_lt {n1 n2 k : Nat} {old new : Nat → List SV} (h : k < n1) : appF n1 n2 old new k = old k := by
  unfold appF
  simp only [h, decide_true]
  split <;> exact mrgL_yes _ _
theorem over_ok (l : List Stp) (cap : Nat) (p : Stp) (o n c : Nat) (hc : 0 < c) (hcap : 0 < cap) : XtOk Try.prog 50 [.s 1 0 0 1 1 2, .s 0 0 o n c 2] [rSO l cap, rSO [p] 1] (.bool false) := by
  intro β w vals hI ha
  simp only [OkL, Ok] at ha
  obtain ⟨u, us, rfl, ⟨A, rfl, _, hA⟩, u2, us2, rfl, ⟨B, rfl, _, hB⟩, rfl⟩ := ha
  obtain ⟨g1, b1, hb1, rfl⟩ := hA (by omega)
  obtain ⟨g0, b0, hb0, rfl⟩ := hB hc
  have o0 := hI.ob 0 _ rfl
  have o1 := hI.ob 1 _ rfl
  unfold ObOk rSO at o0 o1
  simp only [Bool.false_eq_true, if_false] at o0 o1
  rcases o0 0 (by omega) with ⟨_, z⟩ | ⟨g0', cur0, p1, p2, p3, _⟩
  · omega
  rcases o1 0 (by omega) with ⟨_, z⟩ | ⟨g1', cur1, q1, q2, q3, _⟩
  · omega
  rw [p1] at hb0
  rw [q1] at hb1
  obtain ⟨rfl, rfl⟩ : g0' = g0 ∧ 0 = b0 := by simpa using hb0
  obtain ⟨rfl, rfl⟩ : g1' = g1 ∧ 0 = b1 := by simpa using hb1
  have hne : g1' ≠ g0' := fun e => by
    subst e
    have := (hI.sep 1 0 0 0 _ _ g1' 0 0 rfl rfl ⟨Nat.zero_lt_one, rfl, Nat.zero_lt_one⟩ ⟨Nat.zero_lt_one, fun h => (by cases h), fun _ => hcap⟩ q1 p1).1
    omega
  have hz : ∀ w, (Go.sizeOf 33).run Try.prog w = .ok 2 w := fun w => by
    have hcz : Try.prog.cellsOf 33 = 2 := by kernel_rfl
    unfold Program.cellsOf at hcz
    cases hq : Try.prog.info? 33 with
    | none => rw [hq] at hcz; simp at hcz
    | some ie =>
      rw [hq] at hcz
      have hcz : ie.size = 2 := hcz
      simp [sizeOf, typeInfo, hq, hcz]
  rw [run_callFunc_extern (f := 50) (fn := Try.f50) (e := Extern.SlicesOverlaps.overlaps #[22, 22] #[4]) (by kernel_rfl) (by kernel_rfl) (by kernel_rfl) (by kernel_rfl) (by kernel_rfl)]
  rw [show ([Value.slice (some ⟨g1', 0 + 0 * 2, none⟩) 1 1, Value.slice (some ⟨g0', 0 + o * 2, none⟩) n c] : List Value).toArray = #[.slice (some ⟨g1', 0 + 0 * 2, none⟩) 1 1, .slice (some ⟨g0', 0 + o * 2, none⟩) n c] from rfl]
  rw [Lib.run_overlaps_apart w 22 4 33 Try.underlying22 2 hz _ _ 1 1 n c hne 33 33 cur1.size cur0.size (by simp [World.shape?, q2]) (by simp [World.shape?, p2]) (by rw [p3]; omega) (by simp [World.frozen?, q2]) (by simp [World.frozen?, q2])]
  rfl
set_option maxHeartbeats 4000000 in
theorem insert_sp (l : List Stp) (cap i : Nat) (p : Stp) (hi : i ≤ l.length) (hl : l.length ≤ 1000) (hcap : l.length ≤ cap) :
    Sp Try.prog 34 [.s 0 0 0 l.length cap 2, .v (.int .i64 i), .s 1 0 0 1 1 2] [rSO l cap, rSO [p] 1]
      (fun r H => ∃ oc, l.length + 1 ≤ oc ∧ r = .s 2 0 0 (l.length + 1) oc 2 ∧ H = [deadOb, rSO [p] 1, rSO (l.take i ++ p :: l.drop i) oc]) := by
  refine sp_weak ?_
  refine sp_of_exa true true [(11, .one 0 (.one 1 (.one 2 (.one 3 (.one 4 (.one 5 (.one 6 (.one 7 (.one 8 .fin))))))))), (15, .one 0 (.one 1 (.one 2 (.one 3 (.one 4 (.one 5 (.one 6 (.one 7 (.one 8 .fin)))))))))] mixed Try.call34 Try.func34 rfl Try.ntmps34 Try.results34 (by decide +kernel) rfl ?_
  simp only [push_cast, ↓branch_true, ↓branch_false, Nat.reduceBEq, Nat.reduceAdd, Nat.reduceMul, Nat.reduceSub, Int.reduceToNat, reduceCtorEq, branch_decide, branch_not, branch_beq, branch_bne]
  refine ⟨by omega, by omega, fun h => absurd h (by omega), fun _ => ⟨fun h1 => ?_, fun h1 => ?_⟩⟩
  · obtain rfl : i = l.length := by omega
    refine ⟨by omega, .inr (.inl ?_)⟩
    repeat (with_reducible refine And.intro (by omega) ?_)
    intro oc hoc
    refine ⟨_, _, [0, 1, 2], ?_, ?_, ?_, oc, hoc, rfl, rfl⟩
    · simp only [push_cast, ↓branch_true, ↓branch_false, Nat.reduceBEq, Nat.reduceAdd, Nat.reduceMul, Nat.reduceSub, Int.reduceToNat, reduceCtorEq, branch_decide, branch_not, branch_beq, branch_bne]
    · kernel_rfl
    · simp only [push_cast, ↓branch_true, ↓branch_false, Nat.reduceBEq, Nat.reduceAdd, Nat.reduceMul, Nat.reduceSub, Int.reduceToNat, reduceCtorEq, branch_decide, branch_not, branch_beq, branch_bne]
      refine fun q hq => ⟨by rw [insL_len hi]; omega, fun k hk => ?_⟩
      rw [insL_len hi] at hk
      rw [insL_ix hi (by omega)]
      by_cases e : k < l.length
      · simp [e, mtL]
      · obtain rfl : k = l.length := by omega
        simp [mtL, ix_eq]
  have hi' : i < l.length := by omega
  repeat (with_reducible refine And.intro (by omega) ?_)
  refine ⟨fun h2 => ?_, fun h2 => ?_⟩
  · have e1 : ((l.length : Int) + (0 + 1) - (i : Int)).toNat = l.length + 1 - i := by omega
    have e2 : ((i : Int) + (0 + 1)).toNat = i + 1 := by omega
    have e4 : i + (l.length + 1 - i) = l.length + 1 := by omega
    have e5 : min 1 (l.length + 1 - i) = 1 := by omega
    have e6 : min (l.length - i) (l.length + 1 - (i + 1)) = l.length - i := by omega
    simp only [Nat.sub_zero, e1, e2, e4, e5, e6]
    repeat (with_reducible refine And.intro (by omega) ?_)
    intro oc hoc
    repeat (with_reducible refine And.intro (by omega) ?_)
    refine .inl ?_
    repeat' (first | (with_reducible apply And.intro) | omega | (unfold srcOk; split <;> simp [lenP, lenIs, ones, one1]; done))
    refine .inl ?_
    repeat' (first | (with_reducible apply And.intro) | omega | (unfold srcOk; split <;> simp [lenP, lenIs, ones, one1]; done))
    refine ⟨_, _, [0, 1, 2], ?_, ?_, ?_, oc, hoc, rfl, rfl⟩
    · simp only [push_cast, ↓branch_true, ↓branch_false, Nat.reduceBEq, Nat.reduceAdd, Nat.reduceMul, Nat.reduceSub, Int.reduceToNat, reduceCtorEq, branch_decide, branch_not, branch_beq, branch_bne]
    · kernel_rfl
    · simp only [push_cast, ↓branch_true, ↓branch_false, Nat.reduceBEq, Nat.reduceAdd, Nat.reduceMul, Nat.reduceSub, Int.reduceToNat, reduceCtorEq, branch_decide, branch_not, branch_beq, branch_bne]
      refine fun q hq => ⟨by rw [insL_len hi]; omega, fun k hk => ?_⟩
      obtain rfl : q = 0 := by omega
      rw [insL_len hi] at hk
      rw [insL_ix hi (by omega)]
      simp only [beq_self_eq_true, Bool.true_and]
      by_cases e : k < i
      · rw [if_pos e, show (decide (i + 1 ≤ k) && decide (k < i + 1 + (l.length - i))) = false by simp; omega, show (decide (i ≤ k) && decide (k < i + 1)) = false by simp; omega, mrgL_no, mrgL_no, appF_lt e]
        simp only [push_cast, ↓branch_true, ↓branch_false, Nat.reduceBEq, Nat.reduceAdd, Nat.reduceMul, Nat.reduceSub, Int.reduceToNat, reduceCtorEq, branch_decide, branch_not, branch_beq, branch_bne]
        try trivial
      · rw [if_neg e]
        by_cases e2 : k = i
        · subst e2
          rw [if_pos rfl, show (decide (k + 1 ≤ k) && decide (k < k + 1 + (l.length - k))) = false by simp; omega, show (decide (k ≤ k) && decide (k < k + 1)) = true by simp, mrgL_no, mrgL_yes, Nat.sub_self]
          simp only [push_cast, ↓branch_true, ↓branch_false, Nat.reduceBEq, Nat.reduceAdd, Nat.reduceMul, Nat.reduceSub, Int.reduceToNat, reduceCtorEq, branch_decide, branch_not, branch_beq, branch_bne]
          try trivial
        · rw [if_neg e2, show (decide (i + 1 ≤ k) && decide (k < i + 1 + (l.length - i))) = true by simp; omega, mrgL_yes, show i + (k - (i + 1)) = k - 1 by omega]
          simp only [push_cast, ↓branch_true, ↓branch_false, Nat.reduceBEq, Nat.reduceAdd, Nat.reduceMul, Nat.reduceSub, Int.reduceToNat, reduceCtorEq, branch_decide, branch_not, branch_beq, branch_bne]
          try trivial
  · have e2 : ((i : Int) + (0 + 1)).toNat = i + 1 := by omega
    have e3 : ((l.length : Int) + (0 + 1)).toNat = l.length + 1 := by omega
    simp only [Nat.sub_zero, e2, e3]
    repeat (with_reducible refine And.intro (by omega) ?_)
    refine .inr ⟨.v (.bool false), .bool false, rfl, over_ok l cap p _ _ _ (by omega) (by omega), ?_⟩
    simp only [push_cast, ↓branch_true, ↓branch_false, Nat.reduceBEq, Nat.reduceAdd, Nat.reduceMul, Nat.reduceSub, Int.reduceToNat, reduceCtorEq, branch_decide, branch_not, branch_beq, branch_bne]
    have e5 : min (l.length + 1 - i) (l.length + 1 - (i + 1)) = l.length - i := by omega
    have e6 : min 1 (l.length + 1 - i) = 1 := by omega
    simp only [Nat.sub_zero, e2, e5, e6]
    repeat (with_reducible refine And.intro (by omega) ?_)
    refine .inr ?_
    repeat (with_reducible refine And.intro (by omega) ?_)
    repeat' (first | (with_reducible apply And.intro) | omega | (unfold srcOk; split <;> simp [lenP, lenIs, ones, one1]; done))
    refine .inl ?_
    repeat' (first | (with_reducible apply And.intro) | omega | (unfold srcOk; split <;> simp [lenP, lenIs, ones, one1]; done))
    refine ⟨_, _, [0, 1, 0], ?_, ?_, ?_, cap, by omega, rfl, rfl⟩
    · simp only [push_cast, ↓branch_true, ↓branch_false, Nat.reduceBEq, Nat.reduceAdd, Nat.reduceMul, Nat.reduceSub, Int.reduceToNat, reduceCtorEq, branch_decide, branch_not, branch_beq, branch_bne]
    · kernel_rfl
    · simp only [push_cast, ↓branch_true, ↓branch_false, Nat.reduceBEq, Nat.reduceAdd, Nat.reduceMul, Nat.reduceSub, Int.reduceToNat, reduceCtorEq, branch_decide, branch_not, branch_beq, branch_bne]
      refine fun q hq => ⟨?_, fun k hk => ?_⟩
      · obtain rfl : q = 0 := by omega
        rw [insL_len hi]
        simp [lnX]
        omega
      obtain rfl : q = 0 := by omega
      rw [insL_len hi] at hk
      rw [insL_ix hi (by omega)]
      simp only [beq_self_eq_true, Bool.true_and]
      by_cases e : k < i
      · rw [if_pos e, show (decide (i + 1 ≤ k) && decide (k < i + 1 + (l.length - i))) = false by simp; omega, show (decide (i ≤ k) && decide (k < i + 1)) = false by simp; omega]
        simp [mtL]
      · rw [if_neg e]
        by_cases e2 : k = i
        · subst e2
          rw [if_pos rfl, show (decide (k ≤ k) && decide (k < k + 1)) = true by simp, Nat.sub_self]
          simp [mtL, ix_eq]
        · rw [if_neg e2, show (decide (i ≤ k) && decide (k < i + 1)) = false by simp; omega, show (decide (i + 1 ≤ k) && decide (k < i + 1 + (l.length - i))) = true by simp; omega, show i + (k - (i + 1)) = k - 1 by omega]
          simp [mtL]
end Go.Proofs.Ytekokeiajgcfkaa
