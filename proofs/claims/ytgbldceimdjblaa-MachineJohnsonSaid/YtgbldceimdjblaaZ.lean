/- Contracts: the reference's order, the walk. -/
import Derived.Test.YtgbldceimdjblaaY
set_option maxRecDepth 100000
set_option linter.unusedSimpArgs false
set_option linter.unusedVariables false
namespace Go.Proofs.Ytgbldceimdjblaa
open Go.RowKit
theorem mrgL_t : ∀ (l l1 : List SV), mrgL true l l1 = l
  | [], l1 => by simp [mrgL]
  | x :: l, [] => by simp [mrgL]
  | x :: l, y :: l1 => by simp [mrgL, mrg1_eq, mrgL_t l l1]
theorem mrgL_f : ∀ (l l1 : List SV), mrgL false l l1 = l1
  | [], l1 => by simp [mrgL]
  | x :: l, [] => by simp [mrgL]
  | x :: l, y :: l1 => by simp [mrgL, mrg1_eq, mrgL_f l l1]
theorem appF_eq {n1 n2 k : Nat} {old new : Nat → List SV} (hk : k < n1 + n2) : appF n1 n2 old new k = if k < n1 then old k else new (k - n1) := by
  unfold appF
  by_cases h : k < n1
  · simp only [h, decide_true, if_true]
    split <;> exact mrgL_t _ _
  · simp only [h, decide_false, if_false]
    split
    · rw [mrgL_f]
      congr 1
      omega
    · exact mrgL_f _ _
theorem mtL_same {rl : List Nat} {v : Int} {l : List SV} (h : l = [.v (.int .i64 v)]) : mtL rl [.v (.int .i64 v)] l := by
  subst h
  simp [mtL, mt]
theorem rjohn_sp (l : List Jb) (c : Nat) (hv : validB l = true) :
    Sp Try.prog 15 [.s 0 0 0 l.length c 3] [rJb l] (fun r H => ∃ cap, (johnE l).length ≤ cap ∧ r = .s 1 0 0 (johnE l).length cap 1 ∧ H = [rJb l, rInt 3 (johnE l)]) := by
  have hl60 := validB_len hv
  refine sp_weak ?_
  refine sp_of_ex true [] mixed Try.call15 Try.func15 rfl Try.ntmps15 Try.results15 (by decide +kernel) rfl ?_
  simp only [push_cast, ↓branch_true, ↓branch_false, Nat.reduceBEq, Nat.reduceAdd, Nat.reduceMul, Nat.reduceSub, Int.reduceToNat, reduceCtorEq, branch_decide, branch_not, branch_beq, branch_bne]
  refine tr_loop mixed (by kernel_rfl) (fun (x : Nat × List Int × Nat) => [(4, .v (.int .i64 x.1)), (3, .s 1 0 0 x.2.1.length x.2.2 1), (0, .s 0 0 0 l.length c 3)])
    (fun x => [rJb l, rOwn 3 x.2.1.length x.2.2 (fun k => ix x.2.1 k)]) (fun x => x.1 ≤ l.length ∧ x.2.1.Perm (allI x.1) ∧ (x.2.1.Pairwise fun a b => KB l a ≤ KB l b) ∧ x.2.1.length ≤ x.2.2) (fun x => l.length - x.1) (0, [], 0) ⟨Nat.zero_le _, .refl _, .nil, Nat.le_refl _⟩ (Mt.wk (rl := [0, 1]) ⟨by kernel_rfl, ?_, ?_⟩) ?_
  · simp only [push_cast, ↓branch_true, ↓branch_false, Nat.reduceBEq, Nat.reduceAdd, Nat.reduceMul, Nat.reduceSub, Int.reduceToNat, reduceCtorEq, branch_decide, branch_not, branch_beq, branch_bne]
  · simp only [push_cast, ↓branch_true, ↓branch_false, Nat.reduceBEq, Nat.reduceAdd, Nat.reduceMul, Nat.reduceSub, Int.reduceToNat, reduceCtorEq, branch_decide, branch_not, branch_beq, branch_bne]
  rintro ⟨i, s, cap⟩ ⟨h1, h2, h3, h4⟩
  simp only at h1 h2 h3 h4
  have hsl : s.length = i := by rw [h2.length_eq]; simp [allI]
  have hsv : ∀ j, j < s.length → 0 ≤ ix s j ∧ ix s j < i := fun j hj => mem_allI.mp (h2.mem_iff.mp (ix_mem hj))
  simp only [push_cast, ↓branch_true, ↓branch_false, Nat.reduceBEq, Nat.reduceAdd, Nat.reduceMul, Nat.reduceSub, Int.reduceToNat, reduceCtorEq, branch_decide, branch_not, branch_beq, branch_bne]
  refine ⟨fun h => ?_, fun h => ?_⟩
  · refine tr_loop mixed (by kernel_rfl) (fun (k : Nat) => [(5, .v (.int .i64 k)), (4, .v (.int .i64 i)), (3, .s 1 0 0 s.length cap 1), (0, .s 0 0 0 l.length c 3)])
      (fun _ => [rJb l, rOwn 3 s.length cap (fun k => ix s k)]) (fun k => k ≤ s.length ∧ ∀ j, k ≤ j → j < s.length → KB l i < KB l (ix s j)) (fun k => k) s.length ⟨Nat.le_refl _, fun j j1 j2 => by omega⟩ (Mt.wk (rl := [0, 1]) ⟨by kernel_rfl, ?_, ?_⟩) ?_
    · simp only [push_cast, ↓branch_true, ↓branch_false, Nat.reduceBEq, Nat.reduceAdd, Nat.reduceMul, Nat.reduceSub, Int.reduceToNat, reduceCtorEq, branch_decide, branch_not, branch_beq, branch_bne]
    · simp only [push_cast, ↓branch_true, ↓branch_false, Nat.reduceBEq, Nat.reduceAdd, Nat.reduceMul, Nat.reduceSub, Int.reduceToNat, reduceCtorEq, branch_decide, branch_not, branch_beq, branch_bne]
    rintro k ⟨k1, k2⟩
    simp only [push_cast, ↓branch_true, ↓branch_false, Nat.reduceBEq, Nat.reduceAdd, Nat.reduceMul, Nat.reduceSub, Int.reduceToNat, reduceCtorEq, branch_decide, branch_not, branch_beq, branch_bne]
    have hs := h2
    have jk : ∀ j, j < s.length → JbOk l (ix s j) := fun j hj => jbOk hv (by have := hsv j hj; omega)
    refine ⟨fun h5 => ?_, fun h5 => ?_⟩
    · have e1 : ((k : Int) - 1).toNat = k - 1 := by omega
      simp only [e1]
      have v1 := hsv (k - 1) (by omega)
      repeat (with_reducible refine And.intro (by omega) ?_)
      refine sp_call (before_pu l c i (ix s (k - 1)) (jbOk hv (by omega)) (jk (k - 1) (by omega)) (by omega) (by omega)) rfl [0] rfl ?_ ?_ ?_
      · simp only [push_cast, ↓branch_true, ↓branch_false, Nat.reduceBEq, Nat.reduceAdd, Nat.reduceMul, Nat.reduceSub, Int.reduceToNat, reduceCtorEq, branch_decide, branch_not, branch_beq, branch_bne]
      · simp only [push_cast, ↓branch_true, ↓branch_false, Nat.reduceBEq, Nat.reduceAdd, Nat.reduceMul, Nat.reduceSub, Int.reduceToNat, reduceCtorEq, branch_decide, branch_not, branch_beq, branch_bne]
      simp only [push_cast, ↓branch_true, ↓branch_false, Nat.reduceBEq, Nat.reduceAdd, Nat.reduceMul, Nat.reduceSub, Int.reduceToNat, reduceCtorEq, branch_decide, branch_not, branch_beq, branch_bne]
      refine ⟨fun h6 => ?_, fun h6 => ?_⟩
      · repeat (with_reducible refine And.intro (by omega) ?_)
        refine lpK_normal (k - 1) [0, 1] ⟨by omega, fun j j1 j2 => ?_⟩ (by omega) (by kernel_rfl) ?_ ?_
        · by_cases e : j = k - 1
          · subst e; exact h6
          · exact k2 j (by omega) j2
        · simp only [push_cast, ↓branch_true, ↓branch_false, Nat.reduceBEq, Nat.reduceAdd, Nat.reduceMul, Nat.reduceSub, Int.reduceToNat, reduceCtorEq, branch_decide, branch_not, branch_beq, branch_bne]
          rw [show ((k - 1 : Nat) : Int) = (k : Int) - 1 by omega]
        · simp only [push_cast, ↓branch_true, ↓branch_false, Nat.reduceBEq, Nat.reduceAdd, Nat.reduceMul, Nat.reduceSub, Int.reduceToNat, reduceCtorEq, branch_decide, branch_not, branch_beq, branch_bne]
      · have hlo : ∀ j, j < k → KB l (ix s j) ≤ KB l i := fun j hj => by
          by_cases e : j = k - 1
          · subst e; omega
          · have := List.pairwise_iff_getElem.mp h3 j (k - 1) (by omega) (by omega) (by omega)
            rw [← ix_eq, ← ix_eq] at this
            omega
        have hhi : ∀ j, k ≤ j → j < s.length → KB l i ≤ KB l (ix s j) := fun j j1 j2 => Int.le_of_lt (k2 j j1 j2)
        have hput := putAt_up k1 h3 hlo hhi
        have hperm : (putAt s k i).Perm (allI (i + 1)) := by
          refine (putAt_perm s k i).trans ((h2.cons (i : Int)).trans ?_)
          simp only [allI, List.range_succ, List.map_append, List.map_cons, List.map_nil]
          exact (List.perm_append_comm (l₁ := [(i : Int)]))
        have hplen := putAt_len s k i
        have hpix := fun j (hj : j < s.length + 1) => putAt_ix (x := (i : Int)) k1 hj
        generalize putAt s k i = p at hput hperm hplen hpix
        repeat (with_reducible refine And.intro (by omega) ?_)
        refine ⟨by (unfold srcOk; split <;> simp [lenP, lenIs, ones, one1]), appZ_of (fun hk0 => by omega) (fun hk0 => ?_)⟩
        refine .inl ?_
        repeat (with_reducible refine And.intro (by omega) ?_)
        intro cap0 hcap0
        repeat (with_reducible refine And.intro (by omega) ?_)
        refine .inr ?_
        repeat (with_reducible refine And.intro (by omega) ?_)
        intro cap1 hcap1
        repeat (with_reducible refine And.intro (by omega) ?_)
        refine ⟨by (unfold srcOk; split <;> simp [lenP, lenIs, ones, one1]), appZ_of (fun hn0 => ?_) (fun hn0 => ?_)⟩
        · repeat (with_reducible refine And.intro (by omega) ?_)
          refine lpK_normal (i + 1, p, cap1) [0, 5] ?_ ?_ (by kernel_rfl) ?_ ?_
          · exact ⟨by simp only; omega, hperm, hput, by simp only; omega⟩
          · simp only; omega
          · simp only [push_cast, ↓branch_true, ↓branch_false, Nat.reduceBEq, Nat.reduceAdd, Nat.reduceMul, Nat.reduceSub, Int.reduceToNat, reduceCtorEq, branch_decide, branch_not, branch_beq, branch_bne]
            omega
          · simp only [push_cast, ↓branch_true, ↓branch_false, Nat.reduceBEq, Nat.reduceAdd, Nat.reduceMul, Nat.reduceSub, Int.reduceToNat, reduceCtorEq, branch_decide, branch_not, branch_beq, branch_bne]
            intro i1 hi1
            refine ⟨by omega, fun j hj => ?_⟩
            rw [hpix j (by omega)]
            have h2 : mtL [0, 5] [] (bif decide (j < k - 0) then ([] : List SV) else []) := by cases decide (j < k - 0) <;> simp [mtL]
            refine ⟨?_, h2⟩
            by_cases e : j < k
            · simp [e]
            · have : j = k := by omega
              simp [this]
        · refine .inr ?_
          repeat (with_reducible refine And.intro (by omega) ?_)
          intro cap2 hcap2
          repeat (with_reducible refine And.intro (by omega) ?_)
          refine lpK_normal (i + 1, p, cap2) [0, 6] ?_ ?_ (by kernel_rfl) ?_ ?_
          · exact ⟨by simp only; omega, hperm, hput, by simp only; omega⟩
          · simp only; omega
          · simp only [push_cast, ↓branch_true, ↓branch_false, Nat.reduceBEq, Nat.reduceAdd, Nat.reduceMul, Nat.reduceSub, Int.reduceToNat, reduceCtorEq, branch_decide, branch_not, branch_beq, branch_bne]
            omega
          · simp only [push_cast, ↓branch_true, ↓branch_false, Nat.reduceBEq, Nat.reduceAdd, Nat.reduceMul, Nat.reduceSub, Int.reduceToNat, reduceCtorEq, branch_decide, branch_not, branch_beq, branch_bne]
            refine fun i1 hi1 => ⟨by omega, fun j hj => mtL_same ?_⟩
            rw [appF_eq (by omega), hpix j (by omega)]
            by_cases e : j < k
            · rw [if_pos (by omega), if_pos e, appF_eq (by omega), if_pos (by omega)]
            · rw [if_neg e]
              by_cases e2 : j = k
              · rw [if_pos (by omega), if_pos e2, appF_eq (by omega), if_neg (by omega), show j - (k - 0) = 0 by omega]
                rfl
              · rw [if_neg (by omega), if_neg e2, show k + (j - (k - 0 + 1)) = j - 1 by omega]
    · have hlo : ∀ j, j < k → KB l (ix s j) ≤ KB l i := fun j hj => by omega
      have hhi : ∀ j, k ≤ j → j < s.length → KB l i ≤ KB l (ix s j) := fun j j1 j2 => Int.le_of_lt (k2 j j1 j2)
      have hput := putAt_up k1 h3 hlo hhi
      have hperm : (putAt s k i).Perm (allI (i + 1)) := by
        refine (putAt_perm s k i).trans ((h2.cons (i : Int)).trans ?_)
        simp only [allI, List.range_succ, List.map_append, List.map_cons, List.map_nil]
        exact (List.perm_append_comm (l₁ := [(i : Int)]))
      have hplen := putAt_len s k i
      have hpix := fun j (hj : j < s.length + 1) => putAt_ix (x := (i : Int)) k1 hj
      generalize putAt s k i = p at hput hperm hplen hpix
      repeat (with_reducible refine And.intro (by omega) ?_)
      refine ⟨by (unfold srcOk; split <;> simp [lenP, lenIs, ones, one1]), appZ_of (fun hk0 => ?_) (fun hk0 => by omega)⟩
      repeat (with_reducible refine And.intro (by omega) ?_)
      refine .inl ?_
      repeat (with_reducible refine And.intro (by omega) ?_)
      intro cap1 hcap1
      repeat (with_reducible refine And.intro (by omega) ?_)
      refine ⟨by (unfold srcOk; split <;> simp [lenP, lenIs, ones, one1]), appZ_of (fun hn0 => ?_) (fun hn0 => ?_)⟩
      · repeat (with_reducible refine And.intro (by omega) ?_)
        refine lpK_normal (i + 1, p, cap1) [0, 4] ?_ ?_ (by kernel_rfl) ?_ ?_
        · exact ⟨by simp only; omega, hperm, hput, by simp only; omega⟩
        · simp only; omega
        · simp only [push_cast, ↓branch_true, ↓branch_false, Nat.reduceBEq, Nat.reduceAdd, Nat.reduceMul, Nat.reduceSub, Int.reduceToNat, reduceCtorEq, branch_decide, branch_not, branch_beq, branch_bne]
          omega
        · simp only [push_cast, ↓branch_true, ↓branch_false, Nat.reduceBEq, Nat.reduceAdd, Nat.reduceMul, Nat.reduceSub, Int.reduceToNat, reduceCtorEq, branch_decide, branch_not, branch_beq, branch_bne]
          refine fun i1 hi1 => ⟨by omega, fun j hj => mtL_same ?_⟩
          obtain rfl : j = 0 := by omega
          rw [hpix 0 (by omega), if_neg (by omega), if_pos (by omega)]
          rfl
      · refine .inr ?_
        repeat (with_reducible refine And.intro (by omega) ?_)
        intro cap2 hcap2
        repeat (with_reducible refine And.intro (by omega) ?_)
        refine lpK_normal (i + 1, p, cap2) [0, 5] ?_ ?_ (by kernel_rfl) ?_ ?_
        · exact ⟨by simp only; omega, hperm, hput, by simp only; omega⟩
        · simp only; omega
        · simp only [push_cast, ↓branch_true, ↓branch_false, Nat.reduceBEq, Nat.reduceAdd, Nat.reduceMul, Nat.reduceSub, Int.reduceToNat, reduceCtorEq, branch_decide, branch_not, branch_beq, branch_bne]
          omega
        · simp only [push_cast, ↓branch_true, ↓branch_false, Nat.reduceBEq, Nat.reduceAdd, Nat.reduceMul, Nat.reduceSub, Int.reduceToNat, reduceCtorEq, branch_decide, branch_not, branch_beq, branch_bne]
          refine fun i1 hi1 => ⟨by omega, fun j hj => mtL_same ?_⟩
          rw [appF_eq (by omega), hpix j (by omega), if_neg (show ¬j < k by omega)]
          by_cases e2 : j = k
          · rw [if_pos (by omega), if_pos e2, show j = 0 by omega]
            rfl
          · rw [if_neg (by omega), if_neg e2, show k + (j - 1) = j - 1 by omega]
  · obtain rfl : i = l.length := by omega
    have e : johnE l = s := by
      refine sort_one ((john_perm l).trans h2.symm) (fun x hx y hy hxy => ?_) (john_up hv) h3
      exact kb_inj (jbOk hv (mem_allI.mp ((john_perm l).mem_iff.mp hx))) (jbOk hv (mem_allI.mp ((john_perm l).mem_iff.mp hy))) hxy
    rw [e]
    refine ⟨_, _, [0, 1], ?_, ?_, ?_, cap, h4, rfl, rfl⟩
    · simp only [push_cast, ↓branch_true, ↓branch_false, Nat.reduceBEq, Nat.reduceAdd, Nat.reduceMul, Nat.reduceSub, Int.reduceToNat, reduceCtorEq, branch_decide, branch_not, branch_beq, branch_bne]
    · kernel_rfl
    · simp only [push_cast, ↓branch_true, ↓branch_false, Nat.reduceBEq, Nat.reduceAdd, Nat.reduceMul, Nat.reduceSub, Int.reduceToNat, reduceCtorEq, branch_decide, branch_not, branch_beq, branch_bne]
end Go.Proofs.Ytgbldceimdjblaa
