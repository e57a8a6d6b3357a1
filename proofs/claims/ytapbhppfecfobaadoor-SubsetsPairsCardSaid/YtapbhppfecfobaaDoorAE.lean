/- SubsetsPairs: the walk. -/
import Derived.Test.YtapbhppfecfobaaDoorAD
set_option maxRecDepth 100000
set_option linter.unusedSimpArgs false
set_option linter.unusedVariables false
namespace Go.Proofs.YtapbhppfecfobaaDoor
open Go.RowKit
set_option maxHeartbeats 2000000 in
theorem lpairs_sp (l : List Int) (sum : Int) (c : Nat) (hl : l.length ≤ 9223372036854775807) : Sp Tryd.prog 8 [.s 0 0 0 l.length c 1, .v (.int .i64 sum)] [rR l] (fun r _ => r = .v (.bool true)) := by
  have hbig := big_eq
  refine sp_of_ex true [] mixed Tryd.call8 Tryd.func8 rfl Tryd.ntmps8 Tryd.results8 (by decide +kernel) rfl ?_
  simp only [push_cast, ↓branch_true, ↓branch_false, Nat.reduceBEq, Nat.reduceAdd, Nat.reduceMul, Nat.reduceSub, Int.reduceToNat, reduceCtorEq, branch_decide, branch_not, branch_beq, branch_bne]
  refine sp_at awake_sp [] rfl ?_ ?_ ?_
  · simp only [push_cast, ↓branch_true, ↓branch_false, Nat.reduceBEq, Nat.reduceAdd, Nat.reduceMul, Nat.reduceSub, Int.reduceToNat, reduceCtorEq, branch_decide, branch_not, branch_beq, branch_bne]
  · simp only [push_cast, ↓branch_true, ↓branch_false, Nat.reduceBEq, Nat.reduceAdd, Nat.reduceMul, Nat.reduceSub, Int.reduceToNat, reduceCtorEq, branch_decide, branch_not, branch_beq, branch_bne]
  rintro _ _ ⟨rfl, rfl⟩
  simp only [push_cast, ↓branch_true, ↓branch_false, Nat.reduceBEq, Nat.reduceAdd, Nat.reduceMul, Nat.reduceSub, Int.reduceToNat, reduceCtorEq, branch_decide, branch_not, branch_beq, branch_bne]
  intro h10
  refine sp_call (rgiven_pu l c hl) rfl [0] rfl (by simp only [push_cast, ↓branch_true, ↓branch_false, Nat.reduceBEq, Nat.reduceAdd, Nat.reduceMul, Nat.reduceSub, Int.reduceToNat, reduceCtorEq, branch_decide, branch_not, branch_beq, branch_bne]) (by simp only [push_cast, ↓branch_true, ↓branch_false, Nat.reduceBEq, Nat.reduceAdd, Nat.reduceMul, Nat.reduceSub, Int.reduceToNat, reduceCtorEq, branch_decide, branch_not, branch_beq, branch_bne]) ?_
  simp only [push_cast, ↓branch_true, ↓branch_false, Nat.reduceBEq, Nat.reduceAdd, Nat.reduceMul, Nat.reduceSub, Int.reduceToNat, reduceCtorEq, branch_decide, branch_not, branch_beq, branch_bne]
  intro hg
  obtain ⟨h1, h2⟩ := given_0 hg
  intro hr1 hr2
  have hs : -1152921504606846976 ≤ sum ∧ sum ≤ 1152921504606846976 := ⟨by omega, by omega⟩
  refine sp_at (Sums_sp l c (by omega)) [0] rfl ?_ ?_ ?_
  · simp only [push_cast, ↓branch_true, ↓branch_false, Nat.reduceBEq, Nat.reduceAdd, Nat.reduceMul, Nat.reduceSub, Int.reduceToNat, reduceCtorEq, branch_decide, branch_not, branch_beq, branch_bne]
  · simp only [push_cast, ↓branch_true, ↓branch_false, Nat.reduceBEq, Nat.reduceAdd, Nat.reduceMul, Nat.reduceSub, Int.reduceToNat, reduceCtorEq, branch_decide, branch_not, branch_beq, branch_bne]
  rintro _ _ ⟨cap, hcap, rfl, rfl⟩
  have e4 : sumsR l = sumsL l := if_neg (by simp [hg])
  rw [e4, hg]
  rw [e4] at hcap
  have hsl := sumsL_len l
  have hp : 2 ^ l.length ≤ 2 ^ 16 := Nat.pow_le_pow_right (by decide) h1
  have hs0 := sumsL_0 l
  have hcmp := sums_cmp l
  have hlt : ∀ a, 0 < a → a < (sumsL l).length → ix (sumsL l) (a - 1) < ix (sumsL l) a := fun a h0 ha => sumsL_lt (by omega) ha
  have hrg : ∀ k, k < (sumsL l).length → -36028797018963968 ≤ ix (sumsL l) k ∧ ix (sumsL l) k ≤ 36028797018963968 := fun k h => sumsL_range h2 h
  have hpair : ∀ i, i < (sumsL l).length → _ := fun i hi => sums_pair h1 hi
  have h0m : (0 : Int) ∈ sumsL l := sums_mem.2 ⟨0, Nat.two_pow_pos _, (sumS_zero l).symm⟩
  have hfi := find_iff (l := l) (sum := sum) hg
  have hnm := (nearV_near l sum).1
  have hna := near_any l sum
  have hSr : ∀ x, x ∈ sumsL l → -36028797018963968 ≤ x ∧ x ≤ 36028797018963968 := fun x hx => by
    obtain ⟨k, hk, rfl⟩ := mem_ix.1 hx
    exact hrg k hk
  generalize hS : sumsL l = S at *
  simp only [push_cast, ↓branch_true, ↓branch_false, Nat.reduceBEq, Nat.reduceAdd, Nat.reduceMul, Nat.reduceSub, Int.reduceToNat, reduceCtorEq, branch_decide, branch_not, branch_beq, branch_bne]
  intro _
  refine ⟨fun h => absurd h (by omega), fun _ => ?_⟩
  refine sp_call (sorted_pu S cap (by omega) hlt) rfl [2] rfl (by simp only [push_cast, ↓branch_true, ↓branch_false, Nat.reduceBEq, Nat.reduceAdd, Nat.reduceMul, Nat.reduceSub, Int.reduceToNat, reduceCtorEq, branch_decide, branch_not, branch_beq, branch_bne]) (by simp only [push_cast, ↓branch_true, ↓branch_false, Nat.reduceBEq, Nat.reduceAdd, Nat.reduceMul, Nat.reduceSub, Int.reduceToNat, reduceCtorEq, branch_decide, branch_not, branch_beq, branch_bne]) ?_
  simp only [push_cast, ↓branch_true, ↓branch_false, Nat.reduceBEq, Nat.reduceAdd, Nat.reduceMul, Nat.reduceSub, Int.reduceToNat, reduceCtorEq, branch_decide, branch_not, branch_beq, branch_bne]
  refine sp_at (clone_sp S cap (by omega) hcap) [2] rfl ?_ ?_ ?_
  · simp only [push_cast, ↓branch_true, ↓branch_false, Nat.reduceBEq, Nat.reduceAdd, Nat.reduceMul, Nat.reduceSub, Int.reduceToNat, reduceCtorEq, branch_decide, branch_not, branch_beq, branch_bne]
  · simp only [push_cast, ↓branch_true, ↓branch_false, Nat.reduceBEq, Nat.reduceAdd, Nat.reduceMul, Nat.reduceSub, Int.reduceToNat, reduceCtorEq, branch_decide, branch_not, branch_beq, branch_bne]
  rintro _ _ ⟨cap2, hcap2, rfl, rfl⟩
  simp only [push_cast, ↓branch_true, ↓branch_false, Nat.reduceBEq, Nat.reduceAdd, Nat.reduceMul, Nat.reduceSub, Int.reduceToNat, reduceCtorEq, branch_decide, branch_not, branch_beq, branch_bne]
  refine sp_at (compact_sp S cap2 (by omega) hcap2) [3] rfl ?_ ?_ ?_
  · simp only [push_cast, ↓branch_true, ↓branch_false, Nat.reduceBEq, Nat.reduceAdd, Nat.reduceMul, Nat.reduceSub, Int.reduceToNat, reduceCtorEq, branch_decide, branch_not, branch_beq, branch_bne]
  · simp only [push_cast, ↓branch_true, ↓branch_false, Nat.reduceBEq, Nat.reduceAdd, Nat.reduceMul, Nat.reduceSub, Int.reduceToNat, reduceCtorEq, branch_decide, branch_not, branch_beq, branch_bne]
  rintro _ _ ⟨rfl, rfl⟩
  rw [hcmp]
  simp only [push_cast, ↓branch_true, ↓branch_false, Nat.reduceBEq, Nat.reduceAdd, Nat.reduceMul, Nat.reduceSub, Int.reduceToNat, reduceCtorEq, branch_decide, branch_not, branch_beq, branch_bne]
  intro _
  refine sp_call (contains_pu S 0 cap (by omega)) rfl [2] rfl (by simp only [push_cast, ↓branch_true, ↓branch_false, Nat.reduceBEq, Nat.reduceAdd, Nat.reduceMul, Nat.reduceSub, Int.reduceToNat, reduceCtorEq, branch_decide, branch_not, branch_beq, branch_bne]) (by simp only [push_cast, ↓branch_true, ↓branch_false, Nat.reduceBEq, Nat.reduceAdd, Nat.reduceMul, Nat.reduceSub, Int.reduceToNat, reduceCtorEq, branch_decide, branch_not, branch_beq, branch_bne]) ?_
  simp only [push_cast, ↓branch_true, ↓branch_false, Nat.reduceBEq, Nat.reduceAdd, Nat.reduceMul, Nat.reduceSub, Int.reduceToNat, reduceCtorEq, branch_decide, branch_not, branch_beq, branch_bne]
  refine ⟨fun _ => ?_, fun h => absurd h0m h⟩
  refine sp_call (total_pu l c h1 h2) rfl [0] rfl (by simp only [push_cast, ↓branch_true, ↓branch_false, Nat.reduceBEq, Nat.reduceAdd, Nat.reduceMul, Nat.reduceSub, Int.reduceToNat, reduceCtorEq, branch_decide, branch_not, branch_beq, branch_bne]) (by simp only [push_cast, ↓branch_true, ↓branch_false, Nat.reduceBEq, Nat.reduceAdd, Nat.reduceMul, Nat.reduceSub, Int.reduceToNat, reduceCtorEq, branch_decide, branch_not, branch_beq, branch_bne]) ?_
  simp only [push_cast, ↓branch_true, ↓branch_false, Nat.reduceBEq, Nat.reduceAdd, Nat.reduceMul, Nat.reduceSub, Int.reduceToNat, reduceCtorEq, branch_decide, branch_not, branch_beq, branch_bne]
  have hTr := sumS_range h2 (allN l)
  generalize hT : sumS l (allN l) = T at *
  refine tr_loop0 mixed (by kernel_rfl) (fun (k : Nat) => [(71, .v (.int .i64 k)), (70, .v (.int .i64 S.length)), (5, .s 2 0 0 S.length cap 1), (7, .v (.int .i64 T)), (0, .s 0 0 0 l.length c 1), (3, .p 1 0 0)]) (fun k => k ≤ S.length) (fun k => S.length - k) 0 (Nat.zero_le _) ?_ ?_
  · simp only [push_cast, ↓branch_true, ↓branch_false, Nat.reduceBEq, Nat.reduceAdd, Nat.reduceMul, Nat.reduceSub, Int.reduceToNat, reduceCtorEq, branch_decide, branch_not, branch_beq, branch_bne]
    try rfl
  intro k hk
  simp only [push_cast, ↓branch_true, ↓branch_false, Nat.reduceBEq, Nat.reduceAdd, Nat.reduceMul, Nat.reduceSub, Int.reduceToNat, reduceCtorEq, branch_decide, branch_not, branch_beq, branch_bne]
  refine ⟨fun h => ?_, fun h => ?_⟩
  · have hk2 : k < S.length := by omega
    have hp1 := hpair k hk2
    have hr1 := hrg k hk2
    have hr2 := hrg (S.length - 1 - k) (by omega)
    have e6 : ((S.length : Int) - 1 - (k : Int)).toNat = S.length - 1 - k := by omega
    repeat (with_reducible refine And.intro (by omega) ?_)
    rw [e6]
    repeat (with_reducible refine And.intro (by omega) ?_)
    refine ⟨fun _ => ?_, fun h => absurd hp1 h⟩
    repeat (with_reducible refine And.intro (by omega) ?_)
    refine lp0_normal (k + 1) (by omega) (by omega) ?_
    simp only [push_cast, ↓branch_true, ↓branch_false, Nat.reduceBEq, Nat.reduceAdd, Nat.reduceMul, Nat.reduceSub, Int.reduceToNat, reduceCtorEq, branch_decide, branch_not, branch_beq, branch_bne]
  refine sp_at (Find_sp l sum c (by omega)) [0] rfl ?_ ?_ ?_
  · simp only [push_cast, ↓branch_true, ↓branch_false, Nat.reduceBEq, Nat.reduceAdd, Nat.reduceMul, Nat.reduceSub, Int.reduceToNat, reduceCtorEq, branch_decide, branch_not, branch_beq, branch_bne]
  · simp only [push_cast, ↓branch_true, ↓branch_false, Nat.reduceBEq, Nat.reduceAdd, Nat.reduceMul, Nat.reduceSub, Int.reduceToNat, reduceCtorEq, branch_decide, branch_not, branch_beq, branch_bne]
  rintro _ _ ⟨cap3, hcap3, rfl, rfl⟩
  have hfl := find_len l sum 0
  simp only [push_cast, ↓branch_true, ↓branch_false, Nat.reduceBEq, Nat.reduceAdd, Nat.reduceMul, Nat.reduceSub, Int.reduceToNat, reduceCtorEq, branch_decide, branch_not, branch_beq, branch_bne]
  refine sp_call (contains_pu S sum cap (by omega)) rfl [2] rfl (by simp only [push_cast, ↓branch_true, ↓branch_false, Nat.reduceBEq, Nat.reduceAdd, Nat.reduceMul, Nat.reduceSub, Int.reduceToNat, reduceCtorEq, branch_decide, branch_not, branch_beq, branch_bne]) (by simp only [push_cast, ↓branch_true, ↓branch_false, Nat.reduceBEq, Nat.reduceAdd, Nat.reduceMul, Nat.reduceSub, Int.reduceToNat, reduceCtorEq, branch_decide, branch_not, branch_beq, branch_bne]) ?_
  simp only [push_cast, ↓branch_true, ↓branch_false, Nat.reduceBEq, Nat.reduceAdd, Nat.reduceMul, Nat.reduceSub, Int.reduceToNat, reduceCtorEq, branch_decide, branch_not, branch_beq, branch_bne]
  have hbr : ((findE l sum 0 == 0) != decide (sum ∈ S)) = false := by
    by_cases h : findE l sum 0 = 0
    · rw [h, decide_eq_true (hfi.1 h)]; rfl
    · rw [decide_eq_false fun h2 => h (hfi.2 h2), beq_eq_false_iff_ne.2 h]; rfl
  rw [hbr]
  have n1 : nearE l sum = 0 := by rw [nearE, if_neg (by simp [hg]), if_neg (by omega)]
  have n2 : nearN l sum = nearV l sum := by rw [nearN, if_neg (by simp [n1])]
  obtain ⟨b2, hb1, hb2⟩ := near_first (l := l) (sum := sum)
  have n3 : nearL l sum = bL b2 := by rw [nearL, if_neg (by simp [n1]), hb1]; rfl
  have hbl2 := bL_le hb2 (by omega)
  have hnr := hSr _ hnm
  have hnp : ∀ x ∈ S, Pu Tryd.prog 37 ([] ++ [.v (.int .i64 x)] ++ [.p 2 0 0, .p 3 0 0]) (rR S :: [⟨3, true, .st [.v (.int .i64 sum)]⟩, ⟨56, true, .st [.f (.func 35) [] [.p 1 0 0]]⟩, ⟨3, true, .st [.v (.int .i64 (nearV l sum))]⟩]) (.v (.bool (nrB sum x (nearV l sum)))) := fun x hx => by
    have hxr := hSr x hx
    refine pu_at (nearer_pu x (nearV l sum) sum (by omega) (by omega) hs) rfl [1, 2, 3] rfl ?_ ?_
    · simp only [push_cast, ↓branch_true, ↓branch_false, Nat.reduceBEq, Nat.reduceAdd, Nat.reduceMul, Nat.reduceSub, Int.reduceToNat, reduceCtorEq, branch_decide, branch_not, branch_beq, branch_bne]
    · simp only [push_cast, ↓branch_true, ↓branch_false, Nat.reduceBEq, Nat.reduceAdd, Nat.reduceMul, Nat.reduceSub, Int.reduceToNat, reduceCtorEq, branch_decide, branch_not, branch_beq, branch_bne]
  rw [branch_false]
  refine ⟨fun hf => ?_, fun hf => ?_⟩
  · obtain ⟨b, hb⟩ : ∃ b, firstO l sum 0 = some b := by
      cases e : firstO l sum 0 with
      | none => rw [findE, if_neg (by simp [hg]), e] at hf; cases hf
      | some b => exact ⟨b, rfl⟩
    have hbs : sumS l b = sum := first_sum hb
    have hbN : b < 2 ^ l.length := firstT_lt hb
    have f3 : findL l sum 0 = bL b := by rw [findL, if_neg (by simp [hg]), hb]
    have hfk : ∀ k, k < (bL b).length → _ := fun k hk => bL_facts hbN h1 hk
    rw [f3] at hfl ⊢
    refine tr_loop0 mixed (by kernel_rfl) (fun (k : Nat) => [(106, .v (.int .i64 k)), (105, .v (.int .i64 (bL b).length)), (104, .s 4 0 0 (bL b).length cap3 1), (9, .s 4 0 0 (bL b).length cap3 1), (11, .v (.int .i64 (sumP l ((bL b).take k)))), (5, .s 2 0 0 S.length cap 1), (0, .s 0 0 0 l.length c 1), (3, .p 1 0 0)]) (fun k => k ≤ (bL b).length) (fun k => (bL b).length - k) 0 (Nat.zero_le _) ?_ ?_
    · simp only [push_cast, ↓branch_true, ↓branch_false, Nat.reduceBEq, Nat.reduceAdd, Nat.reduceMul, Nat.reduceSub, Int.reduceToNat, reduceCtorEq, branch_decide, branch_not, branch_beq, branch_bne]
      try rfl
    intro k hk
    have hsr := sumP_range h2 ((bL b).take k)
    have htl : ((bL b).take k).length ≤ 32 := by rw [List.length_take]; omega
    simp only [push_cast, ↓branch_true, ↓branch_false, Nat.reduceBEq, Nat.reduceAdd, Nat.reduceMul, Nat.reduceSub, Int.reduceToNat, reduceCtorEq, branch_decide, branch_not, branch_beq, branch_bne]
    refine ⟨fun h => ?_, fun h => ?_⟩
    · have hk2 : k < (bL b).length := by omega
      obtain ⟨a1, a2, a3⟩ := hfk k hk2
      have hss := sumP_succ (l := l) hk2
      have hir := ix_range h2 (ix (bL b) k).toNat
      repeat (with_reducible refine And.intro (by omega) ?_)
      refine fun _ => ⟨fun h => absurd h (by omega), fun _ => ⟨fun h0 => ?_, fun h0 => ?_⟩⟩
      · have e6 : ((k : Int) - 1).toNat = k - 1 := by omega
        have := a3 (by omega)
        rw [e6]
        repeat (with_reducible refine And.intro (by omega) ?_)
        intro _
        repeat (with_reducible refine And.intro (by omega) ?_)
        refine lp0_normal (k + 1) (by omega) (by omega) ?_
        simp only [push_cast, ↓branch_true, ↓branch_false, Nat.reduceBEq, Nat.reduceAdd, Nat.reduceMul, Nat.reduceSub, Int.reduceToNat, reduceCtorEq, branch_decide, branch_not, branch_beq, branch_bne, hss]
      · repeat (with_reducible refine And.intro (by omega) ?_)
        refine lp0_normal (k + 1) (by omega) (by omega) ?_
        simp only [push_cast, ↓branch_true, ↓branch_false, Nat.reduceBEq, Nat.reduceAdd, Nat.reduceMul, Nat.reduceSub, Int.reduceToNat, reduceCtorEq, branch_decide, branch_not, branch_beq, branch_bne, hss]
    · obtain rfl : k = (bL b).length := by omega
      rw [List.take_length, sumP_bL, hbs]
      refine ⟨fun _ => ?_, fun h => absurd rfl h⟩
      refine sp_at (near_sp l sum c (by omega)) [0] rfl ?_ ?_ ?_
      · simp only [push_cast, ↓branch_true, ↓branch_false, Nat.reduceBEq, Nat.reduceAdd, Nat.reduceMul, Nat.reduceSub, Int.reduceToNat, reduceCtorEq, branch_decide, branch_not, branch_beq, branch_bne]
      · simp only [push_cast, ↓branch_true, ↓branch_false, Nat.reduceBEq, Nat.reduceAdd, Nat.reduceMul, Nat.reduceSub, Int.reduceToNat, reduceCtorEq, branch_decide, branch_not, branch_beq, branch_bne]
      rintro _ _ ⟨cap4, hcap4, rfl, rfl⟩
      rw [n1, n2, n3]
      simp only [push_cast, ↓branch_true, ↓branch_false, Nat.reduceBEq, Nat.reduceAdd, Nat.reduceMul, Nat.reduceSub, Int.reduceToNat, reduceCtorEq, branch_decide, branch_not, branch_beq, branch_bne]
      intro _
      refine sp_call (contains_pu S (nearV l sum) cap (by omega)) rfl [2] rfl (by simp only [push_cast, ↓branch_true, ↓branch_false, Nat.reduceBEq, Nat.reduceAdd, Nat.reduceMul, Nat.reduceSub, Int.reduceToNat, reduceCtorEq, branch_decide, branch_not, branch_beq, branch_bne]) (by simp only [push_cast, ↓branch_true, ↓branch_false, Nat.reduceBEq, Nat.reduceAdd, Nat.reduceMul, Nat.reduceSub, Int.reduceToNat, reduceCtorEq, branch_decide, branch_not, branch_beq, branch_bne]) ?_
      simp only [push_cast, ↓branch_true, ↓branch_false, Nat.reduceBEq, Nat.reduceAdd, Nat.reduceMul, Nat.reduceSub, Int.reduceToNat, reduceCtorEq, branch_decide, branch_not, branch_beq, branch_bne]
      refine ⟨fun _ => ?_, fun h => absurd hnm h⟩
      refine ⟨fun h => absurd h (by omega), fun _ => ?_⟩
      refine sp_call (containsI_pu S cap 37 [] [.p 2 0 0, .p 3 0 0] [⟨3, true, .st [.v (.int .i64 sum)]⟩, ⟨56, true, .st [.f (.func 35) [] [.p 1 0 0]]⟩, ⟨3, true, .st [.v (.int .i64 (nearV l sum))]⟩] (fun k => nrB sum k (nearV l sum)) rfl (by omega) fun x hx => hnp x hx) rfl [2, 1, 7, 6] rfl ?_ ?_ ?_
      · simp only [push_cast, ↓branch_true, ↓branch_false, Nat.reduceBEq, Nat.reduceAdd, Nat.reduceMul, Nat.reduceSub, Int.reduceToNat, reduceCtorEq, branch_decide, branch_not, branch_beq, branch_bne]
      · simp only [push_cast, ↓branch_true, ↓branch_false, Nat.reduceBEq, Nat.reduceAdd, Nat.reduceMul, Nat.reduceSub, Int.reduceToNat, reduceCtorEq, branch_decide, branch_not, branch_beq, branch_bne]
      rw [hna]
      simp only [push_cast, ↓branch_true, ↓branch_false, Nat.reduceBEq, Nat.reduceAdd, Nat.reduceMul, Nat.reduceSub, Int.reduceToNat, reduceCtorEq, branch_decide, branch_not, branch_beq, branch_bne]
  · skip
    refine sp_at (near_sp l sum c (by omega)) [0] rfl ?_ ?_ ?_
    · simp only [push_cast, ↓branch_true, ↓branch_false, Nat.reduceBEq, Nat.reduceAdd, Nat.reduceMul, Nat.reduceSub, Int.reduceToNat, reduceCtorEq, branch_decide, branch_not, branch_beq, branch_bne]
    · simp only [push_cast, ↓branch_true, ↓branch_false, Nat.reduceBEq, Nat.reduceAdd, Nat.reduceMul, Nat.reduceSub, Int.reduceToNat, reduceCtorEq, branch_decide, branch_not, branch_beq, branch_bne]
    rintro _ _ ⟨cap4, hcap4, rfl, rfl⟩
    rw [n1, n2, n3]
    simp only [push_cast, ↓branch_true, ↓branch_false, Nat.reduceBEq, Nat.reduceAdd, Nat.reduceMul, Nat.reduceSub, Int.reduceToNat, reduceCtorEq, branch_decide, branch_not, branch_beq, branch_bne]
    intro _
    refine sp_call (contains_pu S (nearV l sum) cap (by omega)) rfl [2] rfl (by simp only [push_cast, ↓branch_true, ↓branch_false, Nat.reduceBEq, Nat.reduceAdd, Nat.reduceMul, Nat.reduceSub, Int.reduceToNat, reduceCtorEq, branch_decide, branch_not, branch_beq, branch_bne]) (by simp only [push_cast, ↓branch_true, ↓branch_false, Nat.reduceBEq, Nat.reduceAdd, Nat.reduceMul, Nat.reduceSub, Int.reduceToNat, reduceCtorEq, branch_decide, branch_not, branch_beq, branch_bne]) ?_
    simp only [push_cast, ↓branch_true, ↓branch_false, Nat.reduceBEq, Nat.reduceAdd, Nat.reduceMul, Nat.reduceSub, Int.reduceToNat, reduceCtorEq, branch_decide, branch_not, branch_beq, branch_bne]
    refine ⟨fun _ => ?_, fun h => absurd hnm h⟩
    refine ⟨fun h => absurd h (by omega), fun _ => ?_⟩
    refine sp_call (containsI_pu S cap 37 [] [.p 2 0 0, .p 3 0 0] [⟨3, true, .st [.v (.int .i64 sum)]⟩, ⟨56, true, .st [.f (.func 35) [] [.p 1 0 0]]⟩, ⟨3, true, .st [.v (.int .i64 (nearV l sum))]⟩] (fun k => nrB sum k (nearV l sum)) rfl (by omega) fun x hx => hnp x hx) rfl [2, 1, 7, 6] rfl ?_ ?_ ?_
    · simp only [push_cast, ↓branch_true, ↓branch_false, Nat.reduceBEq, Nat.reduceAdd, Nat.reduceMul, Nat.reduceSub, Int.reduceToNat, reduceCtorEq, branch_decide, branch_not, branch_beq, branch_bne]
    · simp only [push_cast, ↓branch_true, ↓branch_false, Nat.reduceBEq, Nat.reduceAdd, Nat.reduceMul, Nat.reduceSub, Int.reduceToNat, reduceCtorEq, branch_decide, branch_not, branch_beq, branch_bne]
    rw [hna]
    simp only [push_cast, ↓branch_true, ↓branch_false, Nat.reduceBEq, Nat.reduceAdd, Nat.reduceMul, Nat.reduceSub, Int.reduceToNat, reduceCtorEq, branch_decide, branch_not, branch_beq, branch_bne]
end Go.Proofs.YtapbhppfecfobaaDoor
