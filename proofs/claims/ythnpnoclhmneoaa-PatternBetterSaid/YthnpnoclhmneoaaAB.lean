/- PatternEach: the walk. -/
import Derived.Test.YthnpnoclhmneoaaAA
set_option maxRecDepth 100000
set_option linter.unusedSimpArgs false
set_option linter.unusedVariables false
namespace Go.Proofs.Ythnpnoclhmneoaa
open Go.RowKit
theorem each_sp8 (length : Int) (l : List Pc) (p : List Int) (c cp : Nat) (hl : l.length ≤ 9223372036854775807) (hl2 : p.length ≤ 9223372036854775807) :
    Sp Try.prog 8 [.v (.int .i64 length), .s 0 0 0 l.length c 2, .s 1 0 0 p.length cp 1] [rPc l, rInt 3 p] trueK := by
  refine sp_of_ex true [] mixed Try.call8 Try.func8 rfl Try.ntmps8 Try.results8 (by decide +kernel) rfl ?_
  simp only [push_cast, ↓branch_true, ↓branch_false, Nat.reduceBEq, Nat.reduceAdd, Nat.reduceMul, Nat.reduceSub, Int.reduceToNat, reduceCtorEq, branch_decide, branch_not, branch_beq, branch_bne]
  refine sp_at awake_sp [] rfl (by (simp only [push_cast, ↓branch_true, ↓branch_false, Nat.reduceBEq, Nat.reduceAdd, Nat.reduceMul, Nat.reduceSub, Int.reduceToNat, reduceCtorEq, branch_decide, branch_not, branch_beq, branch_bne])) (by (simp only [push_cast, ↓branch_true, ↓branch_false, Nat.reduceBEq, Nat.reduceAdd, Nat.reduceMul, Nat.reduceSub, Int.reduceToNat, reduceCtorEq, branch_decide, branch_not, branch_beq, branch_bne])) ?_
  rintro r0 H1 ⟨rfl, rfl⟩
  simp only [push_cast, ↓branch_true, ↓branch_false, Nat.reduceBEq, Nat.reduceAdd, Nat.reduceMul, Nat.reduceSub, Int.reduceToNat, reduceCtorEq, branch_decide, branch_not, branch_beq, branch_bne]
  refine sp_call (ready_pu length l c hl) rfl [0] rfl (by simp only [push_cast, ↓branch_true, ↓branch_false, Nat.reduceBEq, Nat.reduceAdd, Nat.reduceMul, Nat.reduceSub, Int.reduceToNat, reduceCtorEq, branch_decide, branch_not, branch_beq, branch_bne]) (by simp only [push_cast, ↓branch_true, ↓branch_false, Nat.reduceBEq, Nat.reduceAdd, Nat.reduceMul, Nat.reduceSub, Int.reduceToNat, reduceCtorEq, branch_decide, branch_not, branch_beq, branch_bne]) ?_
  simp only [push_cast, ↓branch_true, ↓branch_false, Nat.reduceBEq, Nat.reduceAdd, Nat.reduceMul, Nat.reduceSub, Int.reduceToNat, reduceCtorEq, branch_decide, branch_not, branch_beq, branch_bne]
  simp only [branch]
  refine ⟨fun hr => ?_, fun _ => rfl⟩
  obtain ⟨r1, r2, r3⟩ := ready_given hr
  obtain ⟨g1, g2, g3, g4⟩ := given_0 r3
  have hpos := posL_of g1
  refine ⟨fun _ => rfl, fun hp => ?_⟩
  refine sp_at (allX_sp length l c hl) [0] rfl ?_ ?_ ?_
  · simp only [push_cast, ↓branch_true, ↓branch_false, Nat.reduceBEq, Nat.reduceAdd, Nat.reduceMul, Nat.reduceSub, Int.reduceToNat, reduceCtorEq, branch_decide, branch_not, branch_beq, branch_bne]
  · simp only [push_cast, ↓branch_true, ↓branch_false, Nat.reduceBEq, Nat.reduceAdd, Nat.reduceMul, Nat.reduceSub, Int.reduceToNat, reduceCtorEq, branch_decide, branch_not, branch_beq, branch_bne]
  rintro r0 H1 ⟨oc, caps, rfl, q1, rfl⟩
  simp only [push_cast, ↓branch_true, ↓branch_false, Nat.reduceBEq, Nat.reduceAdd, Nat.reduceMul, Nat.reduceSub, Int.reduceToNat, reduceCtorEq, branch_decide, branch_not, branch_beq, branch_bne]
  refine ⟨fun he => ?_, fun he => ?_⟩
  · have hA : allL length l = maxE length l := by rw [allL, if_pos he, allG_max r3]
    have hAl := allL_len length l
    have hdesc : descL (allL length l) := by rw [hA]; exact List.Pairwise.filter _ each_desc
    have hfit : ∀ x ∈ allL length l, Fit length l x ∧ fullB (length - sumL l x) l x = true := fun x hx => (mem_maxE hpos (by omega)).1 (hA ▸ hx)
    have hne := maxE_ne hpos (show 0 ≤ length by omega)
    rw [← hA] at hne
    have hcov : ∀ q, Fit length l q → (allL length l).any (fun x => covB x q) = true := fun q hq => by
      obtain ⟨x, hx, hc⟩ := covered hpos (by omega) _ (Nat.le_refl _) hq
      exact List.any_eq_true.2 ⟨x, hA ▸ hx, hc⟩
    have hmem : ∀ q, Fit length l q → fullB (length - sumL l q) l q = (allL length l).any (fun x => decide (x = q)) := fun q hq => by
      rw [Bool.eq_iff_iff, List.any_eq_true]
      constructor
      · intro h
        exact ⟨q, hA ▸ (mem_maxE hpos (by omega)).2 ⟨hq, h⟩, by simp⟩
      · rintro ⟨x, hx, hxe⟩
        obtain rfl : x = q := by simpa using hxe
        exact (hfit _ hx).2
    generalize allL length l = A at *
    refine tr_loop0 mixed (by kernel_rfl) (fun (i : Nat) => [(46, .v (.int .i64 i)), (45, .v (.int .i64 A.length)), (44, .s 4 0 0 A.length oc 1), (7, .s 4 0 0 A.length oc 1), (0, .v (.int .i64 length)), (1, .s 0 0 0 l.length c 2), (5, .p 2 0 0)]) (fun i => i ≤ A.length) (fun i => A.length - i) 0 (Nat.zero_le _) ?_ ?_
    · simp only [push_cast, ↓branch_true, ↓branch_false, Nat.reduceBEq, Nat.reduceAdd, Nat.reduceMul, Nat.reduceSub, Int.reduceToNat, reduceCtorEq, branch_decide, branch_not, branch_beq, branch_bne]
    intro i hi
    simp only [push_cast, ↓branch_true, ↓branch_false, Nat.reduceBEq, Nat.reduceAdd, Nat.reduceMul, Nat.reduceSub, Int.reduceToNat, reduceCtorEq, branch_decide, branch_not, branch_beq, branch_bne]
    refine ⟨fun h => ?_, fun h => ?_⟩
    · have hx := hfit _ (ix_mem (show i < A.length by omega))
      have hxl := hx.1.1
      have hmv : maximalV length l (ix A i) = .t [.v (.bool true), .v (.int .i64 0)] := by
        have h1 : givenE length l (ix A i).length = 0 := by rw [hxl]; exact r3
        have h2 := leftO_fits (fun q hq => (hpos q hq).1) hxl (show 0 ≤ length by omega)
        rw [if_pos ⟨hx.1.2.1, hx.1.2.2⟩] at h2
        simp [maximalV, h1, h2, hx.2]
      have hmp := maximalM_pu length l A i c (caps i) (by omega) (by omega)
      rw [hmv, hxl] at hmp
      repeat (with_reducible refine And.intro (by omega) ?_)
      refine sp_call hmp rfl [0, 3] rfl ?_ ?_ ?_
      · simp only [push_cast, ↓branch_true, ↓branch_false, Nat.reduceBEq, Nat.reduceAdd, Nat.reduceMul, Nat.reduceSub, Int.reduceToNat, reduceCtorEq, branch_decide, branch_not, branch_beq, branch_bne]
      · simp only [push_cast, ↓branch_true, ↓branch_false, Nat.reduceBEq, Nat.reduceAdd, Nat.reduceMul, Nat.reduceSub, Int.reduceToNat, reduceCtorEq, branch_decide, branch_not, branch_beq, branch_bne]
        exact fun k hk => Nat.le_of_eq (q1 _ (ix_mem hk))
      simp only [push_cast, ↓branch_true, ↓branch_false, Nat.reduceBEq, Nat.reduceAdd, Nat.reduceMul, Nat.reduceSub, Int.reduceToNat, reduceCtorEq, branch_decide, branch_not, branch_beq, branch_bne]
      intro _ _
      refine ⟨fun h0 => ?_, fun h0 => ?_⟩
      · have e : ((i : Int) - 1).toNat = i - 1 := by omega
        simp only [e]
        have hc := compare_pu A A i (i - 1) (caps i) (caps (i - 1)) (by omega) (by omega) (by omega) (by rw [q1 _ (ix_mem (show i - 1 < A.length by omega))]; omega)
        rw [desc_ix hdesc (show i - 1 < i by omega) (by omega), hxl, q1 _ (ix_mem (show i - 1 < A.length by omega))] at hc
        repeat (with_reducible refine And.intro (by omega) ?_)
        refine sp_call hc rfl [3, 3] rfl ?_ ?_ ?_
        · simp only [push_cast, ↓branch_true, ↓branch_false, Nat.reduceBEq, Nat.reduceAdd, Nat.reduceMul, Nat.reduceSub, Int.reduceToNat, reduceCtorEq, branch_decide, branch_not, branch_beq, branch_bne]
        · simp only [push_cast, ↓branch_true, ↓branch_false, Nat.reduceBEq, Nat.reduceAdd, Nat.reduceMul, Nat.reduceSub, Int.reduceToNat, reduceCtorEq, branch_decide, branch_not, branch_beq, branch_bne]
          exact ⟨fun k hk => Nat.le_of_eq (q1 _ (ix_mem hk)), fun k hk => Nat.le_of_eq (q1 _ (ix_mem hk))⟩
        simp only [push_cast, ↓branch_true, ↓branch_false, Nat.reduceBEq, Nat.reduceAdd, Nat.reduceMul, Nat.reduceSub, Int.reduceToNat, reduceCtorEq, branch_decide, branch_not, branch_beq, branch_bne]
        refine ⟨fun h => absurd h (by decide), fun _ => ?_⟩
        repeat (with_reducible refine And.intro (by omega) ?_)
        refine lp0_normal (i + 1) (by omega) (by omega) ?_
        simp only [push_cast, ↓branch_true, ↓branch_false, Nat.reduceBEq, Nat.reduceAdd, Nat.reduceMul, Nat.reduceSub, Int.reduceToNat, reduceCtorEq, branch_decide, branch_not, branch_beq, branch_bne]
      · repeat (with_reducible refine And.intro (by omega) ?_)
        refine lp0_normal (i + 1) (by omega) (by omega) ?_
        simp only [push_cast, ↓branch_true, ↓branch_false, Nat.reduceBEq, Nat.reduceAdd, Nat.reduceMul, Nat.reduceSub, Int.reduceToNat, reduceCtorEq, branch_decide, branch_not, branch_beq, branch_bne]
    · obtain rfl : i = A.length := by omega
      refine sp_call (valid_pu length l p c cp (by omega)) rfl [0, 1] rfl ?_ ?_ ?_
      · simp only [push_cast, ↓branch_true, ↓branch_false, Nat.reduceBEq, Nat.reduceAdd, Nat.reduceMul, Nat.reduceSub, Int.reduceToNat, reduceCtorEq, branch_decide, branch_not, branch_beq, branch_bne]
      · simp only [push_cast, ↓branch_true, ↓branch_false, Nat.reduceBEq, Nat.reduceAdd, Nat.reduceMul, Nat.reduceSub, Int.reduceToNat, reduceCtorEq, branch_decide, branch_not, branch_beq, branch_bne]
      simp only [push_cast, ↓branch_true, ↓branch_false, Nat.reduceBEq, Nat.reduceAdd, Nat.reduceMul, Nat.reduceSub, Int.reduceToNat, reduceCtorEq, branch_decide, branch_not, branch_beq, branch_bne]
      refine ⟨fun hg => ?_, fun hg => ?_⟩
      · have hpl : p.length = l.length := by have := (given_0 hg).2.2.2; omega
        have lo := leftO_fits (fun q hq => (hpos q hq).1) hpl (show 0 ≤ length by omega)
        by_cases hf : inB l p = true ∧ sumL l p ≤ length
        · rw [if_pos hf] at lo
          have hfp : Fit length l p := ⟨hpl, hf.1, hf.2⟩
          have hmv : maximalV length l p = .t [.v (.bool (fullB (length - sumL l p) l p)), .v (.int .i64 0)] := by
            simp [maximalV, hg, lo]
          have hmp := maximal_pu length l p c cp (by omega)
          rw [hmv] at hmp
          simp only [lo, hg, decide_true, Option.isSome_some, Bool.and_self, branch_true]
          refine sp_call hmp rfl [0, 1] rfl ?_ ?_ ?_
          · simp only [push_cast, ↓branch_true, ↓branch_false, Nat.reduceBEq, Nat.reduceAdd, Nat.reduceMul, Nat.reduceSub, Int.reduceToNat, reduceCtorEq, branch_decide, branch_not, branch_beq, branch_bne]
          · simp only [push_cast, ↓branch_true, ↓branch_false, Nat.reduceBEq, Nat.reduceAdd, Nat.reduceMul, Nat.reduceSub, Int.reduceToNat, reduceCtorEq, branch_decide, branch_not, branch_beq, branch_bne]
          simp only [push_cast, ↓branch_true, ↓branch_false, Nat.reduceBEq, Nat.reduceAdd, Nat.reduceMul, Nat.reduceSub, Int.reduceToNat, reduceCtorEq, branch_decide, branch_not, branch_beq, branch_bne]
          have hA9 : A.length ≤ 9223372036854775807 := by omega
          have hc1 := containsLL_pu A caps oc 32 [] [.p 2 0 0] [rBox 3 p cp, rInt 3 p] (fun x => covB x p) rfl hA9 fun k hk => by
            have := q1 _ (ix_mem hk)
            refine pu_at (cover_pu A k p (caps k) cp hk (by omega) (by omega)) rfl [0, 2, 3] rfl ?_ ?_
            · simp only [push_cast, ↓branch_true, ↓branch_false, Nat.reduceBEq, Nat.reduceAdd, Nat.reduceMul, Nat.reduceSub, Int.reduceToNat, reduceCtorEq, branch_decide, branch_not, branch_beq, branch_bne]
            · simp only [push_cast, ↓branch_true, ↓branch_false, Nat.reduceBEq, Nat.reduceAdd, Nat.reduceMul, Nat.reduceSub, Int.reduceToNat, reduceCtorEq, branch_decide, branch_not, branch_beq, branch_bne]
          have hc2 := containsLL_pu A caps oc 33 [] [.p 2 0 0] [rBox 3 p cp, rInt 3 p] (fun x => decide (x = p)) rfl hA9 fun k hk => by
            have := q1 _ (ix_mem hk)
            refine pu_at (same_pu A k p (caps k) cp hk (by omega) (by omega)) rfl [0, 2, 3] rfl ?_ ?_
            · simp only [push_cast, ↓branch_true, ↓branch_false, Nat.reduceBEq, Nat.reduceAdd, Nat.reduceMul, Nat.reduceSub, Int.reduceToNat, reduceCtorEq, branch_decide, branch_not, branch_beq, branch_bne]
            · simp only [push_cast, ↓branch_true, ↓branch_false, Nat.reduceBEq, Nat.reduceAdd, Nat.reduceMul, Nat.reduceSub, Int.reduceToNat, reduceCtorEq, branch_decide, branch_not, branch_beq, branch_bne]
          rw [hcov p hfp] at hc1
          rw [← hmem p hfp] at hc2
          refine sp_call hc1 rfl [3, 4, 2, 1] rfl ?_ ?_ ?_
          · simp only [push_cast, ↓branch_true, ↓branch_false, Nat.reduceBEq, Nat.reduceAdd, Nat.reduceMul, Nat.reduceSub, Int.reduceToNat, reduceCtorEq, branch_decide, branch_not, branch_beq, branch_bne]
          · simp only [push_cast, ↓branch_true, ↓branch_false, Nat.reduceBEq, Nat.reduceAdd, Nat.reduceMul, Nat.reduceSub, Int.reduceToNat, reduceCtorEq, branch_decide, branch_not, branch_beq, branch_bne]
            exact ⟨fun i hi => Nat.le_of_eq (q1 _ (ix_mem hi)), fun i hi k hk => q1 _ (ix_mem hk)⟩
          simp only [push_cast, ↓branch_true, ↓branch_false, Nat.reduceBEq, Nat.reduceAdd, Nat.reduceMul, Nat.reduceSub, Int.reduceToNat, reduceCtorEq, branch_decide, branch_not, branch_beq, branch_bne]
          refine sp_call hc2 rfl [3, 4, 2, 1] rfl ?_ ?_ ?_
          · simp only [push_cast, ↓branch_true, ↓branch_false, Nat.reduceBEq, Nat.reduceAdd, Nat.reduceMul, Nat.reduceSub, Int.reduceToNat, reduceCtorEq, branch_decide, branch_not, branch_beq, branch_bne]
          · simp only [push_cast, ↓branch_true, ↓branch_false, Nat.reduceBEq, Nat.reduceAdd, Nat.reduceMul, Nat.reduceSub, Int.reduceToNat, reduceCtorEq, branch_decide, branch_not, branch_beq, branch_bne]
            exact ⟨fun i hi => Nat.le_of_eq (q1 _ (ix_mem hi)), fun i hi k hk => q1 _ (ix_mem hk)⟩
          simp only [push_cast, ↓branch_true, ↓branch_false, Nat.reduceBEq, Nat.reduceAdd, Nat.reduceMul, Nat.reduceSub, Int.reduceToNat, reduceCtorEq, branch_decide, branch_not, branch_beq, branch_bne]
          exact rfl
        · rw [if_neg hf] at lo
          simp only [lo, Option.isSome_none, Bool.and_false, branch_false]
          rw [decide_eq_true (by omega)]
          exact rfl
      · rw [decide_eq_true (by omega)]
        exact rfl
  · have hA : allL length l = [] := by rw [allL, if_neg he]
    have h6 : allE length l = 6 := by
      unfold allE at he ⊢
      rw [if_neg (by simp [r3]), if_neg (by omega)] at he ⊢
      split at he
      · rw [if_pos (by assumption)]
      · exact absurd rfl he
    rw [hA, h6]
    exact ⟨fun _ => rfl, fun h => absurd rfl h⟩
end Go.Proofs.Ythnpnoclhmneoaa
