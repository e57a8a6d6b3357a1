/- SubsetsOrder: the walk. -/
import Derived.Test.YtapbhppfecfobaaDoorAG
set_option maxRecDepth 100000
set_option linter.unusedSimpArgs false
set_option linter.unusedVariables false
namespace Go.Proofs.YtapbhppfecfobaaDoor
open Go.RowKit
/-- A list whose first k numbers are turned to their opposites. -/
def ngL (l : List Int) (k : Nat) : List Int := (List.range l.length).map fun q => if q < k then -ix l q else ix l q
theorem ngL_len (l : List Int) (k : Nat) : (ngL l k).length = l.length := by simp [ngL]
theorem ngL_ix {l : List Int} {k q : Nat} (h : q < l.length) : ix (ngL l k) q = if q < k then -ix l q else ix l q := by
  rw [ix_eq (by rw [ngL_len]; exact h)]; simp [ngL]
theorem ngL_all (l : List Int) : ngL l l.length = l.map fun x => -x := by
  refine List.ext_getElem (by simp [ngL]) fun q h1 h2 => ?_
  have h : q < l.length := by simpa [ngL] using h1
  simp [ngL, h, ix_eq h]
theorem ng_set {l : List Int} {k i1 q : Nat} {rl : List Nat} (hi : i1 < 1) (hq : q < l.length) (hk : k < l.length) : Value.int IntKind.i64 (ix (ngL l (k + 1)) q) = Value.int IntKind.i64 (bif i1 == 0 && q == k then -ix l k else ix (ngL l k) q) ∧ mtL rl [] (bif i1 == 0 && q == k then [] else []) := by
  obtain rfl : i1 = 0 := by omega
  rw [ngL_ix hq, ngL_ix hq]
  by_cases e : q = k
  · subst e
    have hb : (q == q) = true := by simp
    rw [hb, if_pos (by omega)]
    exact ⟨rfl, trivial⟩
  · have hb : (q == k) = false := by simpa using e
    rw [hb]
    refine ⟨?_, trivial⟩
    show Value.int _ _ = Value.int _ (if q < k then _ else _)
    by_cases h : q < k
    · rw [if_pos h, if_pos (by omega)]
    · rw [if_neg h, if_neg (by omega)]
theorem app2_row (l : List Int) (m : Int) {k : Nat} (hk : k < l.length + 2) : appF l.length 2 (fun k => [.v (.int .i64 (ix l k))]) (fun k => List.take 1 (List.drop (k * 1) [.v (.int .i64 m), .v (.int .i64 (-m))])) k = [.v (.int .i64 (ix (l ++ [m, -m]) k))] := by
  rw [appF_eq hk]
  by_cases h : k < l.length
  · rw [if_pos h]
    have e : ix (l ++ [m, -m]) k = ix l k := by
      unfold ix
      rw [List.getD_eq_getElem?_getD, List.getD_eq_getElem?_getD, List.getElem?_append_left h]
    rw [e]
  · rw [if_neg h]
    have e : ∀ j, ix (l ++ [m, -m]) (l.length + j) = ix [m, -m] j := fun j => by
      unfold ix
      rw [List.getD_eq_getElem?_getD, List.getD_eq_getElem?_getD, List.getElem?_append_right (by omega), show l.length + j - l.length = j by omega]
    rcases (by omega : k = l.length ∨ k = l.length + 1) with rfl | rfl
    · have := e 0
      rw [Nat.add_zero] at this
      rw [this, Nat.sub_self]; rfl
    · rw [e 1, show l.length + 1 - l.length = 1 by omega]; rfl
set_option maxHeartbeats 2000000 in
theorem lorder_sp (l : List Int) (more : Int) (c : Nat) (hl : l.length ≤ 9223372036854775807) (hc : l.length ≤ c) (hm : 0 ≤ more ∧ more ≤ 4294967295) : Sp Tryd.prog 4 [.s 0 0 0 l.length c 1, .v (.int .u32 more)] [rR l] (fun r _ => r = .v (.bool true)) := by
  have hbig := big_eq
  refine sp_of_ex true [] mixed Tryd.call4 Tryd.func4 rfl Tryd.ntmps4 Tryd.results4 (by decide +kernel) rfl ?_
  simp only [push_cast, ↓branch_true, ↓branch_false, Nat.reduceBEq, Nat.reduceAdd, Nat.reduceMul, Nat.reduceSub, Int.reduceToNat, reduceCtorEq, branch_decide, branch_not, branch_beq, branch_bne]
  refine sp_at awake_sp [] rfl ?_ ?_ ?_
  · simp only [push_cast, ↓branch_true, ↓branch_false, Nat.reduceBEq, Nat.reduceAdd, Nat.reduceMul, Nat.reduceSub, Int.reduceToNat, reduceCtorEq, branch_decide, branch_not, branch_beq, branch_bne]
  · simp only [push_cast, ↓branch_true, ↓branch_false, Nat.reduceBEq, Nat.reduceAdd, Nat.reduceMul, Nat.reduceSub, Int.reduceToNat, reduceCtorEq, branch_decide, branch_not, branch_beq, branch_bne]
  rintro _ _ ⟨rfl, rfl⟩
  simp only [push_cast, ↓branch_true, ↓branch_false, Nat.reduceBEq, Nat.reduceAdd, Nat.reduceMul, Nat.reduceSub, Int.reduceToNat, reduceCtorEq, branch_decide, branch_not, branch_beq, branch_bne]
  intro h8
  refine sp_call (rgiven_pu l c hl) rfl [0] rfl (by simp only [push_cast, ↓branch_true, ↓branch_false, Nat.reduceBEq, Nat.reduceAdd, Nat.reduceMul, Nat.reduceSub, Int.reduceToNat, reduceCtorEq, branch_decide, branch_not, branch_beq, branch_bne]) (by simp only [push_cast, ↓branch_true, ↓branch_false, Nat.reduceBEq, Nat.reduceAdd, Nat.reduceMul, Nat.reduceSub, Int.reduceToNat, reduceCtorEq, branch_decide, branch_not, branch_beq, branch_bne]) ?_
  simp only [push_cast, ↓branch_true, ↓branch_false, Nat.reduceBEq, Nat.reduceAdd, Nat.reduceMul, Nat.reduceSub, Int.reduceToNat, reduceCtorEq, branch_decide, branch_not, branch_beq, branch_bne]
  intro hg
  obtain ⟨h1, h2⟩ := given_0 hg
  refine sp_at (clone_sp l c (by omega) hc) [0] rfl ?_ ?_ ?_
  · simp only [push_cast, ↓branch_true, ↓branch_false, Nat.reduceBEq, Nat.reduceAdd, Nat.reduceMul, Nat.reduceSub, Int.reduceToNat, reduceCtorEq, branch_decide, branch_not, branch_beq, branch_bne]
  · simp only [push_cast, ↓branch_true, ↓branch_false, Nat.reduceBEq, Nat.reduceAdd, Nat.reduceMul, Nat.reduceSub, Int.reduceToNat, reduceCtorEq, branch_decide, branch_not, branch_beq, branch_bne]
  rintro _ _ ⟨cap, hcap, rfl, rfl⟩
  simp only [push_cast, ↓branch_true, ↓branch_false, Nat.reduceBEq, Nat.reduceAdd, Nat.reduceMul, Nat.reduceSub, Int.reduceToNat, reduceCtorEq, branch_decide, branch_not, branch_beq, branch_bne]
  refine sp_at (clone_sp l c (by omega) hc) [0] rfl ?_ ?_ ?_
  · simp only [push_cast, ↓branch_true, ↓branch_false, Nat.reduceBEq, Nat.reduceAdd, Nat.reduceMul, Nat.reduceSub, Int.reduceToNat, reduceCtorEq, branch_decide, branch_not, branch_beq, branch_bne]
  · simp only [push_cast, ↓branch_true, ↓branch_false, Nat.reduceBEq, Nat.reduceAdd, Nat.reduceMul, Nat.reduceSub, Int.reduceToNat, reduceCtorEq, branch_decide, branch_not, branch_beq, branch_bne]
  rintro _ _ ⟨cap2, hcap2, rfl, rfl⟩
  simp only [push_cast, ↓branch_true, ↓branch_false, Nat.reduceBEq, Nat.reduceAdd, Nat.reduceMul, Nat.reduceSub, Int.reduceToNat, reduceCtorEq, branch_decide, branch_not, branch_beq, branch_bne]
  refine sp_at (reverse_sp l cap (by omega) hcap) [1] rfl ?_ ?_ ?_
  · simp only [push_cast, ↓branch_true, ↓branch_false, Nat.reduceBEq, Nat.reduceAdd, Nat.reduceMul, Nat.reduceSub, Int.reduceToNat, reduceCtorEq, branch_decide, branch_not, branch_beq, branch_bne]
  · simp only [push_cast, ↓branch_true, ↓branch_false, Nat.reduceBEq, Nat.reduceAdd, Nat.reduceMul, Nat.reduceSub, Int.reduceToNat, reduceCtorEq, branch_decide, branch_not, branch_beq, branch_bne]
  rintro _ _ ⟨rfl, rfl⟩
  simp only [push_cast, ↓branch_true, ↓branch_false, Nat.reduceBEq, Nat.reduceAdd, Nat.reduceMul, Nat.reduceSub, Int.reduceToNat, reduceCtorEq, branch_decide, branch_not, branch_beq, branch_bne]
  have hBl : l.reverse.length = l.length := List.length_reverse
  refine tr_loop mixed (by kernel_rfl) (fun (k : Nat) => [(41, .v (.int .i64 k)), (40, .v (.int .i64 l.length)), (39, .s 2 0 0 l.length cap2 1), (6, .s 2 0 0 l.length cap2 1), (5, .s 1 0 0 l.length cap 1), (0, .s 0 0 0 l.length c 1), (1, .v (.int .u32 more))])
    (fun k => [rR l, rIO l.reverse cap, rIO (ngL l k) cap2]) (fun k => k ≤ l.length) (fun k => l.length - k) 0 (Nat.zero_le _) (Mt.wk (rl := [0, 1, 2]) ⟨by kernel_rfl, ?_, ?_⟩) ?_
  · simp only [push_cast, ↓branch_true, ↓branch_false, Nat.reduceBEq, Nat.reduceAdd, Nat.reduceMul, Nat.reduceSub, Int.reduceToNat, reduceCtorEq, branch_decide, branch_not, branch_beq, branch_bne]
  · simp only [push_cast, ↓branch_true, ↓branch_false, Nat.reduceBEq, Nat.reduceAdd, Nat.reduceMul, Nat.reduceSub, Int.reduceToNat, reduceCtorEq, branch_decide, branch_not, branch_beq, branch_bne, ngL_len]
    intro _ _ q hq
    rw [ngL_ix hq, if_neg (Nat.not_lt_zero _)]
  intro k hk
  simp only [push_cast, ↓branch_true, ↓branch_false, Nat.reduceBEq, Nat.reduceAdd, Nat.reduceMul, Nat.reduceSub, Int.reduceToNat, reduceCtorEq, branch_decide, branch_not, branch_beq, branch_bne, ngL_len]
  refine ⟨fun h => ?_, fun h => ?_⟩
  · have hk2 : k < l.length := by omega
    have hir := ix_range h2 k
    have e0 : ix (ngL l k) k = ix l k := by rw [ngL_ix hk2, if_neg (Nat.lt_irrefl _)]
    rw [e0, show (0 : Int) - ix l k = -ix l k by omega]
    repeat (with_reducible refine And.intro (by omega) ?_)
    refine lpK_normal (k + 1) [0, 1, 2] (by omega) (by omega) (by kernel_rfl) ?_ ?_
    · simp only [push_cast, ↓branch_true, ↓branch_false, Nat.reduceBEq, Nat.reduceAdd, Nat.reduceMul, Nat.reduceSub, Int.reduceToNat, reduceCtorEq, branch_decide, branch_not, branch_beq, branch_bne]
    · simp only [push_cast, ↓branch_true, ↓branch_false, Nat.reduceBEq, Nat.reduceAdd, Nat.reduceMul, Nat.reduceSub, Int.reduceToNat, reduceCtorEq, branch_decide, branch_not, branch_beq, branch_bne, ngL_len]
      exact fun _ h _ h3 => ng_set h h3 hk2
  obtain rfl : k = l.length := by omega
  rw [ngL_all]
  obtain ⟨gB, eB, lB⟩ := rev_facts hg
  obtain ⟨gM, eM, pM⟩ := neg_facts hg
  have sB : sumsR l.reverse = sumsL l := by rw [sumsR, if_neg (by simp [gB]), sumsL_rev h1]
  have sM : sumsR (l.map fun x => -x) = ((sumsL l).map fun x => -x).reverse := by rw [sumsR, if_neg (by simp [gM]), sumsL_neg]
  have sL : sumsR l = sumsL l := if_neg (by simp [hg])
  have hMl : (l.map fun x => -x).length = l.length := List.length_map _
  have hsl := sumsL_len l
  have hp : 2 ^ l.length ≤ 2 ^ 16 := Nat.pow_le_pow_right (by decide) h1
  have hCl : ((sumsL l).map fun x => -x).reverse.length = (sumsL l).length := by simp
  have hCi : ∀ i, i < (sumsL l).length → ix ((sumsL l).map fun x => -x).reverse ((sumsL l).length - 1 - i) = -ix (sumsL l) i := fun i hi => by
    rw [ix_eq (by simp; omega), ix_eq hi]
    simp only [List.getElem_reverse, List.getElem_map, List.length_map]
    congr 2
    omega
  have hSr : ∀ k, k < (sumsL l).length → -36028797018963968 ≤ ix (sumsL l) k ∧ ix (sumsL l) k ≤ 36028797018963968 := fun k h => sumsL_range h2 h
  have hMore : partsE l = 0 → _ := fun h => more_facts (m := more) h (by omega) hm
  have hpv := partsE_val hg
  have hps := parts_small l
  generalize hSS : sumsL l = S at *
  generalize hCC : (S.map fun x => -x).reverse = C at *
  generalize hBB : l.reverse = B at *
  generalize hMM : (l.map fun x => -x) = M at *
  refine sp_at (Sums_sp l c (by omega)) [0] rfl ?_ ?_ ?_
  · simp only [push_cast, ↓branch_true, ↓branch_false, Nat.reduceBEq, Nat.reduceAdd, Nat.reduceMul, Nat.reduceSub, Int.reduceToNat, reduceCtorEq, branch_decide, branch_not, branch_beq, branch_bne]
  · simp only [push_cast, ↓branch_true, ↓branch_false, Nat.reduceBEq, Nat.reduceAdd, Nat.reduceMul, Nat.reduceSub, Int.reduceToNat, reduceCtorEq, branch_decide, branch_not, branch_beq, branch_bne]
  rintro _ _ ⟨cap3, hcap3, rfl, rfl⟩
  rw [sL, hg]
  simp only [push_cast, ↓branch_true, ↓branch_false, Nat.reduceBEq, Nat.reduceAdd, Nat.reduceMul, Nat.reduceSub, Int.reduceToNat, reduceCtorEq, branch_decide, branch_not, branch_beq, branch_bne]
  refine sp_at (Sums_sp B cap (by omega)) [1] rfl ?_ ?_ ?_
  · simp only [push_cast, ↓branch_true, ↓branch_false, Nat.reduceBEq, Nat.reduceAdd, Nat.reduceMul, Nat.reduceSub, Int.reduceToNat, reduceCtorEq, branch_decide, branch_not, branch_beq, branch_bne]
    exact hBl
  · simp only [push_cast, ↓branch_true, ↓branch_false, Nat.reduceBEq, Nat.reduceAdd, Nat.reduceMul, Nat.reduceSub, Int.reduceToNat, reduceCtorEq, branch_decide, branch_not, branch_beq, branch_bne]
  rintro _ _ ⟨cap4, hcap4, rfl, rfl⟩
  rw [sB, gB]
  simp only [push_cast, ↓branch_true, ↓branch_false, Nat.reduceBEq, Nat.reduceAdd, Nat.reduceMul, Nat.reduceSub, Int.reduceToNat, reduceCtorEq, branch_decide, branch_not, branch_beq, branch_bne]
  refine sp_at (Sums_sp M cap2 (by omega)) [2] rfl ?_ ?_ ?_
  · simp only [push_cast, ↓branch_true, ↓branch_false, Nat.reduceBEq, Nat.reduceAdd, Nat.reduceMul, Nat.reduceSub, Int.reduceToNat, reduceCtorEq, branch_decide, branch_not, branch_beq, branch_bne]
    exact hMl
  · simp only [push_cast, ↓branch_true, ↓branch_false, Nat.reduceBEq, Nat.reduceAdd, Nat.reduceMul, Nat.reduceSub, Int.reduceToNat, reduceCtorEq, branch_decide, branch_not, branch_beq, branch_bne]
    exact fun _ _ => by omega
  rintro _ _ ⟨cap5, hcap5, rfl, rfl⟩
  rw [sM, gM]
  simp only [push_cast, ↓branch_true, ↓branch_false, Nat.reduceBEq, Nat.reduceAdd, Nat.reduceMul, Nat.reduceSub, Int.reduceToNat, reduceCtorEq, branch_decide, branch_not, branch_beq, branch_bne]
  intro _ _ _
  refine sp_call (equal_pu S S cap3 cap4 (by omega) (by omega)) rfl [3, 4] rfl (by simp only [push_cast, ↓branch_true, ↓branch_false, Nat.reduceBEq, Nat.reduceAdd, Nat.reduceMul, Nat.reduceSub, Int.reduceToNat, reduceCtorEq, branch_decide, branch_not, branch_beq, branch_bne]) (by simp only [push_cast, ↓branch_true, ↓branch_false, Nat.reduceBEq, Nat.reduceAdd, Nat.reduceMul, Nat.reduceSub, Int.reduceToNat, reduceCtorEq, branch_decide, branch_not, branch_beq, branch_bne]) ?_
  simp only [push_cast, ↓branch_true, ↓branch_false, Nat.reduceBEq, Nat.reduceAdd, Nat.reduceMul, Nat.reduceSub, Int.reduceToNat, reduceCtorEq, branch_decide, branch_not, branch_beq, branch_bne]
  intro _
  refine ⟨fun _ => ?_, fun h => absurd (by omega) h⟩
  refine tr_loop0 mixed (by kernel_rfl) (fun (k : Nat) => [(93, .v (.int .i64 k)), (92, .v (.int .i64 S.length)), (8, .s 3 0 0 S.length cap3 1), (12, .s 5 0 0 C.length cap5 1), (5, .s 1 0 0 l.length cap 1), (6, .s 2 0 0 l.length cap2 1), (0, .s 0 0 0 l.length c 1), (1, .v (.int .u32 more))]) (fun k => k ≤ S.length) (fun k => S.length - k) 0 (Nat.zero_le _) ?_ ?_
  · simp only [push_cast, ↓branch_true, ↓branch_false, Nat.reduceBEq, Nat.reduceAdd, Nat.reduceMul, Nat.reduceSub, Int.reduceToNat, reduceCtorEq, branch_decide, branch_not, branch_beq, branch_bne]
    try exact ⟨rfl, rfl⟩
  intro k hk
  simp only [push_cast, ↓branch_true, ↓branch_false, Nat.reduceBEq, Nat.reduceAdd, Nat.reduceMul, Nat.reduceSub, Int.reduceToNat, reduceCtorEq, branch_decide, branch_not, branch_beq, branch_bne]
  refine ⟨fun h => ?_, fun h => ?_⟩
  · have hk2 : k < S.length := by omega
    have hr1 := hSr k hk2
    have hci := hCi k hk2
    have e6 : ((C.length : Int) - 1 - (k : Int)).toNat = S.length - 1 - k := by omega
    repeat (with_reducible refine And.intro (by omega) ?_)
    rw [e6, hci]
    repeat (with_reducible refine And.intro (by omega) ?_)
    refine ⟨fun _ => ?_, fun h => absurd (by omega) h⟩
    repeat (with_reducible refine And.intro (by omega) ?_)
    refine lp0_normal (k + 1) (by omega) (by omega) ?_
    simp only [push_cast, ↓branch_true, ↓branch_false, Nat.reduceBEq, Nat.reduceAdd, Nat.reduceMul, Nat.reduceSub, Int.reduceToNat, reduceCtorEq, branch_decide, branch_not, branch_beq, branch_bne]
  obtain rfl : k = S.length := by omega
  refine sp_at (Parts_sp l c (by omega)) [0] rfl ?_ ?_ ?_
  · simp only [push_cast, ↓branch_true, ↓branch_false, Nat.reduceBEq, Nat.reduceAdd, Nat.reduceMul, Nat.reduceSub, Int.reduceToNat, reduceCtorEq, branch_decide, branch_not, branch_beq, branch_bne]
  · simp only [push_cast, ↓branch_true, ↓branch_false, Nat.reduceBEq, Nat.reduceAdd, Nat.reduceMul, Nat.reduceSub, Int.reduceToNat, reduceCtorEq, branch_decide, branch_not, branch_beq, branch_bne]
  rintro _ _ ⟨o1, c1, ho1, rfl, rfl⟩
  simp only [push_cast, ↓branch_true, ↓branch_false, Nat.reduceBEq, Nat.reduceAdd, Nat.reduceMul, Nat.reduceSub, Int.reduceToNat, reduceCtorEq, branch_decide, branch_not, branch_beq, branch_bne]
  refine sp_at (Parts_sp B cap (by omega)) [1] rfl ?_ ?_ ?_
  · simp only [push_cast, ↓branch_true, ↓branch_false, Nat.reduceBEq, Nat.reduceAdd, Nat.reduceMul, Nat.reduceSub, Int.reduceToNat, reduceCtorEq, branch_decide, branch_not, branch_beq, branch_bne]
    exact hBl
  · simp only [push_cast, ↓branch_true, ↓branch_false, Nat.reduceBEq, Nat.reduceAdd, Nat.reduceMul, Nat.reduceSub, Int.reduceToNat, reduceCtorEq, branch_decide, branch_not, branch_beq, branch_bne]
  rintro _ _ ⟨o2, c2, ho2, rfl, rfl⟩
  simp only [push_cast, ↓branch_true, ↓branch_false, Nat.reduceBEq, Nat.reduceAdd, Nat.reduceMul, Nat.reduceSub, Int.reduceToNat, reduceCtorEq, branch_decide, branch_not, branch_beq, branch_bne]
  refine sp_at (Parts_sp M cap2 (by omega)) [2] rfl ?_ ?_ ?_
  · simp only [push_cast, ↓branch_true, ↓branch_false, Nat.reduceBEq, Nat.reduceAdd, Nat.reduceMul, Nat.reduceSub, Int.reduceToNat, reduceCtorEq, branch_decide, branch_not, branch_beq, branch_bne]
    exact hMl
  · simp only [push_cast, ↓branch_true, ↓branch_false, Nat.reduceBEq, Nat.reduceAdd, Nat.reduceMul, Nat.reduceSub, Int.reduceToNat, reduceCtorEq, branch_decide, branch_not, branch_beq, branch_bne]
  rintro _ _ ⟨o3, c3, ho3, rfl, rfl⟩
  rw [eB, eM, pM]
  simp only [push_cast, ↓branch_true, ↓branch_false, Nat.reduceBEq, Nat.reduceAdd, Nat.reduceMul, Nat.reduceSub, Int.reduceToNat, reduceCtorEq, branch_decide, branch_not, branch_beq, branch_bne]
  intro _ _
  refine ⟨fun _ => ?_, fun h => absurd (by omega) h⟩
  refine sp_call (same_pu (partsL l) (partsL l) o1 o3 c1 c3 (by omega) (by omega) (fun k => by have := hps.2 k; omega) (fun k => by have := hps.2 k; omega)) rfl [6, 7, 10, 11] rfl ?_ ?_ ?_
  · simp only [push_cast, ↓branch_true, ↓branch_false, Nat.reduceBEq, Nat.reduceAdd, Nat.reduceMul, Nat.reduceSub, Int.reduceToNat, reduceCtorEq, branch_decide, branch_not, branch_beq, branch_bne]
  · simp only [push_cast, ↓branch_true, ↓branch_false, Nat.reduceBEq, Nat.reduceAdd, Nat.reduceMul, Nat.reduceSub, Int.reduceToNat, reduceCtorEq, branch_decide, branch_not, branch_beq, branch_bne]
  rw [decide_eq_true rfl]
  simp only [push_cast, ↓branch_true, ↓branch_false, Nat.reduceBEq, Nat.reduceAdd, Nat.reduceMul, Nat.reduceSub, Int.reduceToNat, reduceCtorEq, branch_decide, branch_not, branch_beq, branch_bne]
  refine ⟨fun he => ?_, fun he => ?_⟩
  rotate_left
  · have h18 : partsE l = 18 := by
      rw [hpv]
      by_cases h : sumS l (allN l) = 0
      · exact absurd (by rw [hpv, if_pos h]) he
      · rw [if_neg h]
    have h0 : partsL l = [] := if_pos he
    rw [h18, h0]
    exact ⟨fun _ => rfl, fun h => absurd rfl h⟩
  obtain ⟨f1, f2⟩ := hMore he
  refine sp_at (clone_sp l c (by omega) hc) [0] rfl ?_ ?_ ?_
  · simp only [push_cast, ↓branch_true, ↓branch_false, Nat.reduceBEq, Nat.reduceAdd, Nat.reduceMul, Nat.reduceSub, Int.reduceToNat, reduceCtorEq, branch_decide, branch_not, branch_beq, branch_bne]
  · simp only [push_cast, ↓branch_true, ↓branch_false, Nat.reduceBEq, Nat.reduceAdd, Nat.reduceMul, Nat.reduceSub, Int.reduceToNat, reduceCtorEq, branch_decide, branch_not, branch_beq, branch_bne]
  rintro _ _ ⟨cap6, hcap6, rfl, rfl⟩
  simp only [push_cast, ↓branch_true, ↓branch_false, Nat.reduceBEq, Nat.reduceAdd, Nat.reduceMul, Nat.reduceSub, Int.reduceToNat, reduceCtorEq, branch_decide, branch_not, branch_beq, branch_bne]
  rw [show (0 : Int) - more = -more by omega]
  have hAl : (l ++ [more, -more]).length = l.length + 2 := by simp
  have hrow : ∀ k, k < l.length + 2 → _ := fun k hk => app2_row l more hk
  have hps2 := parts_small (l ++ [more, -more])
  generalize hAA : l ++ [more, -more] = A at *
  refine ⟨by omega, by omega, by omega, by omega, by omega, fun k hk => ?_, Or.inr ?_⟩
  · rcases (by omega : k = 0 ∨ k = 1) with rfl | rfl <;> exact ⟨rfl, rfl⟩
  repeat (with_reducible refine And.intro (by omega) ?_)
  intro cap7 hcap7
  refine sp_at (Parts_sp A cap7 (by omega)) [14] rfl ?_ ?_ ?_
  · simp only [push_cast, ↓branch_true, ↓branch_false, Nat.reduceBEq, Nat.reduceAdd, Nat.reduceMul, Nat.reduceSub, Int.reduceToNat, reduceCtorEq, branch_decide, branch_not, branch_beq, branch_bne]
    omega
  · simp only [push_cast, ↓branch_true, ↓branch_false, Nat.reduceBEq, Nat.reduceAdd, Nat.reduceMul, Nat.reduceSub, Int.reduceToNat, reduceCtorEq, branch_decide, branch_not, branch_beq, branch_bne]
    exact fun _ _ => ⟨by omega, fun k hk => by
      rw [show mrgL (decide (k < l.length)) [.v (.int .i64 (ix l k))] (List.take 1 (List.drop ((k - l.length) * 1) [.v (.int .i64 more), .v (.int .i64 (-more))])) = [.v (.int .i64 (ix A k))] from hrow k (by omega)]
      simp only [push_cast, ↓branch_true, ↓branch_false, Nat.reduceBEq, Nat.reduceAdd, Nat.reduceMul, Nat.reduceSub, Int.reduceToNat, reduceCtorEq, branch_decide, branch_not, branch_beq, branch_bne]
      ⟩
  rintro _ _ ⟨o4, c4, ho4, rfl, rfl⟩
  rw [f1]
  simp only [push_cast, ↓branch_true, ↓branch_false, Nat.reduceBEq, Nat.reduceAdd, Nat.reduceMul, Nat.reduceSub, Int.reduceToNat, reduceCtorEq, branch_decide, branch_not, branch_beq, branch_bne]
  refine ⟨by omega, ?_⟩
  rw [decide_eq_true (by omega)]
end Go.Proofs.YtapbhppfecfobaaDoor
