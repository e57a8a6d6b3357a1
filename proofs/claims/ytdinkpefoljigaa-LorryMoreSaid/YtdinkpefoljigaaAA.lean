/- Contracts: the reference's counts, and errors of loads. -/
import Derived.Test.YtdinkpefoljigaaZ
set_option maxRecDepth 100000
set_option linter.unusedSimpArgs false
set_option linter.unusedVariables false
namespace Go.Proofs.Ytdinkpefoljigaa
open Go.RowKit
theorem rall_pu (loads : List (List Int)) (lc N : Nat) (cp : Nat → Nat) (hN : loads.length ≤ N) (hln : loads.length ≤ 2000) (hx : ∀ x ∈ loads, x.length ≤ 400000) :
    Pu Try.prog 48 [.s 0 0 0 loads.length lc 1] [rOut 1 loads cp, rFa N loads] (.v (.int .i64 loads.flatten.length)) := by
  refine pu_of_ex true [] mixed Try.call48 Try.func48 rfl Try.ntmps48 Try.results48 (by decide +kernel) rfl rfl rfl ?_
  simp only [push_cast, ↓branch_true, ↓branch_false, Nat.reduceBEq, Nat.reduceAdd, Nat.reduceMul, Nat.reduceSub, Int.reduceToNat, reduceCtorEq, branch_decide, branch_not, branch_beq, branch_bne]
  refine tr_loop0 mixed (by kernel_rfl) (fun (k : Nat) => [(4, .v (.int .i64 k)), (3, .v (.int .i64 (flt loads k).length)), (0, .s 0 0 0 loads.length lc 1)]) (fun k => k ≤ loads.length) (fun k => loads.length - k) 0 (Nat.zero_le _) ?_ ?_
  · simp only [push_cast, ↓branch_true, ↓branch_false, Nat.reduceBEq, Nat.reduceAdd, Nat.reduceMul, Nat.reduceSub, Int.reduceToNat, reduceCtorEq, branch_decide, branch_not, branch_beq, branch_bne]
    simp [flt]
  intro k h1
  have hk2 := flt_len_le hx k
  simp only [push_cast, ↓branch_true, ↓branch_false, Nat.reduceBEq, Nat.reduceAdd, Nat.reduceMul, Nat.reduceSub, Int.reduceToNat, reduceCtorEq, branch_decide, branch_not, branch_beq, branch_bne]
  refine ⟨fun h => ?_, fun h => ?_⟩
  · have hk : k < loads.length := by omega
    have e2 : (flt loads (k + 1)).length = (flt loads k).length + (ix loads k).length := by rw [flt_succ hk, List.length_append]
    have hxk := hx _ (ix_mem hk)
    repeat (with_reducible refine And.intro (by omega) ?_)
    refine lp0_normal (k + 1) (by omega) (by omega) ?_
    simp only [push_cast, ↓branch_true, ↓branch_false, Nat.reduceBEq, Nat.reduceAdd, Nat.reduceMul, Nat.reduceSub, Int.reduceToNat, reduceCtorEq, branch_decide, branch_not, branch_beq, branch_bne, e2]
  · obtain rfl : k = loads.length := by omega
    rw [flt_all]
theorem rcount_pu (loads : List (List Int)) (v : Int) (lc N : Nat) (cp : Nat → Nat) (hN : loads.length ≤ N) (hln : loads.length ≤ 2000) (hx : ∀ x ∈ loads, x.length ≤ 400000) :
    Pu Try.prog 56 [.s 0 0 0 loads.length lc 1, .v (.int .i64 v)] [rOut 1 loads cp, rFa N loads] (.v (.int .i64 (loads.flatten.count v : Nat))) := by
  refine pu_of_ex true [] mixed Try.call56 Try.func56 rfl Try.ntmps56 Try.results56 (by decide +kernel) rfl rfl rfl ?_
  simp only [push_cast, ↓branch_true, ↓branch_false, Nat.reduceBEq, Nat.reduceAdd, Nat.reduceMul, Nat.reduceSub, Int.reduceToNat, reduceCtorEq, branch_decide, branch_not, branch_beq, branch_bne]
  refine tr_loop0 mixed (by kernel_rfl) (fun (k : Nat) => [(6, .v (.int .i64 k)), (5, .v (.int .i64 ((flt loads k).count v : Nat))), (0, .s 0 0 0 loads.length lc 1), (1, .v (.int .i64 v))]) (fun k => k ≤ loads.length) (fun k => loads.length - k) 0 (Nat.zero_le _) ?_ ?_
  · simp only [push_cast, ↓branch_true, ↓branch_false, Nat.reduceBEq, Nat.reduceAdd, Nat.reduceMul, Nat.reduceSub, Int.reduceToNat, reduceCtorEq, branch_decide, branch_not, branch_beq, branch_bne]
    simp [flt]
  intro k h1
  have hk2 := flt_len_le hx k
  have hc2 := List.count_le_length (a := v) (l := flt loads k)
  simp only [push_cast, ↓branch_true, ↓branch_false, Nat.reduceBEq, Nat.reduceAdd, Nat.reduceMul, Nat.reduceSub, Int.reduceToNat, reduceCtorEq, branch_decide, branch_not, branch_beq, branch_bne]
  refine ⟨fun h => ?_, fun h => ?_⟩
  · have hk : k < loads.length := by omega
    have hxk := hx _ (ix_mem hk)
    refine tr_loop0 mixed (by kernel_rfl) (fun (q : Nat) => [(7, .v (.int .i64 q)), (6, .v (.int .i64 k)), (5, .v (.int .i64 ((flt loads k).count v + ((ix loads k).take q).count v : Nat))), (0, .s 0 0 0 loads.length lc 1), (1, .v (.int .i64 v))]) (fun q => q ≤ (ix loads k).length) (fun q => (ix loads k).length - q) 0 (Nat.zero_le _) ?_ ?_
    · simp only [push_cast, ↓branch_true, ↓branch_false, Nat.reduceBEq, Nat.reduceAdd, Nat.reduceMul, Nat.reduceSub, Int.reduceToNat, reduceCtorEq, branch_decide, branch_not, branch_beq, branch_bne]
      simp
    intro q h5
    have hc3 := List.count_le_length (a := v) (l := (ix loads k).take q)
    rw [List.length_take] at hc3
    simp only [push_cast, ↓branch_true, ↓branch_false, Nat.reduceBEq, Nat.reduceAdd, Nat.reduceMul, Nat.reduceSub, Int.reduceToNat, reduceCtorEq, branch_decide, branch_not, branch_beq, branch_bne]
    repeat (with_reducible refine And.intro (by omega) ?_)
    refine ⟨fun h6 => ?_, fun h6 => ?_⟩
    · have hq : q < (ix loads k).length := by omega
      have e : ((ix loads k).take (q + 1)).count v = ((ix loads k).take q).count v + bif ix (ix loads k) q == v then 1 else 0 := by
        rw [take_snoc hq, List.count_append]; simp [List.count_singleton]
      repeat (with_reducible refine And.intro (by omega) ?_)
      refine ⟨fun h7 => ?_, fun h7 => ?_⟩
      · have e2 : ((ix loads k).take (q + 1)).count v = ((ix loads k).take q).count v + 1 := by rw [e, beq_iff_eq.2 h7]; rfl
        repeat (with_reducible refine And.intro (by omega) ?_)
        refine lp0_normal (q + 1) (by omega) (by omega) ?_
        simp only [push_cast, ↓branch_true, ↓branch_false, Nat.reduceBEq, Nat.reduceAdd, Nat.reduceMul, Nat.reduceSub, Int.reduceToNat, reduceCtorEq, branch_decide, branch_not, branch_beq, branch_bne, e2]
        simp; omega
      · have e2 : ((ix loads k).take (q + 1)).count v = ((ix loads k).take q).count v := by rw [e, beq_eq_false_iff_ne.2 h7]; rfl
        repeat (with_reducible refine And.intro (by omega) ?_)
        refine lp0_normal (q + 1) (by omega) (by omega) ?_
        simp only [push_cast, ↓branch_true, ↓branch_false, Nat.reduceBEq, Nat.reduceAdd, Nat.reduceMul, Nat.reduceSub, Int.reduceToNat, reduceCtorEq, branch_decide, branch_not, branch_beq, branch_bne, e2]
    · obtain rfl : q = (ix loads k).length := by omega
      have e2 : (flt loads (k + 1)).count v = (flt loads k).count v + (ix loads k).count v := by rw [flt_succ hk, List.count_append]
      rw [List.take_length]
      repeat (with_reducible refine And.intro (by omega) ?_)
      refine lp0_normal (k + 1) (by omega) (by omega) ?_
      simp only [push_cast, ↓branch_true, ↓branch_false, Nat.reduceBEq, Nat.reduceAdd, Nat.reduceMul, Nat.reduceSub, Int.reduceToNat, reduceCtorEq, branch_decide, branch_not, branch_beq, branch_bne, e2]
  · obtain rfl : k = loads.length := by omega
    rw [flt_all]
theorem nodup_cnt {l : List Bun} {P : List Int} (hin : ∀ i ∈ P, 0 ≤ i ∧ i < l.length) : P.Nodup ↔ ∀ k, k < l.length → P.count (k : Int) ≤ 1 := by
  rw [List.nodup_iff_count]
  refine ⟨fun h k _ => h _, fun h a => ?_⟩
  by_cases ha : a ∈ P
  · obtain ⟨h1, h2⟩ := hin a ha
    have := h a.toNat (by omega)
    rwa [Int.toNat_of_nonneg h1] at this
  · rw [List.count_eq_zero.2 ha]; omega
theorem rloads_pu (l : List Bun) (loads : List (List Int)) (c lc N : Nat) (cp : Nat → Nat) (hl : l.length ≤ 9223372036854775806) (hN : loads.length ≤ N) (hln : loads.length ≤ 2000) (hx : ∀ x ∈ loads, x.length ≤ 400000) :
    Pu Try.prog 31 [.s 0 0 0 l.length c 4, .s 1 0 0 loads.length lc 1] [rB l, rOut 2 loads cp, rFa N loads] (.v (.int .i64 (loadsE l loads))) := by
  refine pu_of_ex true [] mixed Try.call31 Try.func31 rfl Try.ntmps31 Try.results31 (by decide +kernel) rfl rfl rfl ?_
  simp only [push_cast, ↓branch_true, ↓branch_false, Nat.reduceBEq, Nat.reduceAdd, Nat.reduceMul, Nat.reduceSub, Int.reduceToNat, reduceCtorEq, branch_decide, branch_not, branch_beq, branch_bne]
  refine ⟨fun h => ?_, fun h => ?_⟩
  · rw [loadsE, if_pos (by omega)]
  refine sp_call (rall_pu loads lc N cp hN hln hx) rfl [1, 2] rfl (by simp only [push_cast, ↓branch_true, ↓branch_false, Nat.reduceBEq, Nat.reduceAdd, Nat.reduceMul, Nat.reduceSub, Int.reduceToNat, reduceCtorEq, branch_decide, branch_not, branch_beq, branch_bne]) (by simp only [push_cast, ↓branch_true, ↓branch_false, Nat.reduceBEq, Nat.reduceAdd, Nat.reduceMul, Nat.reduceSub, Int.reduceToNat, reduceCtorEq, branch_decide, branch_not, branch_beq, branch_bne]) ?_
  simp only [push_cast, ↓branch_true, ↓branch_false, Nat.reduceBEq, Nat.reduceAdd, Nat.reduceMul, Nat.reduceSub, Int.reduceToNat, reduceCtorEq, branch_decide, branch_not, branch_beq, branch_bne]
  refine ⟨fun h2 => ?_, fun h2 => ?_⟩
  · rw [loadsE, if_pos (by omega)]
  have h3 : ¬ (1000 < loads.length ∨ 1000 < loads.flatten.length) := by omega
  have hbad : ∀ i ∈ loads.flatten, ¬ (0 ≤ i ∧ i < l.length) → loadsE l loads = 2 := fun i hi hn => by
    have : loads.flatten.any (outB l) = true := List.any_eq_true.2 ⟨i, hi, by
      cases e : outB l i with
      | true => rfl
      | false => exact absurd (outB_iff.1 e) hn⟩
    rw [loadsE, if_neg h3, if_pos this]
  refine tr_loop0 mixed (by kernel_rfl) (fun (k : Nat) => [(5, .v (.int .i64 k)), (0, .s 0 0 0 l.length c 4), (1, .s 1 0 0 loads.length lc 1)]) (fun k => k ≤ loads.length ∧ ∀ i ∈ flt loads k, 0 ≤ i ∧ i < l.length) (fun k => loads.length - k) 0 ⟨Nat.zero_le _, fun i hi => by simp [flt] at hi⟩ ?_ ?_
  · simp only [push_cast, ↓branch_true, ↓branch_false, Nat.reduceBEq, Nat.reduceAdd, Nat.reduceMul, Nat.reduceSub, Int.reduceToNat, reduceCtorEq, branch_decide, branch_not, branch_beq, branch_bne]
  rintro k ⟨g1, g2⟩
  simp only [push_cast, ↓branch_true, ↓branch_false, Nat.reduceBEq, Nat.reduceAdd, Nat.reduceMul, Nat.reduceSub, Int.reduceToNat, reduceCtorEq, branch_decide, branch_not, branch_beq, branch_bne]
  refine ⟨fun h4 => ?_, fun h4 => ?_⟩
  · have hk : k < loads.length := by omega
    have hxk := hx _ (ix_mem hk)
    refine tr_loop0 mixed (by kernel_rfl) (fun (q : Nat) => [(6, .v (.int .i64 q)), (5, .v (.int .i64 k)), (0, .s 0 0 0 l.length c 4), (1, .s 1 0 0 loads.length lc 1)]) (fun q => q ≤ (ix loads k).length ∧ ∀ i ∈ (ix loads k).take q, 0 ≤ i ∧ i < l.length) (fun q => (ix loads k).length - q) 0 ⟨Nat.zero_le _, fun i hi => by simp at hi⟩ ?_ ?_
    · simp only [push_cast, ↓branch_true, ↓branch_false, Nat.reduceBEq, Nat.reduceAdd, Nat.reduceMul, Nat.reduceSub, Int.reduceToNat, reduceCtorEq, branch_decide, branch_not, branch_beq, branch_bne]
    rintro q ⟨g3, g4⟩
    simp only [push_cast, ↓branch_true, ↓branch_false, Nat.reduceBEq, Nat.reduceAdd, Nat.reduceMul, Nat.reduceSub, Int.reduceToNat, reduceCtorEq, branch_decide, branch_not, branch_beq, branch_bne]
    repeat (with_reducible refine And.intro (by omega) ?_)
    refine ⟨fun h5 => ?_, fun h5 => ?_⟩
    · have hq : q < (ix loads k).length := by omega
      have hin := mem_flat hk (ix_mem hq)
      repeat (with_reducible refine And.intro (by omega) ?_)
      refine ⟨fun h6 => ?_, fun h6 => ?_⟩
      · rw [hbad _ hin (by omega)]
      repeat (with_reducible refine And.intro (by omega) ?_)
      refine ⟨fun h7 => ?_, fun h7 => ?_⟩
      · rw [hbad _ hin (by omega)]
      · repeat (with_reducible refine And.intro (by omega) ?_)
        refine lp0_normal (q + 1) ⟨by omega, fun i hi => ?_⟩ (by omega) ?_
        · rw [take_snoc hq] at hi
          rcases List.mem_append.1 hi with hi | hi
          · exact g4 i hi
          · simp at hi; subst hi; omega
        · simp only [push_cast, ↓branch_true, ↓branch_false, Nat.reduceBEq, Nat.reduceAdd, Nat.reduceMul, Nat.reduceSub, Int.reduceToNat, reduceCtorEq, branch_decide, branch_not, branch_beq, branch_bne]
    · obtain rfl : q = (ix loads k).length := by omega
      rw [List.take_length] at g4
      repeat (with_reducible refine And.intro (by omega) ?_)
      refine lp0_normal (k + 1) ⟨by omega, fun i hi => ?_⟩ (by omega) ?_
      · rw [flt_succ hk] at hi
        rcases List.mem_append.1 hi with hi | hi
        · exact g2 i hi
        · exact g4 i hi
      · simp only [push_cast, ↓branch_true, ↓branch_false, Nat.reduceBEq, Nat.reduceAdd, Nat.reduceMul, Nat.reduceSub, Int.reduceToNat, reduceCtorEq, branch_decide, branch_not, branch_beq, branch_bne]
  · obtain rfl : k = loads.length := by omega
    rw [flt_all] at g2
    have hany : ¬ loads.flatten.any (outB l) = true := fun e => by
      obtain ⟨i, hi, hb⟩ := List.any_eq_true.1 e
      rw [outB_iff.2 (g2 i hi)] at hb; cases hb
    refine tr_loop0 mixed (by kernel_rfl) (fun (k : Nat) => [(7, .v (.int .i64 k)), (0, .s 0 0 0 l.length c 4), (1, .s 1 0 0 loads.length lc 1)]) (fun k => k ≤ l.length ∧ ∀ i, i < k → loads.flatten.count (i : Int) ≤ 1) (fun k => l.length - k) 0 ⟨Nat.zero_le _, fun i hi => by omega⟩ ?_ ?_
    · simp only [push_cast, ↓branch_true, ↓branch_false, Nat.reduceBEq, Nat.reduceAdd, Nat.reduceMul, Nat.reduceSub, Int.reduceToNat, reduceCtorEq, branch_decide, branch_not, branch_beq, branch_bne]
    rintro k ⟨g3, g4⟩
    simp only [push_cast, ↓branch_true, ↓branch_false, Nat.reduceBEq, Nat.reduceAdd, Nat.reduceMul, Nat.reduceSub, Int.reduceToNat, reduceCtorEq, branch_decide, branch_not, branch_beq, branch_bne]
    refine ⟨fun h5 => ?_, fun h5 => ?_⟩
    · refine sp_call (rcount_pu loads k lc N cp hN hln hx) rfl [1, 2] rfl (by simp only [push_cast, ↓branch_true, ↓branch_false, Nat.reduceBEq, Nat.reduceAdd, Nat.reduceMul, Nat.reduceSub, Int.reduceToNat, reduceCtorEq, branch_decide, branch_not, branch_beq, branch_bne]) (by simp only [push_cast, ↓branch_true, ↓branch_false, Nat.reduceBEq, Nat.reduceAdd, Nat.reduceMul, Nat.reduceSub, Int.reduceToNat, reduceCtorEq, branch_decide, branch_not, branch_beq, branch_bne]) ?_
      simp only [push_cast, ↓branch_true, ↓branch_false, Nat.reduceBEq, Nat.reduceAdd, Nat.reduceMul, Nat.reduceSub, Int.reduceToNat, reduceCtorEq, branch_decide, branch_not, branch_beq, branch_bne]
      refine ⟨fun h6 => ?_, fun h6 => ?_⟩
      · have hnn : ¬ loads.flatten.Nodup := fun hn => by
          have := (nodup_cnt g2).1 hn k (by omega)
          omega
        rw [loadsE, if_neg h3, if_neg hany, if_neg hnn]
      · repeat (with_reducible refine And.intro (by omega) ?_)
        refine lp0_normal (k + 1) ⟨by omega, fun i hi => ?_⟩ (by omega) ?_
        · by_cases e : i = k
          · subst e; omega
          · exact g4 i (by omega)
        · simp only [push_cast, ↓branch_true, ↓branch_false, Nat.reduceBEq, Nat.reduceAdd, Nat.reduceMul, Nat.reduceSub, Int.reduceToNat, reduceCtorEq, branch_decide, branch_not, branch_beq, branch_bne]
    · have hn : loads.flatten.Nodup := (nodup_cnt g2).2 fun k hk => g4 k (by omega)
      rw [loadsE, if_neg h3, if_neg hany, if_pos hn]
end Go.Proofs.Ytdinkpefoljigaa
