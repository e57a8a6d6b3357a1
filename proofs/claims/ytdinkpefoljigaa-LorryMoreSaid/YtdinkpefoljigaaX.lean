/- Contracts: Concat, what is wrong with loads. -/
import Derived.Test.YtdinkpefoljigaaW
set_option maxRecDepth 100000
set_option linter.unusedSimpArgs false
set_option linter.unusedVariables false
namespace Go.Proofs.Ytdinkpefoljigaa
open Go.RowKit
theorem grow_sp (n : Nat) (hn : n ≤ 1000000000) : Sp Try.prog 75 [.v (.slice none 0 0), .v (.int .i64 n)] [] (fun r H => ∃ cap, r = .s 0 0 0 0 cap 1 ∧ H = [rIO [] cap]) := by
  refine sp_weak ?_
  refine sp_of_ex true [] mixed Try.call75 Try.func75 rfl Try.ntmps75 Try.results75 (by decide +kernel) rfl ?_
  simp only [push_cast, ↓branch_true, ↓branch_false, Nat.reduceBEq, Nat.reduceAdd, Nat.reduceMul, Nat.reduceSub, Int.reduceToNat, reduceCtorEq, branch_decide, branch_not, branch_beq, branch_bne]
  refine ⟨fun h => by omega, fun h => ?_⟩
  repeat (with_reducible refine And.intro (by omega) ?_)
  refine ⟨fun h2 => ?_, fun h2 => ?_⟩
  · repeat (with_reducible refine And.intro (by omega) ?_)
    intro cap hcap
    repeat (with_reducible refine And.intro (by omega) ?_)
    refine ⟨_, _, [0], ?_, by kernel_rfl, ?_, cap, rfl, rfl⟩
    · simp only [push_cast, ↓branch_true, ↓branch_false, Nat.reduceBEq, Nat.reduceAdd, Nat.reduceMul, Nat.reduceSub, Int.reduceToNat, reduceCtorEq, branch_decide, branch_not, branch_beq, branch_bne]
      omega
    · simp only [push_cast, ↓branch_true, ↓branch_false, Nat.reduceBEq, Nat.reduceAdd, Nat.reduceMul, Nat.reduceSub, Int.reduceToNat, reduceCtorEq, branch_decide, branch_not, branch_beq, branch_bne]
      intro i hi
      exact ⟨by omega, fun k hk => by simp at hk⟩
  · refine ⟨_, _, [0], ?_, by kernel_rfl, ?_, 0, rfl, rfl⟩
    · simp only [push_cast, ↓branch_true, ↓branch_false, Nat.reduceBEq, Nat.reduceAdd, Nat.reduceMul, Nat.reduceSub, Int.reduceToNat, reduceCtorEq, branch_decide, branch_not, branch_beq, branch_bne]
    · simp only [push_cast, ↓branch_true, ↓branch_false, Nat.reduceBEq, Nat.reduceAdd, Nat.reduceMul, Nat.reduceSub, Int.reduceToNat, reduceCtorEq, branch_decide, branch_not, branch_beq, branch_bne]
theorem flt_len_le {loads : List (List Int)} {B : Nat} (hx : ∀ x ∈ loads, x.length ≤ B) (j : Nat) : (flt loads j).length ≤ B * j := by
  induction j with
  | zero => simp [flt]
  | succ j ih =>
    rcases Nat.lt_or_ge j loads.length with h | h
    · rw [flt_succ h, List.length_append, Nat.mul_succ]
      have := hx _ (ix_mem h)
      omega
    · have e : flt loads (j + 1) = flt loads j := by
        unfold flt
        rw [List.take_of_length_le h, List.take_of_length_le (by omega)]
      rw [e, Nat.mul_succ]; omega
theorem flt_all (loads : List (List Int)) : flt loads loads.length = loads.flatten := by simp [flt]
theorem ix_appb {p q : List Int} {k : Nat} (h : k < p.length + q.length) : ix (p ++ q) k = bif decide (k < p.length) then ix p k else ix q (k - p.length) := by
  rw [ix_eq (by simpa using h)]
  by_cases h2 : k < p.length
  · simp [h2, ix_eq h2, List.getElem_append_left h2]
  · rw [List.getElem_append_right (by omega), ← ix_eq (by omega)]
    simp [h2]
theorem app_val {f1 f2 : Nat → Int} {n1 n2 k : Nat} {v : Int} {rl : List Nat} (hn : 0 < n2) (h1 : k < n1 → v = f1 k) (h2 : n1 ≤ k → k < n1 + n2 → v = f2 (k - n1)) (hk : k < n1 + n2) : mtL rl [.v (.int .i64 v)] (appF n1 n2 (fun k => [.v (.int .i64 (f1 k))]) (fun k => [.v (.int .i64 (f2 k))]) k) := by
  unfold appF
  by_cases h : k < n1
  · rw [h1 h]
    split <;> simp [h, mrgL, mrg1, mtL, mt]
  · rw [h2 (by omega) hk]
    split
    · have : k - n1 = 0 := by omega
      simp [h, mrgL, mrg1, mtL, mt, this]
    · simp [h, mrgL, mrg1, mtL, mt]
theorem concat_sp (loads : List (List Int)) (lc N : Nat) (cp : Nat → Nat) (hN : loads.length ≤ N) (hln : loads.length ≤ 2000) (hx : ∀ x ∈ loads, x.length ≤ 400000) :
    Sp Try.prog 65 [.s 0 0 0 loads.length lc 1] [rOut 1 loads cp, rFa N loads] (fun r H => ∃ cap, loads.flatten.length ≤ cap ∧ r = .s 2 0 0 loads.flatten.length cap 1 ∧ H = [rOut 1 loads cp, rFa N loads, rIO loads.flatten cap]) := by
  refine sp_of_ex true [] mixed Try.call65 Try.func65 rfl Try.ntmps65 Try.results65 (by decide +kernel) rfl ?_
  simp only [push_cast, ↓branch_true, ↓branch_false, Nat.reduceBEq, Nat.reduceAdd, Nat.reduceMul, Nat.reduceSub, Int.reduceToNat, reduceCtorEq, branch_decide, branch_not, branch_beq, branch_bne]
  refine tr_loop0 mixed (by kernel_rfl) (fun (k : Nat) => [(11, .v (.int .i64 k)), (10, .v (.int .i64 loads.length)), (9, .s 0 0 0 loads.length lc 1), (3, .v (.int .i64 (flt loads k).length)), (0, .s 0 0 0 loads.length lc 1)]) (fun k => k ≤ loads.length) (fun k => loads.length - k) 0 (Nat.zero_le _) ?_ ?_
  · simp only [push_cast, ↓branch_true, ↓branch_false, Nat.reduceBEq, Nat.reduceAdd, Nat.reduceMul, Nat.reduceSub, Int.reduceToNat, reduceCtorEq, branch_decide, branch_not, branch_beq, branch_bne]
    simp [flt]
  intro k h1
  have hk2 := flt_len_le hx k
  simp only [push_cast, ↓branch_true, ↓branch_false, Nat.reduceBEq, Nat.reduceAdd, Nat.reduceMul, Nat.reduceSub, Int.reduceToNat, reduceCtorEq, branch_decide, branch_not, branch_beq, branch_bne]
  refine ⟨fun h => ?_, fun h => ?_⟩
  · have hk : k < loads.length := by omega
    have e := flt_succ hk
    have e2 : (flt loads (k + 1)).length = (flt loads k).length + (ix loads k).length := by rw [e, List.length_append]
    have hxk := hx _ (ix_mem hk)
    repeat (with_reducible refine And.intro (by omega) ?_)
    intro h2
    repeat (with_reducible refine And.intro (by omega) ?_)
    refine lp0_normal (k + 1) (by omega) (by omega) ?_
    simp only [push_cast, ↓branch_true, ↓branch_false, Nat.reduceBEq, Nat.reduceAdd, Nat.reduceMul, Nat.reduceSub, Int.reduceToNat, reduceCtorEq, branch_decide, branch_not, branch_beq, branch_bne, e2]
  obtain rfl : k = loads.length := by omega
  refine sp_at (grow_sp (flt loads loads.length).length (by omega)) [] rfl ?_ ?_ ?_
  · simp only [push_cast, ↓branch_true, ↓branch_false, Nat.reduceBEq, Nat.reduceAdd, Nat.reduceMul, Nat.reduceSub, Int.reduceToNat, reduceCtorEq, branch_decide, branch_not, branch_beq, branch_bne]
  · simp only [push_cast, ↓branch_true, ↓branch_false, Nat.reduceBEq, Nat.reduceAdd, Nat.reduceMul, Nat.reduceSub, Int.reduceToNat, reduceCtorEq, branch_decide, branch_not, branch_beq, branch_bne]
  rintro _ _ ⟨cap0, rfl, rfl⟩
  simp only [push_cast, ↓branch_true, ↓branch_false, Nat.reduceBEq, Nat.reduceAdd, Nat.reduceMul, Nat.reduceSub, Int.reduceToNat, reduceCtorEq, branch_decide, branch_not, branch_beq, branch_bne]
  refine tr_loop mixed (by kernel_rfl) (fun (x : Nat × Nat) => [(27, .v (.int .i64 x.1)), (26, .v (.int .i64 loads.length)), (25, .s 0 0 0 loads.length lc 1), (6, .s 2 0 0 (flt loads x.1).length x.2 1), (0, .s 0 0 0 loads.length lc 1)])
    (fun x => [rOut 1 loads cp, rFa N loads, rIO (flt loads x.1) x.2]) (fun x => x.1 ≤ loads.length ∧ (flt loads x.1).length ≤ x.2) (fun x => loads.length - x.1) (0, cap0) ⟨Nat.zero_le _, by simp [flt]⟩ (Mt.wk (rl := [0, 1, 2]) ⟨by kernel_rfl, ?_, ?_⟩) ?_
  · simp only [push_cast, ↓branch_true, ↓branch_false, Nat.reduceBEq, Nat.reduceAdd, Nat.reduceMul, Nat.reduceSub, Int.reduceToNat, reduceCtorEq, branch_decide, branch_not, branch_beq, branch_bne]
    simp [flt]
  · simp only [push_cast, ↓branch_true, ↓branch_false, Nat.reduceBEq, Nat.reduceAdd, Nat.reduceMul, Nat.reduceSub, Int.reduceToNat, reduceCtorEq, branch_decide, branch_not, branch_beq, branch_bne]
    simp [flt]
  rintro ⟨k, cap⟩ ⟨g1, g2⟩
  simp only at g1 g2
  have hk3 := flt_len_le hx k
  simp only [push_cast, ↓branch_true, ↓branch_false, Nat.reduceBEq, Nat.reduceAdd, Nat.reduceMul, Nat.reduceSub, Int.reduceToNat, reduceCtorEq, branch_decide, branch_not, branch_beq, branch_bne]
  refine ⟨fun h => ?_, fun h => ?_⟩
  · have hk : k < loads.length := by omega
    have e := flt_succ hk
    have hxk := hx _ (ix_mem hk)
    repeat (with_reducible refine And.intro (by omega) ?_)
    have e2 : (flt loads (k + 1)).length = (flt loads k).length + (ix loads k).length := by rw [e, List.length_append]
    refine ⟨by (unfold srcOk; split <;> simp [lenP, lenIs, ones, one1]), appZ_of (fun h0 => ?_) (fun h0 => ?_)⟩
    · have e3 : flt loads (k + 1) = flt loads k := by rw [e, List.length_eq_zero_iff.1 h0, List.append_nil]
      repeat (with_reducible refine And.intro (by omega) ?_)
      refine lpK_normal (k + 1, cap) [0, 1, 2] ⟨by simp only; omega, by simp only [e3]; exact g2⟩ (by simp only; omega) (by kernel_rfl) ?_ ?_
      · simp only [push_cast, ↓branch_true, ↓branch_false, Nat.reduceBEq, Nat.reduceAdd, Nat.reduceMul, Nat.reduceSub, Int.reduceToNat, reduceCtorEq, branch_decide, branch_not, branch_beq, branch_bne, e3]
      · simp only [push_cast, ↓branch_true, ↓branch_false, Nat.reduceBEq, Nat.reduceAdd, Nat.reduceMul, Nat.reduceSub, Int.reduceToNat, reduceCtorEq, branch_decide, branch_not, branch_beq, branch_bne, e3]
    · by_cases hc : cap = 0
      · have e3 : flt loads (k + 1) = ix loads k := by rw [e, List.length_eq_zero_iff.1 (by omega : (flt loads k).length = 0), List.nil_append]
        refine Or.inl ⟨by omega, hc, by omega, by omega, fun cap2 hc2 => ?_⟩
        repeat (with_reducible refine And.intro (by omega) ?_)
        refine lpK_normal (k + 1, cap2) [0, 1, 3] ⟨by simp only; omega, by simp only [e3]; omega⟩ (by simp only; omega) (by kernel_rfl) ?_ ?_
        · simp only [push_cast, ↓branch_true, ↓branch_false, Nat.reduceBEq, Nat.reduceAdd, Nat.reduceMul, Nat.reduceSub, Int.reduceToNat, reduceCtorEq, branch_decide, branch_not, branch_beq, branch_bne, e3]
        · simp only [push_cast, ↓branch_true, ↓branch_false, Nat.reduceBEq, Nat.reduceAdd, Nat.reduceMul, Nat.reduceSub, Int.reduceToNat, reduceCtorEq, branch_decide, branch_not, branch_beq, branch_bne, e3]
      · refine Or.inr ?_
        repeat (with_reducible refine And.intro (by omega) ?_)
        intro cap2 hc2
        repeat (with_reducible refine And.intro (by omega) ?_)
        refine lpK_normal (k + 1, cap2) [0, 1, 3] ⟨by simp only; omega, by simp only [e2]; omega⟩ (by simp only; omega) (by kernel_rfl) ?_ ?_
        · simp only [push_cast, ↓branch_true, ↓branch_false, Nat.reduceBEq, Nat.reduceAdd, Nat.reduceMul, Nat.reduceSub, Int.reduceToNat, reduceCtorEq, branch_decide, branch_not, branch_beq, branch_bne, e2]
        · simp only [push_cast, ↓branch_true, ↓branch_false, Nat.reduceBEq, Nat.reduceAdd, Nat.reduceMul, Nat.reduceSub, Int.reduceToNat, reduceCtorEq, branch_decide, branch_not, branch_beq, branch_bne, e2]
          refine fun _ _ q hq => app_val h0 ?_ ?_ (by omega)
          · intro h; rw [e, ix_appb (by omega)]; simp [h]
          · intro h _; rw [e, ix_appb (by omega)]; simp [Nat.not_lt.2 h]
  · obtain rfl : k = loads.length := by omega
    rw [flt_all] at *
    exact ⟨cap, g2, rfl, rfl⟩
end Go.Proofs.Ytdinkpefoljigaa
