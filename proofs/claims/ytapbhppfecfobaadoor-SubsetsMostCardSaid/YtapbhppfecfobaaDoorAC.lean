/- Contracts: IsSorted, Contains, Clone, total; the closures of SubsetsPairs. -/
import Derived.Test.YtapbhppfecfobaaDoorW
set_option maxRecDepth 100000
set_option linter.unusedSimpArgs false
set_option linter.unusedVariables false
namespace Go.Proofs.YtapbhppfecfobaaDoor
open Go.RowKit
theorem nan_pu (x : Int) : Pu Tryd.prog 64 [.v (.int .i64 x)] [] (.v (.bool false)) := by
  refine pu_of_ex true [] mixed Tryd.call64 Tryd.func64 rfl Tryd.ntmps64 Tryd.results64 (by decide +kernel) rfl rfl rfl ?_
  simp only [push_cast, ↓branch_true, ↓branch_false, Nat.reduceBEq, Nat.reduceAdd, Nat.reduceMul, Nat.reduceSub, Int.reduceToNat, reduceCtorEq, branch_decide, branch_not, branch_beq, branch_bne]
  try simp
theorem less_pu (x y : Int) : Pu Tryd.prog 53 [.v (.int .i64 x), .v (.int .i64 y)] [] (.v (.bool (decide (x < y)))) := by
  refine pu_of_ex true [] mixed Tryd.call53 Tryd.func53 rfl Tryd.ntmps53 Tryd.results53 (by decide +kernel) rfl rfl rfl ?_
  simp only [push_cast, ↓branch_true, ↓branch_false, Nat.reduceBEq, Nat.reduceAdd, Nat.reduceMul, Nat.reduceSub, Int.reduceToNat, reduceCtorEq, branch_decide, branch_not, branch_beq, branch_bne]
  refine sp_call (nan_pu x) rfl [] rfl (by simp only [push_cast, ↓branch_true, ↓branch_false, Nat.reduceBEq, Nat.reduceAdd, Nat.reduceMul, Nat.reduceSub, Int.reduceToNat, reduceCtorEq, branch_decide, branch_not, branch_beq, branch_bne]) (by simp only [push_cast, ↓branch_true, ↓branch_false, Nat.reduceBEq, Nat.reduceAdd, Nat.reduceMul, Nat.reduceSub, Int.reduceToNat, reduceCtorEq, branch_decide, branch_not, branch_beq, branch_bne]) ?_
  simp only [push_cast, ↓branch_true, ↓branch_false, Nat.reduceBEq, Nat.reduceAdd, Nat.reduceMul, Nat.reduceSub, Int.reduceToNat, reduceCtorEq, branch_decide, branch_not, branch_beq, branch_bne]
theorem sorted_pu (l : List Int) (c : Nat) (hl : l.length ≤ 1000000) (h : ∀ a, 0 < a → a < l.length → ix l (a - 1) < ix l a) : Pu Tryd.prog 32 [.s 0 0 0 l.length c 1] [rR l] (.v (.bool true)) := by
  refine pu_of_ex true [] mixed Tryd.call32 Tryd.func32 rfl Tryd.ntmps32 Tryd.results32 (by decide +kernel) rfl rfl rfl ?_
  simp only [push_cast, ↓branch_true, ↓branch_false, Nat.reduceBEq, Nat.reduceAdd, Nat.reduceMul, Nat.reduceSub, Int.reduceToNat, reduceCtorEq, branch_decide, branch_not, branch_beq, branch_bne]
  repeat (with_reducible refine And.intro (by omega) ?_)
  by_cases h0 : l.length = 0
  · refine tr_loop0 mixed (by kernel_rfl) (fun (k : Nat) => [(3, .v (.int .i64 (-1))), (0, .s 0 0 0 l.length c 1)]) (fun k => True) (fun k => k) 0 trivial ?_ ?_
    · simp only [push_cast, ↓branch_true, ↓branch_false, Nat.reduceBEq, Nat.reduceAdd, Nat.reduceMul, Nat.reduceSub, Int.reduceToNat, reduceCtorEq, branch_decide, branch_not, branch_beq, branch_bne]
      rw [h0]; rfl
    intro k _
    simp only [push_cast, ↓branch_true, ↓branch_false, Nat.reduceBEq, Nat.reduceAdd, Nat.reduceMul, Nat.reduceSub, Int.reduceToNat, reduceCtorEq, branch_decide, branch_not, branch_beq, branch_bne]
    exact fun h => absurd h (by decide)
  refine tr_loop0 mixed (by kernel_rfl) (fun (k : Nat) => [(3, .v (.int .i64 k)), (0, .s 0 0 0 l.length c 1)]) (fun k => k < l.length) (fun k => k) (l.length - 1) (by omega) ?_ ?_
  · simp only [push_cast, ↓branch_true, ↓branch_false, Nat.reduceBEq, Nat.reduceAdd, Nat.reduceMul, Nat.reduceSub, Int.reduceToNat, reduceCtorEq, branch_decide, branch_not, branch_beq, branch_bne]
    rw [show ((l.length - 1 : Nat) : Int) = (l.length : Int) - 1 by omega]
  intro k hk
  simp only [push_cast, ↓branch_true, ↓branch_false, Nat.reduceBEq, Nat.reduceAdd, Nat.reduceMul, Nat.reduceSub, Int.reduceToNat, reduceCtorEq, branch_decide, branch_not, branch_beq, branch_bne]
  intro h1
  have e1 : ((k : Int) - 1).toNat = k - 1 := by omega
  have := h k (by omega) hk
  repeat (with_reducible refine And.intro (by omega) ?_)
  rw [e1]
  refine qc_call (less_pu (ix l k) (ix l (k - 1))) rfl [] rfl (by simp only [push_cast, ↓branch_true, ↓branch_false, Nat.reduceBEq, Nat.reduceAdd, Nat.reduceMul, Nat.reduceSub, Int.reduceToNat, reduceCtorEq, branch_decide, branch_not, branch_beq, branch_bne]) (by simp only [push_cast, ↓branch_true, ↓branch_false, Nat.reduceBEq, Nat.reduceAdd, Nat.reduceMul, Nat.reduceSub, Int.reduceToNat, reduceCtorEq, branch_decide, branch_not, branch_beq, branch_bne]) ?_
  simp only [push_cast, ↓branch_true, ↓branch_false, Nat.reduceBEq, Nat.reduceAdd, Nat.reduceMul, Nat.reduceSub, Int.reduceToNat, reduceCtorEq, branch_decide, branch_not, branch_beq, branch_bne]
  refine ⟨fun h => absurd h (by omega), fun _ => ?_⟩
  repeat (with_reducible refine And.intro (by omega) ?_)
  refine lp0_normal (k - 1) (by omega) (by omega) ?_
  simp only [push_cast, ↓branch_true, ↓branch_false, Nat.reduceBEq, Nat.reduceAdd, Nat.reduceMul, Nat.reduceSub, Int.reduceToNat, reduceCtorEq, branch_decide, branch_not, branch_beq, branch_bne]
  rw [show ((k - 1 : Nat) : Int) = (k : Int) - 1 by omega]
theorem index_pu (l : List Int) (v : Int) (c : Nat) (hl : l.length ≤ 1000000) : Pu Tryd.prog 54 [.s 0 0 0 l.length c 1, .v (.int .i64 v)] [rR l] (.v (.int .i64 (idxB (fun x => decide (x = v)) l 0))) := by
  refine pu_of_ex true [] mixed Tryd.call54 Tryd.func54 rfl Tryd.ntmps54 Tryd.results54 (by decide +kernel) rfl rfl rfl ?_
  simp only [push_cast, ↓branch_true, ↓branch_false, Nat.reduceBEq, Nat.reduceAdd, Nat.reduceMul, Nat.reduceSub, Int.reduceToNat, reduceCtorEq, branch_decide, branch_not, branch_beq, branch_bne]
  refine tr_loop0 mixed (by kernel_rfl) (fun (k : Nat) => [(8, .v (.int .i64 k)), (7, .v (.int .i64 l.length)), (0, .s 0 0 0 l.length c 1), (1, .v (.int .i64 v))]) (fun k => k ≤ l.length ∧ ∀ j, j < k → decide (ix l j = v) = false) (fun k => l.length - k) 0 ⟨Nat.zero_le _, fun j h => by omega⟩ ?_ ?_
  · simp only [push_cast, ↓branch_true, ↓branch_false, Nat.reduceBEq, Nat.reduceAdd, Nat.reduceMul, Nat.reduceSub, Int.reduceToNat, reduceCtorEq, branch_decide, branch_not, branch_beq, branch_bne]
    try rfl
  rintro k ⟨hk, hn⟩
  simp only [push_cast, ↓branch_true, ↓branch_false, Nat.reduceBEq, Nat.reduceAdd, Nat.reduceMul, Nat.reduceSub, Int.reduceToNat, reduceCtorEq, branch_decide, branch_not, branch_beq, branch_bne]
  refine ⟨fun h1 => ?_, fun h1 => ?_⟩
  · repeat (with_reducible refine And.intro (by omega) ?_)
    refine ⟨fun h2 => ?_, fun h2 => ?_⟩
    · rw [idxB_at (fun x => decide (x = v)) l 0 k (by omega) hn (by simpa using h2.symm)]; simp
    · repeat (with_reducible refine And.intro (by omega) ?_)
      refine lp0_normal (k + 1) ⟨by omega, fun j hj => ?_⟩ (by omega) ?_
      · by_cases e : j = k
        · rw [e]; simpa using fun h => h2 h.symm
        · exact hn j (by omega)
      · simp only [push_cast, ↓branch_true, ↓branch_false, Nat.reduceBEq, Nat.reduceAdd, Nat.reduceMul, Nat.reduceSub, Int.reduceToNat, reduceCtorEq, branch_decide, branch_not, branch_beq, branch_bne]
  · rw [idxB_none (fun x => decide (x = v)) l 0 fun j hj => hn j (by omega)]
theorem contains_pu (l : List Int) (v : Int) (c : Nat) (hl : l.length ≤ 1000000) : Pu Tryd.prog 34 [.s 0 0 0 l.length c 1, .v (.int .i64 v)] [rR l] (.v (.bool (decide (v ∈ l)))) := by
  refine pu_of_ex true [] mixed Tryd.call34 Tryd.func34 rfl Tryd.ntmps34 Tryd.results34 (by decide +kernel) rfl rfl rfl ?_
  simp only [push_cast, ↓branch_true, ↓branch_false, Nat.reduceBEq, Nat.reduceAdd, Nat.reduceMul, Nat.reduceSub, Int.reduceToNat, reduceCtorEq, branch_decide, branch_not, branch_beq, branch_bne]
  refine sp_call (index_pu l v c hl) rfl [0] rfl (by simp only [push_cast, ↓branch_true, ↓branch_false, Nat.reduceBEq, Nat.reduceAdd, Nat.reduceMul, Nat.reduceSub, Int.reduceToNat, reduceCtorEq, branch_decide, branch_not, branch_beq, branch_bne]) (by simp only [push_cast, ↓branch_true, ↓branch_false, Nat.reduceBEq, Nat.reduceAdd, Nat.reduceMul, Nat.reduceSub, Int.reduceToNat, reduceCtorEq, branch_decide, branch_not, branch_beq, branch_bne]) ?_
  simp only [push_cast, ↓branch_true, ↓branch_false, Nat.reduceBEq, Nat.reduceAdd, Nat.reduceMul, Nat.reduceSub, Int.reduceToNat, reduceCtorEq, branch_decide, branch_not, branch_beq, branch_bne]
  rw [idxB_any (fun x => decide (x = v)) l 0 (Int.le_refl 0)]
  have e : (l.any fun x => decide (x = v)) = decide (v ∈ l) := by
    rw [Bool.eq_iff_iff, List.any_eq_true, decide_eq_true_eq]
    exact ⟨fun ⟨x, h1, h2⟩ => by
      obtain rfl : x = v := by simpa using h2
      exact h1, fun h => ⟨v, h, by simp⟩⟩
  rw [e]
theorem clone_sp (l : List Int) (c : Nat) (hl : l.length ≤ 1000000) (hc : l.length ≤ c) : Sp Tryd.prog 18 [.s 0 0 0 l.length c 1] [rR l] (fun r H => ∃ cap, l.length ≤ cap ∧ r = .s 1 0 0 l.length cap 1 ∧ H = [rR l, rIO l cap]) := by
  refine sp_weak ?_
  refine sp_of_ex true [] mixed Tryd.call18 Tryd.func18 rfl Tryd.ntmps18 Tryd.results18 (by decide +kernel) rfl ?_
  simp only [push_cast, ↓branch_true, ↓branch_false, Nat.reduceBEq, Nat.reduceAdd, Nat.reduceMul, Nat.reduceSub, Int.reduceToNat, reduceCtorEq, branch_decide, branch_not, branch_beq, branch_bne]
  intro b hb
  have hempty : l.length = 0 → ∃ cap, l.length ≤ cap ∧ l.length = 0 := fun h => ⟨0, by omega, h⟩
  cases b with
  | true =>
    have h0 : l.length = 0 := by
      rcases Nat.eq_zero_or_pos c with h | h
      · omega
      · cases hb h
    simp only [push_cast, ↓branch_true, ↓branch_false, Nat.reduceBEq, Nat.reduceAdd, Nat.reduceMul, Nat.reduceSub, Int.reduceToNat, reduceCtorEq, branch_decide, branch_not, branch_beq, branch_bne]
    refine ⟨_, _, [0, 1000], ?_, by kernel_rfl, ?_, 0, by omega, rfl, rfl⟩
    · simp only [push_cast, ↓branch_true, ↓branch_false, Nat.reduceBEq, Nat.reduceAdd, Nat.reduceMul, Nat.reduceSub, Int.reduceToNat, reduceCtorEq, branch_decide, branch_not, branch_beq, branch_bne]
      exact h0
    · simp only [push_cast, ↓branch_true, ↓branch_false, Nat.reduceBEq, Nat.reduceAdd, Nat.reduceMul, Nat.reduceSub, Int.reduceToNat, reduceCtorEq, branch_decide, branch_not, branch_beq, branch_bne]
      omega
  | false =>
    simp only [push_cast, ↓branch_true, ↓branch_false, Nat.reduceBEq, Nat.reduceAdd, Nat.reduceMul, Nat.reduceSub, Int.reduceToNat, reduceCtorEq, branch_decide, branch_not, branch_beq, branch_bne]
    repeat (with_reducible refine And.intro (by omega) ?_)
    refine ⟨?_, appZ_of (fun h => ?_) fun _ => .inl ⟨by omega, by omega, fun cap hcap => ?_⟩⟩
    · exact src_ints _ _
    · refine ⟨_, _, [0, 1], ?_, by kernel_rfl, ?_, 0, by omega, rfl, rfl⟩
      · simp only [push_cast, ↓branch_true, ↓branch_false, Nat.reduceBEq, Nat.reduceAdd, Nat.reduceMul, Nat.reduceSub, Int.reduceToNat, reduceCtorEq, branch_decide, branch_not, branch_beq, branch_bne]
        exact h
      · simp only [push_cast, ↓branch_true, ↓branch_false, Nat.reduceBEq, Nat.reduceAdd, Nat.reduceMul, Nat.reduceSub, Int.reduceToNat, reduceCtorEq, branch_decide, branch_not, branch_beq, branch_bne]
        exact fun _ _ => ⟨by omega, fun k hk => by omega⟩
    · refine ⟨_, _, [0, 2], ?_, by kernel_rfl, ?_, cap, hcap, rfl, rfl⟩
      · simp only [push_cast, ↓branch_true, ↓branch_false, Nat.reduceBEq, Nat.reduceAdd, Nat.reduceMul, Nat.reduceSub, Int.reduceToNat, reduceCtorEq, branch_decide, branch_not, branch_beq, branch_bne]
      · simp only [push_cast, ↓branch_true, ↓branch_false, Nat.reduceBEq, Nat.reduceAdd, Nat.reduceMul, Nat.reduceSub, Int.reduceToNat, reduceCtorEq, branch_decide, branch_not, branch_beq, branch_bne]
theorem take_sum (l : List Int) (k : Nat) (hk : k < l.length) : (l.take (k + 1)).sum = (l.take k).sum + ix l k := by
  rw [List.take_succ_eq_append_getElem hk, List.sum_append, ix_eq hk]; simp
theorem take_range {l : List Int} (hx : ∀ x ∈ l, -1125899906842624 ≤ x ∧ x ≤ 1125899906842624) (k : Nat) : -(1125899906842624 * (k : Int)) ≤ (l.take k).sum ∧ (l.take k).sum ≤ 1125899906842624 * (k : Int) := by
  have h := sum_bound (B := 1125899906842624) (by decide) (l.take k) fun y hy => hx y (List.mem_of_mem_take hy)
  have h2 : (l.take k).length ≤ k := by rw [List.length_take]; omega
  omega
theorem all_bit {n i : Nat} : (2 ^ n - 1).testBit i = decide (i < n) := by
  exact Nat.testBit_two_pow_sub_one n i
theorem sum_all {l : List Int} (hl : l.length ≤ 16) : sumS l (allN l) = l.sum := by
  have h : allN l < 2 ^ l.length := by
    have := Nat.two_pow_pos l.length
    unfold allN; omega
  rw [← sumN_all h (by omega)]
  have key : ∀ k, k ≤ l.length → sumN l (allN l) k = (l.take k).sum := by
    intro k
    induction k with
    | zero => intro _; simp [sumN]
    | succ k ih =>
      intro hk
      rw [sumN, ih (by omega), if_pos (by unfold allN; rw [all_bit, decide_eq_true_eq]; omega), take_sum l k (by omega)]
  rw [key _ (Nat.le_refl _), List.take_length]
theorem total_pu (l : List Int) (c : Nat) (hl : l.length ≤ 16) (hx : ∀ x ∈ l, -1125899906842624 ≤ x ∧ x ≤ 1125899906842624) : Pu Tryd.prog 31 [.s 0 0 0 l.length c 1] [rR l] (.v (.int .i64 (sumS l (allN l)))) := by
  refine pu_of_ex true [] mixed Tryd.call31 Tryd.func31 rfl Tryd.ntmps31 Tryd.results31 (by decide +kernel) rfl rfl rfl ?_
  simp only [push_cast, ↓branch_true, ↓branch_false, Nat.reduceBEq, Nat.reduceAdd, Nat.reduceMul, Nat.reduceSub, Int.reduceToNat, reduceCtorEq, branch_decide, branch_not, branch_beq, branch_bne]
  refine tr_loop0 mixed (by kernel_rfl) (fun (k : Nat) => [(8, .v (.int .i64 k)), (7, .v (.int .i64 l.length)), (6, .s 0 0 0 l.length c 1), (3, .v (.int .i64 (l.take k).sum))]) (fun k => k ≤ l.length) (fun k => l.length - k) 0 (Nat.zero_le _) ?_ ?_
  · simp only [push_cast, ↓branch_true, ↓branch_false, Nat.reduceBEq, Nat.reduceAdd, Nat.reduceMul, Nat.reduceSub, Int.reduceToNat, reduceCtorEq, branch_decide, branch_not, branch_beq, branch_bne]
    try rfl
  intro k hk
  have hr := take_range hx k
  simp only [push_cast, ↓branch_true, ↓branch_false, Nat.reduceBEq, Nat.reduceAdd, Nat.reduceMul, Nat.reduceSub, Int.reduceToNat, reduceCtorEq, branch_decide, branch_not, branch_beq, branch_bne]
  refine ⟨fun h => ?_, fun h => ?_⟩
  · have hk2 : k < l.length := by omega
    have hir := ix_range hx k
    have hsu := take_sum l k hk2
    repeat (with_reducible refine And.intro (by omega) ?_)
    refine lp0_normal (k + 1) (by omega) (by omega) ?_
    simp only [push_cast, ↓branch_true, ↓branch_false, Nat.reduceBEq, Nat.reduceAdd, Nat.reduceMul, Nat.reduceSub, Int.reduceToNat, reduceCtorEq, branch_decide, branch_not, branch_beq, branch_bne, hsu]
  · obtain rfl : k = l.length := by omega
    rw [sum_all hl, List.take_length]
theorem far_pu (n sum : Int) (hn : -1152921504606846976 ≤ n ∧ n ≤ 1152921504606846976) (hb : -1152921504606846976 ≤ sum ∧ sum ≤ 1152921504606846976) : Pu Tryd.prog 35 [.v (.int .i64 n), .p 0 0 0] [⟨3, true, .st [.v (.int .i64 sum)]⟩] (.v (.int .i64 (disF sum n))) := by
  refine pu_of_ex true [] mixed Tryd.call35 Tryd.func35 rfl Tryd.ntmps35 Tryd.results35 (by decide +kernel) rfl rfl rfl ?_
  simp only [push_cast, ↓branch_true, ↓branch_false, Nat.reduceBEq, Nat.reduceAdd, Nat.reduceMul, Nat.reduceSub, Int.reduceToNat, reduceCtorEq, branch_decide, branch_not, branch_beq, branch_bne]
  refine ⟨by omega, by omega, ?_⟩
  have e : max (n - sum) (sum - n) = disF sum n := by
    unfold disF
    split <;> omega
  rw [e]
theorem nearer_pu (k n sum : Int) (hk : -1152921504606846976 ≤ k ∧ k ≤ 1152921504606846976) (hn : -1152921504606846976 ≤ n ∧ n ≤ 1152921504606846976) (hb : -1152921504606846976 ≤ sum ∧ sum ≤ 1152921504606846976) :
    Pu Tryd.prog 37 [.v (.int .i64 k), .p 1 0 0, .p 2 0 0] [⟨3, true, .st [.v (.int .i64 sum)]⟩, ⟨56, true, .st [.f (.func 35) [] [.p 0 0 0]]⟩, ⟨3, true, .st [.v (.int .i64 n)]⟩] (.v (.bool (nrB sum k n))) := by
  refine pu_of_ex true [] mixed Tryd.call37 Tryd.func37 rfl Tryd.ntmps37 Tryd.results37 (by decide +kernel) rfl rfl rfl ?_
  simp only [push_cast, ↓branch_true, ↓branch_false, Nat.reduceBEq, Nat.reduceAdd, Nat.reduceMul, Nat.reduceSub, Int.reduceToNat, reduceCtorEq, branch_decide, branch_not, branch_beq, branch_bne]
  refine qc_call (far_pu k sum hk hb) rfl [0] rfl (by simp only [push_cast, ↓branch_true, ↓branch_false, Nat.reduceBEq, Nat.reduceAdd, Nat.reduceMul, Nat.reduceSub, Int.reduceToNat, reduceCtorEq, branch_decide, branch_not, branch_beq, branch_bne]) (by simp only [push_cast, ↓branch_true, ↓branch_false, Nat.reduceBEq, Nat.reduceAdd, Nat.reduceMul, Nat.reduceSub, Int.reduceToNat, reduceCtorEq, branch_decide, branch_not, branch_beq, branch_bne]) ?_
  simp only [push_cast, ↓branch_true, ↓branch_false, Nat.reduceBEq, Nat.reduceAdd, Nat.reduceMul, Nat.reduceSub, Int.reduceToNat, reduceCtorEq, branch_decide, branch_not, branch_beq, branch_bne]
  refine qc_call (far_pu n sum hn hb) rfl [0] rfl (by simp only [push_cast, ↓branch_true, ↓branch_false, Nat.reduceBEq, Nat.reduceAdd, Nat.reduceMul, Nat.reduceSub, Int.reduceToNat, reduceCtorEq, branch_decide, branch_not, branch_beq, branch_bne]) (by simp only [push_cast, ↓branch_true, ↓branch_false, Nat.reduceBEq, Nat.reduceAdd, Nat.reduceMul, Nat.reduceSub, Int.reduceToNat, reduceCtorEq, branch_decide, branch_not, branch_beq, branch_bne]) ?_
  simp only [push_cast, ↓branch_true, ↓branch_false, Nat.reduceBEq, Nat.reduceAdd, Nat.reduceMul, Nat.reduceSub, Int.reduceToNat, reduceCtorEq, branch_decide, branch_not, branch_beq, branch_bne]
  unfold nrB
  refine ⟨fun h1 => ?_, fun h1 => ?_⟩
  · rw [decide_eq_true h1, Bool.true_or]
  · rw [decide_eq_false h1, Bool.false_or]
    refine qc_call (far_pu k sum hk hb) rfl [0] rfl (by simp only [push_cast, ↓branch_true, ↓branch_false, Nat.reduceBEq, Nat.reduceAdd, Nat.reduceMul, Nat.reduceSub, Int.reduceToNat, reduceCtorEq, branch_decide, branch_not, branch_beq, branch_bne]) (by simp only [push_cast, ↓branch_true, ↓branch_false, Nat.reduceBEq, Nat.reduceAdd, Nat.reduceMul, Nat.reduceSub, Int.reduceToNat, reduceCtorEq, branch_decide, branch_not, branch_beq, branch_bne]) ?_
    simp only [push_cast, ↓branch_true, ↓branch_false, Nat.reduceBEq, Nat.reduceAdd, Nat.reduceMul, Nat.reduceSub, Int.reduceToNat, reduceCtorEq, branch_decide, branch_not, branch_beq, branch_bne]
    refine qc_call (far_pu n sum hn hb) rfl [0] rfl (by simp only [push_cast, ↓branch_true, ↓branch_false, Nat.reduceBEq, Nat.reduceAdd, Nat.reduceMul, Nat.reduceSub, Int.reduceToNat, reduceCtorEq, branch_decide, branch_not, branch_beq, branch_bne]) (by simp only [push_cast, ↓branch_true, ↓branch_false, Nat.reduceBEq, Nat.reduceAdd, Nat.reduceMul, Nat.reduceSub, Int.reduceToNat, reduceCtorEq, branch_decide, branch_not, branch_beq, branch_bne]) ?_
    simp only [push_cast, ↓branch_true, ↓branch_false, Nat.reduceBEq, Nat.reduceAdd, Nat.reduceMul, Nat.reduceSub, Int.reduceToNat, reduceCtorEq, branch_decide, branch_not, branch_beq, branch_bne]
    refine ⟨fun h2 => ?_, fun h2 => ?_⟩
    · rw [decide_eq_true h2, Bool.true_and]
    · rw [decide_eq_false h2, Bool.false_and]
end Go.Proofs.YtapbhppfecfobaaDoor
