/- Contracts: Nearest, of the program and of the reference. -/
import Derived.Test.YtapbhppfecfobaaDoorS
set_option maxRecDepth 100000
set_option linter.unusedSimpArgs false
set_option linter.unusedVariables false
namespace Go.Proofs.YtapbhppfecfobaaDoor
open Go.RowKit
theorem rfar_pu (a b : Int) (ha : -1152921504606846976 ≤ a ∧ a ≤ 1152921504606846976) (hb : -1152921504606846976 ≤ b ∧ b ≤ 1152921504606846976) : Pu Tryd.prog 49 [.v (.int .i64 a), .v (.int .i64 b)] [] (.v (.int .i64 (disF b a))) := by
  refine pu_of_ex true [] mixed Tryd.call49 Tryd.func49 rfl Tryd.ntmps49 Tryd.results49 (by decide +kernel) rfl rfl rfl ?_
  simp only [push_cast, ↓branch_true, ↓branch_false, Nat.reduceBEq, Nat.reduceAdd, Nat.reduceMul, Nat.reduceSub, Int.reduceToNat, reduceCtorEq, branch_decide, branch_not, branch_beq, branch_bne]
  unfold disF
  refine ⟨fun h => ?_, fun h => ?_⟩
  · rw [if_pos h]
    repeat (with_reducible refine And.intro (by omega) ?_)
    rfl
  · rw [if_neg h]
    repeat (with_reducible refine And.intro (by omega) ?_)
    rfl
theorem sumsL_len (l : List Int) : (sumsL l).length ≤ 2 ^ l.length := by
  rw [← sums_rsm]
  exact rsm_len l _
theorem sumsL_0 (l : List Int) : 0 < (sumsL l).length := by
  have : sumS l 0 ∈ sumsL l := sums_mem.2 ⟨0, Nat.two_pow_pos _, rfl⟩
  exact List.length_pos_of_mem this
theorem sumsL_range {l : List Int} (hx : ∀ x ∈ l, -1125899906842624 ≤ x ∧ x ≤ 1125899906842624) {k : Nat} (h : k < (sumsL l).length) : -36028797018963968 ≤ ix (sumsL l) k ∧ ix (sumsL l) k ≤ 36028797018963968 := by
  obtain ⟨s, _, e⟩ := sums_mem.1 (mem_ix.2 ⟨k, h, rfl⟩)
  rw [e]
  exact sumS_range hx s
theorem sumsL_lt {l : List Int} {a b : Nat} (h : a < b) (hb : b < (sumsL l).length) : ix (sumsL l) a < ix (sumsL l) b := by
  rw [ix_eq hb, ix_eq (Nat.lt_trans h hb)]
  exact List.pairwise_iff_getElem.1 (sums_asc l) a b _ _ h
set_option maxHeartbeats 1000000 in
theorem rnear_pu (l : List Int) (sum : Int) (c : Nat) (hl : l.length ≤ 16) (hx : ∀ x ∈ l, -1125899906842624 ≤ x ∧ x ≤ 1125899906842624) (hs : -1152921504606846976 ≤ sum ∧ sum ≤ 1152921504606846976) :
    Pu Tryd.prog 25 [.s 0 0 0 l.length c 1, .v (.int .i64 sum)] [rR l] (.v (.int .i64 (nearV l sum))) := by
  refine pu_of_ex true [] mixed Tryd.call25 Tryd.func25 rfl Tryd.ntmps25 Tryd.results25 (by decide +kernel) rfl rfl rfl ?_
  simp only [push_cast, ↓branch_true, ↓branch_false, Nat.reduceBEq, Nat.reduceAdd, Nat.reduceMul, Nat.reduceSub, Int.reduceToNat, reduceCtorEq, branch_decide, branch_not, branch_beq, branch_bne]
  refine sp_at (rsums_sp l c hl hx) [0] rfl ?_ ?_ ?_
  · simp only [push_cast, ↓branch_true, ↓branch_false, Nat.reduceBEq, Nat.reduceAdd, Nat.reduceMul, Nat.reduceSub, Int.reduceToNat, reduceCtorEq, branch_decide, branch_not, branch_beq, branch_bne]
  · simp only [push_cast, ↓branch_true, ↓branch_false, Nat.reduceBEq, Nat.reduceAdd, Nat.reduceMul, Nat.reduceSub, Int.reduceToNat, reduceCtorEq, branch_decide, branch_not, branch_beq, branch_bne]
  rintro _ _ ⟨cap, hcap, rfl, rfl⟩
  have h0 := sumsL_0 l
  have hr : ∀ k, k < (sumsL l).length → -36028797018963968 ≤ ix (sumsL l) k ∧ ix (sumsL l) k ≤ 36028797018963968 := fun k h => sumsL_range hx h
  have hlt : ∀ a b, a < b → b < (sumsL l).length → ix (sumsL l) a < ix (sumsL l) b := fun a b h hb => sumsL_lt h hb
  have hnr := nearV_near l sum
  have hlen := sumsL_len l
  have hp : 2 ^ l.length ≤ 2 ^ 16 := Nat.pow_le_pow_right (by decide) hl
  have hmem : ∀ x, x ∈ sumsL l ↔ ∃ q, q < (sumsL l).length ∧ x = ix (sumsL l) q := fun x => mem_ix
  generalize hS : sumsL l = S at *
  simp only [push_cast, ↓branch_true, ↓branch_false, Nat.reduceBEq, Nat.reduceAdd, Nat.reduceMul, Nat.reduceSub, Int.reduceToNat, reduceCtorEq, branch_decide, branch_not, branch_beq, branch_bne]
  repeat (with_reducible refine And.intro (by omega) ?_)
  refine tr_loop0 mixed (by kernel_rfl) (fun (y : Nat × Nat) => [(7, .v (.int .i64 y.1)), (6, .v (.int .i64 (ix S y.2))), (1, .v (.int .i64 sum)), (5, .s 1 0 0 S.length cap 1)])
    (fun y => 1 ≤ y.1 ∧ y.1 ≤ S.length ∧ y.2 < y.1 ∧ ∀ q, q < y.1 → disF sum (ix S y.2) < disF sum (ix S q) ∨ (disF sum (ix S y.2) = disF sum (ix S q) ∧ ix S y.2 ≤ ix S q)) (fun y => S.length - y.1) (1, 0) ⟨Nat.le_refl _, h0, Nat.zero_lt_one, fun q hq => by
      obtain rfl : q = 0 := by simp only at hq; omega
      exact .inr ⟨rfl, Int.le_refl _⟩⟩ ?_ ?_
  · simp only [push_cast, ↓branch_true, ↓branch_false, Nat.reduceBEq, Nat.reduceAdd, Nat.reduceMul, Nat.reduceSub, Int.reduceToNat, reduceCtorEq, branch_decide, branch_not, branch_beq, branch_bne]
    try rfl
  rintro ⟨i, b⟩ ⟨q1, q2, q3, q4⟩
  simp only at q1 q2 q3 q4
  simp only [push_cast, ↓branch_true, ↓branch_false, Nat.reduceBEq, Nat.reduceAdd, Nat.reduceMul, Nat.reduceSub, Int.reduceToNat, reduceCtorEq, branch_decide, branch_not, branch_beq, branch_bne]
  refine ⟨fun h => ?_, fun h => ?_⟩
  rotate_left
  · obtain rfl : i = S.length := by omega
    have := near_one hnr ⟨(hmem _).2 ⟨b, q3, rfl⟩, fun x hx => by
      obtain ⟨q, hq, rfl⟩ := (hmem x).1 hx
      exact q4 q hq⟩
    rw [this]
  have hi : i < S.length := by omega
  have hri := hr i hi
  have hrb := hr b (by omega)
  have hbi := hlt b i q3 hi
  repeat (with_reducible refine And.intro (by omega) ?_)
  refine sp_call (rfar_pu (ix S i) sum (by omega) hs) rfl [] rfl (by simp only [push_cast, ↓branch_true, ↓branch_false, Nat.reduceBEq, Nat.reduceAdd, Nat.reduceMul, Nat.reduceSub, Int.reduceToNat, reduceCtorEq, branch_decide, branch_not, branch_beq, branch_bne]) (by simp only [push_cast, ↓branch_true, ↓branch_false, Nat.reduceBEq, Nat.reduceAdd, Nat.reduceMul, Nat.reduceSub, Int.reduceToNat, reduceCtorEq, branch_decide, branch_not, branch_beq, branch_bne]) ?_
  simp only [push_cast, ↓branch_true, ↓branch_false, Nat.reduceBEq, Nat.reduceAdd, Nat.reduceMul, Nat.reduceSub, Int.reduceToNat, reduceCtorEq, branch_decide, branch_not, branch_beq, branch_bne]
  refine sp_call (rfar_pu (ix S b) sum (by omega) hs) rfl [] rfl (by simp only [push_cast, ↓branch_true, ↓branch_false, Nat.reduceBEq, Nat.reduceAdd, Nat.reduceMul, Nat.reduceSub, Int.reduceToNat, reduceCtorEq, branch_decide, branch_not, branch_beq, branch_bne]) (by simp only [push_cast, ↓branch_true, ↓branch_false, Nat.reduceBEq, Nat.reduceAdd, Nat.reduceMul, Nat.reduceSub, Int.reduceToNat, reduceCtorEq, branch_decide, branch_not, branch_beq, branch_bne]) ?_
  simp only [push_cast, ↓branch_true, ↓branch_false, Nat.reduceBEq, Nat.reduceAdd, Nat.reduceMul, Nat.reduceSub, Int.reduceToNat, reduceCtorEq, branch_decide, branch_not, branch_beq, branch_bne]
  refine ⟨fun h5 => ?_, fun h5 => ?_⟩
  · have hR : ∀ q, q < i + 1 → disF sum (ix S i) < disF sum (ix S q) ∨ (disF sum (ix S i) = disF sum (ix S q) ∧ ix S i ≤ ix S q) := fun q hq => by
      rcases Nat.lt_or_eq_of_le (Nat.le_of_lt_succ hq) with h3 | h3
      · have := q4 q h3
        omega
      · subst h3; exact .inr ⟨rfl, Int.le_refl _⟩
    repeat (with_reducible refine And.intro (by omega) ?_)
    refine lp0_normal (i + 1, i) (And.intro (by omega) (And.intro (by omega) (And.intro (by omega) hR))) (show S.length - (i + 1) < S.length - i by omega) ?_
    simp only [push_cast, ↓branch_true, ↓branch_false, Nat.reduceBEq, Nat.reduceAdd, Nat.reduceMul, Nat.reduceSub, Int.reduceToNat, reduceCtorEq, branch_decide, branch_not, branch_beq, branch_bne]
  · have hR : ∀ q, q < i + 1 → disF sum (ix S b) < disF sum (ix S q) ∨ (disF sum (ix S b) = disF sum (ix S q) ∧ ix S b ≤ ix S q) := fun q hq => by
      rcases Nat.lt_or_eq_of_le (Nat.le_of_lt_succ hq) with h3 | h3
      · exact q4 q h3
      · subst h3
        omega
    repeat (with_reducible refine And.intro (by omega) ?_)
    refine lp0_normal (i + 1, b) (And.intro (by omega) (And.intro (by omega) (And.intro (by omega) hR))) (show S.length - (i + 1) < S.length - i by omega) ?_
    simp only [push_cast, ↓branch_true, ↓branch_false, Nat.reduceBEq, Nat.reduceAdd, Nat.reduceMul, Nat.reduceSub, Int.reduceToNat, reduceCtorEq, branch_decide, branch_not, branch_beq, branch_bne]
def nearE (l : List Int) (sum : Int) : Int := if givE l ≠ 0 then givE l else if sum < -1152921504606846976 ∨ 1152921504606846976 < sum then 2 else 0
def nearN (l : List Int) (sum : Int) : Int := if nearE l sum ≠ 0 then 0 else nearV l sum
def nearL (l : List Int) (sum : Int) : List Int := if nearE l sum ≠ 0 then [] else bL ((firstO l (nearV l sum) 0).getD 0)
theorem near1_pu (n sum : Int) (hn : -1152921504606846976 ≤ n ∧ n ≤ 1152921504606846976) (hb : -1152921504606846976 ≤ sum ∧ sum ≤ 1152921504606846976) : Pu Tryd.prog 47 [.v (.int .i64 n), .p 0 0 0] [⟨3, true, .st [.v (.int .i64 sum)]⟩] (.v (.int .i64 (disF sum n))) := by
  refine pu_of_ex true [] mixed Tryd.call47 Tryd.func47 rfl Tryd.ntmps47 Tryd.results47 (by decide +kernel) rfl rfl rfl ?_
  simp only [push_cast, ↓branch_true, ↓branch_false, Nat.reduceBEq, Nat.reduceAdd, Nat.reduceMul, Nat.reduceSub, Int.reduceToNat, reduceCtorEq, branch_decide, branch_not, branch_beq, branch_bne]
  refine ⟨by omega, by omega, ?_⟩
  have e : max (n - sum) (sum - n) = disF sum n := by
    unfold disF
    split <;> omega
  rw [e]
set_option maxHeartbeats 1000000 in
theorem near_sp (l : List Int) (sum : Int) (c : Nat) (hl : l.length ≤ 9223372036854775807) : Sp Tryd.prog 23 [.s 0 0 0 l.length c 1, .v (.int .i64 sum)] [rR l]
    (fun r H => ∃ cap, (nearL l sum).length ≤ cap ∧ r = .t [.v (.int .i64 (nearN l sum)), .s 1 0 0 (nearL l sum).length cap 1, .v (.int .i64 (nearE l sum))] ∧ H = [rR l, rIO (nearL l sum) cap]) := by
  have key : ∀ e σH, σH.length ≤ 900 → e ≠ 0 → nearE l sum = e → ∃ r H2 rl, mt rl r (.t [.v (.int .i64 0), .v (.slice none 0 0), .v (.int .i64 e)]) ∧ (keepB 0 rl 1 && nodupB (liveL rl H2) && rl.length.beq H2.length) = true ∧ obsM rl ([rR l] ++ σH) rl H2 ∧ ∃ cap, (nearL l sum).length ≤ cap ∧ r = .t [.v (.int .i64 (nearN l sum)), .s 1 0 0 (nearL l sum).length cap 1, .v (.int .i64 (nearE l sum))] ∧ H2 = [rR l, rIO (nearL l sum) cap] := by
    intro e σH hσ he0 he
    have h0 : nearL l sum = [] := if_pos (by rw [he]; exact he0)
    have h1 : nearN l sum = 0 := if_pos (by rw [he]; exact he0)
    rw [h0, h1, he]
    refine ⟨_, _, [0, 1000], ?_, by kernel_rfl, ?_, 0, Nat.le_refl _, rfl, rfl⟩
    · simp only [push_cast, ↓branch_true, ↓branch_false, Nat.reduceBEq, Nat.reduceAdd, Nat.reduceMul, Nat.reduceSub, Int.reduceToNat, reduceCtorEq, branch_decide, branch_not, branch_beq, branch_bne]
    · simp only [push_cast, ↓branch_true, ↓branch_false, Nat.reduceBEq, Nat.reduceAdd, Nat.reduceMul, Nat.reduceSub, Int.reduceToNat, reduceCtorEq, branch_decide, branch_not, branch_beq, branch_bne]
      rw [obAt_out (show σH.length ≤ 999 by omega)]
      simp only [push_cast, ↓branch_true, ↓branch_false, Nat.reduceBEq, Nat.reduceAdd, Nat.reduceMul, Nat.reduceSub, Int.reduceToNat, reduceCtorEq, branch_decide, branch_not, branch_beq, branch_bne]
      omega
  refine sp_weak ?_
  refine sp_of_ex true [(12, .one 0 (.one 1 (.one 3 (.one 4 (.one 2 (.one 5 (.one 6 (.one 7 .fin))))))))] mixed Tryd.call23 Tryd.func23 rfl Tryd.ntmps23 Tryd.results23 (by decide +kernel) rfl ?_
  simp only [push_cast, ↓branch_true, ↓branch_false, Nat.reduceBEq, Nat.reduceAdd, Nat.reduceMul, Nat.reduceSub, Int.reduceToNat, reduceCtorEq, branch_decide, branch_not, branch_beq, branch_bne]
  refine sp_call (given_pu l c hl) rfl [0] rfl (by simp only [push_cast, ↓branch_true, ↓branch_false, Nat.reduceBEq, Nat.reduceAdd, Nat.reduceMul, Nat.reduceSub, Int.reduceToNat, reduceCtorEq, branch_decide, branch_not, branch_beq, branch_bne]) (by simp only [push_cast, ↓branch_true, ↓branch_false, Nat.reduceBEq, Nat.reduceAdd, Nat.reduceMul, Nat.reduceSub, Int.reduceToNat, reduceCtorEq, branch_decide, branch_not, branch_beq, branch_bne]) ?_
  simp only [push_cast, ↓branch_true, ↓branch_false, Nat.reduceBEq, Nat.reduceAdd, Nat.reduceMul, Nat.reduceSub, Int.reduceToNat, reduceCtorEq, branch_decide, branch_not, branch_beq, branch_bne]
  by_cases hg : givE l = 0
  rotate_left
  · refine ⟨fun h => absurd h hg, fun _ => ?_⟩
    exact key (givE l) [_] (by simp) hg (if_pos hg)
  refine ⟨fun _ => ?_, fun h => absurd hg h⟩
  obtain ⟨h1, h2⟩ := given_0 hg
  have hN : 2 ^ l.length ≤ 65536 := Nat.pow_le_pow_right (n := 2) (by decide) (i := l.length) (j := 16) h1
  have hN0 : 0 < 2 ^ l.length := Nat.two_pow_pos _
  have range : ∀ h : sum < -1152921504606846976 ∨ 1152921504606846976 < sum, nearE l sum = 2 := fun h => by rw [nearE, if_neg (by simp [hg]), if_pos h]
  refine ⟨fun h => key 2 [_] (by simp) (by decide) (range (.inl h)), fun h3 => ⟨fun h => key 2 [_] (by simp) (by decide) (range (.inr h)), fun h4 => ?_⟩⟩
  have hs : -1152921504606846976 ≤ sum ∧ sum ≤ 1152921504606846976 := ⟨by omega, by omega⟩
  have hE : nearE l sum = 0 := by rw [nearE, if_neg (by simp [hg]), if_neg (by omega)]
  have hV : nearN l sum = nearV l sum := by rw [nearN, if_neg (by simp [hE])]
  have hL : nearL l sum = bL ((firstO l (nearV l sum) 0).getD 0) := by rw [nearL, if_neg (by simp [hE])]
  refine sp_at (sums_sp l c h1 h2) [0] rfl ?_ ?_ ?_
  · simp only [push_cast, ↓branch_true, ↓branch_false, Nat.reduceBEq, Nat.reduceAdd, Nat.reduceMul, Nat.reduceSub, Int.reduceToNat, reduceCtorEq, branch_decide, branch_not, branch_beq, branch_bne]
  · simp only [push_cast, ↓branch_true, ↓branch_false, Nat.reduceBEq, Nat.reduceAdd, Nat.reduceMul, Nat.reduceSub, Int.reduceToNat, reduceCtorEq, branch_decide, branch_not, branch_beq, branch_bne]
  rintro _ _ ⟨rfl, rfl⟩
  have hal := allS_len l (2 ^ l.length)
  have hai : ∀ k, k < 2 ^ l.length → ix (allS l (2 ^ l.length)) k = sumS l k := fun k h => allS_ix l h
  have hfp : ∀ best, _ := fun best => first_pu (allS l (2 ^ l.length)) best 0 (2 ^ l.length) (by rw [allS_len]; exact hN)
  rw [allS_len] at hfp
  have hfl : ∀ best s, firstO l best 0 = some s → s < 65536 := fun best s hs => Nat.lt_of_lt_of_le (firstT_lt hs) hN
  have hfc : ∀ best, firstT (ix (allS l (2 ^ l.length))) best 0 (2 ^ l.length) = firstO l best 0 := fun best => firstT_congr fun i hi => allS_ix l hi
  have hnv : nrT (sumS l) sum (sumS l 0) (2 ^ l.length) = nearV l sum := rfl
  generalize hA : allS l (2 ^ l.length) = A at *
  generalize hNe : 2 ^ l.length = N at *
  simp only [push_cast, ↓branch_true, ↓branch_false, Nat.reduceBEq, Nat.reduceAdd, Nat.reduceMul, Nat.reduceSub, Int.reduceToNat, reduceCtorEq, branch_decide, branch_not, branch_beq, branch_bne, hal]
  repeat (with_reducible refine And.intro (by omega) ?_)
  rw [hai 0 hN0]
  refine tr_loop0 mixed (by kernel_rfl) (fun (k : Nat) => [(36, .v (.int .i64 k)), (35, .v (.int .i64 N)), (34, .s 2 0 0 N N 1), (9, .v (.int .i64 (nrT (sumS l) sum (sumS l 0) k))), (10, .f (.func 47) [] [.p 1 0 0]), (8, .s 2 0 0 N N 1)])
    (fun k => k ≤ N) (fun k => N - k) 0 (Nat.zero_le _) ?_ ?_
  · simp only [push_cast, ↓branch_true, ↓branch_false, Nat.reduceBEq, Nat.reduceAdd, Nat.reduceMul, Nat.reduceSub, Int.reduceToNat, reduceCtorEq, branch_decide, branch_not, branch_beq, branch_bne]
    try rfl
  intro k hk
  simp only [push_cast, ↓branch_true, ↓branch_false, Nat.reduceBEq, Nat.reduceAdd, Nat.reduceMul, Nat.reduceSub, Int.reduceToNat, reduceCtorEq, branch_decide, branch_not, branch_beq, branch_bne, hal]
  refine ⟨fun h => ?_, fun h => ?_⟩
  · have hk2 : k < N := by omega
    have hr1 := sumS_range h2 k
    have hnear := nrT_near (sumS l) sum (sumS l 0) k
    have hr2 : -36028797018963968 ≤ nrT (sumS l) sum (sumS l 0) k ∧ nrT (sumS l) sum (sumS l 0) k ≤ 36028797018963968 := by
      rcases hnear.1 with e | ⟨q, _, e⟩
      · rw [e]; exact sumS_range h2 0
      · rw [e]; exact sumS_range h2 q
    have hsu : nrT (sumS l) sum (sumS l 0) (k + 1) = bif nrB sum (sumS l k) (nrT (sumS l) sum (sumS l 0) k) then sumS l k else nrT (sumS l) sum (sumS l 0) k := rfl
    rw [hai k hk2]
    repeat (with_reducible refine And.intro (by omega) ?_)
    generalize nrT (sumS l) sum (sumS l 0) k = b at *
    generalize sumS l k = x at *
    refine sp_call (near1_pu x sum (by omega) hs) rfl [1] rfl (by simp only [push_cast, ↓branch_true, ↓branch_false, Nat.reduceBEq, Nat.reduceAdd, Nat.reduceMul, Nat.reduceSub, Int.reduceToNat, reduceCtorEq, branch_decide, branch_not, branch_beq, branch_bne]) (by simp only [push_cast, ↓branch_true, ↓branch_false, Nat.reduceBEq, Nat.reduceAdd, Nat.reduceMul, Nat.reduceSub, Int.reduceToNat, reduceCtorEq, branch_decide, branch_not, branch_beq, branch_bne]) ?_
    simp only [push_cast, ↓branch_true, ↓branch_false, Nat.reduceBEq, Nat.reduceAdd, Nat.reduceMul, Nat.reduceSub, Int.reduceToNat, reduceCtorEq, branch_decide, branch_not, branch_beq, branch_bne]
    refine sp_call (near1_pu b sum (by omega) hs) rfl [1] rfl (by simp only [push_cast, ↓branch_true, ↓branch_false, Nat.reduceBEq, Nat.reduceAdd, Nat.reduceMul, Nat.reduceSub, Int.reduceToNat, reduceCtorEq, branch_decide, branch_not, branch_beq, branch_bne]) (by simp only [push_cast, ↓branch_true, ↓branch_false, Nat.reduceBEq, Nat.reduceAdd, Nat.reduceMul, Nat.reduceSub, Int.reduceToNat, reduceCtorEq, branch_decide, branch_not, branch_beq, branch_bne]) ?_
    simp only [push_cast, ↓branch_true, ↓branch_false, Nat.reduceBEq, Nat.reduceAdd, Nat.reduceMul, Nat.reduceSub, Int.reduceToNat, reduceCtorEq, branch_decide, branch_not, branch_beq, branch_bne]
    refine ⟨fun h5 => ?_, fun h5 => ⟨fun h6 => ⟨fun h7 => ?_, fun h7 => ?_⟩, fun h6 => ?_⟩⟩
    · have e : nrB sum x b = true := by simp [nrB, h5]
      rw [e, cond_true] at hsu
      repeat (with_reducible refine And.intro (by omega) ?_)
      refine lp0_normal (k + 1) (by omega) (by omega) ?_
      simp only [push_cast, ↓branch_true, ↓branch_false, Nat.reduceBEq, Nat.reduceAdd, Nat.reduceMul, Nat.reduceSub, Int.reduceToNat, reduceCtorEq, branch_decide, branch_not, branch_beq, branch_bne, hsu]
    · have e : nrB sum x b = true := by simp [nrB, h6, h7]
      rw [e, cond_true] at hsu
      repeat (with_reducible refine And.intro (by omega) ?_)
      refine lp0_normal (k + 1) (by omega) (by omega) ?_
      simp only [push_cast, ↓branch_true, ↓branch_false, Nat.reduceBEq, Nat.reduceAdd, Nat.reduceMul, Nat.reduceSub, Int.reduceToNat, reduceCtorEq, branch_decide, branch_not, branch_beq, branch_bne, hsu]
    · have e : nrB sum x b = false := by simp [nrB, h6]; omega
      rw [e, cond_false] at hsu
      repeat (with_reducible refine And.intro (by omega) ?_)
      refine lp0_normal (k + 1) (by omega) (by omega) ?_
      simp only [push_cast, ↓branch_true, ↓branch_false, Nat.reduceBEq, Nat.reduceAdd, Nat.reduceMul, Nat.reduceSub, Int.reduceToNat, reduceCtorEq, branch_decide, branch_not, branch_beq, branch_bne, hsu]
    · have e : nrB sum x b = false := by simp [nrB, h6]; omega
      rw [e, cond_false] at hsu
      repeat (with_reducible refine And.intro (by omega) ?_)
      refine lp0_normal (k + 1) (by omega) (by omega) ?_
      simp only [push_cast, ↓branch_true, ↓branch_false, Nat.reduceBEq, Nat.reduceAdd, Nat.reduceMul, Nat.reduceSub, Int.reduceToNat, reduceCtorEq, branch_decide, branch_not, branch_beq, branch_bne, hsu]
  · obtain rfl : k = N := by omega
    rw [hnv]
    have hf2 := hfp (nearV l sum)
    rw [hfc] at hf2
    refine sp_call hf2 rfl [2] rfl ?_ ?_ ?_
    · simp only [push_cast, ↓branch_true, ↓branch_false, Nat.reduceBEq, Nat.reduceAdd, Nat.reduceMul, Nat.reduceSub, Int.reduceToNat, reduceCtorEq, branch_decide, branch_not, branch_beq, branch_bne]
    · simp only [push_cast, ↓branch_true, ↓branch_false, Nat.reduceBEq, Nat.reduceAdd, Nat.reduceMul, Nat.reduceSub, Int.reduceToNat, reduceCtorEq, branch_decide, branch_not, branch_beq, branch_bne, hal]
      try exact ⟨rfl, fun _ _ => trivial⟩
    have hs2 : (firstO l (nearV l sum) 0).getD 0 < 65536 := by
      cases ho : firstO l (nearV l sum) 0 with
      | none => decide
      | some s => exact hfl _ s ho
    simp only [push_cast, ↓branch_true, ↓branch_false, Nat.reduceBEq, Nat.reduceAdd, Nat.reduceMul, Nat.reduceSub, Int.reduceToNat, reduceCtorEq, branch_decide, branch_not, branch_beq, branch_bne]
    refine sp_at (list_sp _ hs2) [] rfl ?_ ?_ ?_
    · simp only [push_cast, ↓branch_true, ↓branch_false, Nat.reduceBEq, Nat.reduceAdd, Nat.reduceMul, Nat.reduceSub, Int.reduceToNat, reduceCtorEq, branch_decide, branch_not, branch_beq, branch_bne]
    · simp only [push_cast, ↓branch_true, ↓branch_false, Nat.reduceBEq, Nat.reduceAdd, Nat.reduceMul, Nat.reduceSub, Int.reduceToNat, reduceCtorEq, branch_decide, branch_not, branch_beq, branch_bne]
    rintro _ _ ⟨cap, hcap, rfl, rfl⟩
    simp only [push_cast, ↓branch_true, ↓branch_false, Nat.reduceBEq, Nat.reduceAdd, Nat.reduceMul, Nat.reduceSub, Int.reduceToNat, reduceCtorEq, branch_decide, branch_not, branch_beq, branch_bne]
    rw [hV, hL, hE]
    refine ⟨_, _, [0, 3], ?_, by kernel_rfl, ?_, cap, hcap, rfl, rfl⟩
    · simp only [push_cast, ↓branch_true, ↓branch_false, Nat.reduceBEq, Nat.reduceAdd, Nat.reduceMul, Nat.reduceSub, Int.reduceToNat, reduceCtorEq, branch_decide, branch_not, branch_beq, branch_bne]
    · simp only [push_cast, ↓branch_true, ↓branch_false, Nat.reduceBEq, Nat.reduceAdd, Nat.reduceMul, Nat.reduceSub, Int.reduceToNat, reduceCtorEq, branch_decide, branch_not, branch_beq, branch_bne]
end Go.Proofs.YtapbhppfecfobaaDoor
