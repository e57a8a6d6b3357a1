/- Contracts of the reference: Sums. -/
import Derived.Test.YtapbhppfecfobaaDoorR
set_option maxRecDepth 100000
set_option linter.unusedSimpArgs false
set_option linter.unusedVariables false
namespace Go.Proofs.YtapbhppfecfobaaDoor
open Go.RowKit
theorem src_ints (f : Nat → Int) (n : Nat) : srcOk (fun k => [.v (.int .i64 (f k))]) 1 n := by
  unfold srcOk
  split <;> simp [lenP, lenIs, ones, one1]
theorem ins_ix {O : List Int} {n : Int} {q : Nat} (hq : q ≤ O.length) (j : Nat) : ix (O.take q ++ (n :: O.drop q)) j = if j < q then ix O j else if j = q then n else ix O (j - 1) := by
  have hl : (O.take q).length = q := by simp; omega
  unfold ix
  rw [List.getD_eq_getElem?_getD, List.getD_eq_getElem?_getD, List.getD_eq_getElem?_getD, List.getElem?_append, hl]
  by_cases h : j < q
  · rw [if_pos h, if_pos h, List.getElem?_take, if_pos h]
  · rw [if_neg h, if_neg h]
    by_cases e : j = q
    · subst e; simp
    · rw [if_neg e, List.getElem?_cons, if_neg (by omega), List.getElem?_drop, show q + (j - q - 1) = j - 1 by omega]
theorem ins_len {O : List Int} {n : Int} {q : Nat} (hq : q ≤ O.length) : (O.take q ++ (n :: O.drop q)).length = O.length + 1 := by
  simp; omega
theorem appF_eq {n1 n2 k : Nat} {old new : Nat → List SV} (hk : k < n1 + n2) : appF n1 n2 old new k = if k < n1 then old k else new (k - n1) := by
  unfold appF
  by_cases h : k < n1
  · simp only [h, decide_true, if_true]
    split <;> exact mrgL_yes _ _
  · simp only [h, decide_false, if_false]
    split
    · rw [mrgL_no, show k - n1 = 0 by omega]
    · exact mrgL_no _ _
theorem row_1 (n : Int) (k : Nat) (hk : k < 1) : List.take 1 (List.drop (k * 1) [SV.v (.int .i64 n)]) = [.v (.int .i64 n)] := by
  obtain rfl : k = 0 := by omega
  rfl
theorem ins_row {X O : List Int} {n : Int} {q : Nat} (hii : ∀ j, ix X j = if j < q then ix O j else if j = q then n else ix O (j - 1)) (hq : q ≤ O.length) (k : Nat) (hk : k < O.length + 1) :
    appF (q - 0 + 1) (O.length - q) (appF (q - 0) 1 (appF 0 (q - 0) (rowF [] 1) fun k => [.v (.int .i64 (ix O k))]) fun k => List.take 1 (List.drop (k * 1) [.v (.int .i64 n)])) (fun k => [.v (.int .i64 (ix O (q + k)))]) k = [.v (.int .i64 (ix X k))] := by
  rw [hii, appF_eq (by omega)]
  rcases Nat.lt_trichotomy k q with h | h | h
  · rw [if_pos (by omega), if_pos h, appF_eq (by omega), if_pos (by omega), appF_eq (by omega), if_neg (by omega)]
    rfl
  · rw [if_pos (by omega), if_neg (by omega), if_pos h, appF_eq (by omega), if_neg (by omega)]
    exact row_1 n _ (by omega)
  · rw [if_neg (by omega), if_neg (by omega), if_neg (by omega), show q + (k - (q - 0 + 1)) = k - 1 by omega]
theorem ins_row1 {X O : List Int} {n : Int} (hii : ∀ j, ix X j = if j < 0 then ix O j else if j = 0 then n else ix O (j - 1)) (k : Nat) (hk : k < O.length + 1) :
    appF 1 (O.length - 0) (appF 0 1 (rowF [] 1) fun k => List.take 1 (List.drop (k * 1) [.v (.int .i64 n)])) (fun k => [.v (.int .i64 (ix O (0 + k)))]) k = [.v (.int .i64 (ix X k))] := by
  have h0 := hii k
  rw [if_neg (by omega)] at h0
  rw [h0, appF_eq (by omega)]
  by_cases h : k = 0
  · subst h
    rw [if_pos (by omega), if_pos rfl, appF_eq (by omega), if_neg (by omega)]
    exact row_1 n _ (by omega)
  · rw [if_neg (by omega), if_neg h, show 0 + (k - 1) = k - 1 by omega]
theorem ins_row2 {X O : List Int} {n : Int} {q : Nat} (hii : ∀ j, ix X j = if j < q then ix O j else if j = q then n else ix O (j - 1)) (hq : q = O.length) (k : Nat) (hk : k < O.length + 1) :
    mrgL (decide (k < q - 0)) (appF 0 (q - 0) (rowF [] 1) (fun k => [.v (.int .i64 (ix O k))]) k) [.v (.int .i64 n)] = [.v (.int .i64 (ix X k))] := by
  rw [hii]
  by_cases h : k < q
  · rw [decide_eq_true (by omega), mrgL_yes, if_pos h, appF_eq (by omega), if_neg (by omega)]
    rfl
  · rw [decide_eq_false (by omega), mrgL_no, if_neg h, if_pos (by omega)]
set_option maxHeartbeats 1000000 in
theorem rsums_sp (l : List Int) (c : Nat) (hl : l.length ≤ 16) (hx : ∀ x ∈ l, -1125899906842624 ≤ x ∧ x ≤ 1125899906842624) :
    Sp Tryd.prog 24 [.s 0 0 0 l.length c 1] [rR l] (fun r H => ∃ cap, (sumsL l).length ≤ cap ∧ r = .s 1 0 0 (sumsL l).length cap 1 ∧ H = [rR l, rIO (sumsL l) cap]) := by
  have hp : 2 ^ l.length ≤ 2 ^ 16 := Nat.pow_le_pow_right (by decide) hl
  have hp0 : 0 < 2 ^ l.length := Nat.two_pow_pos _
  have hN := two_shl hl
  have hall := sums_rsm l
  refine sp_weak ?_
  refine sp_of_ex true [(10, .one 1 (.one 2 (.one 3 (.one 5 (.one 8 (.one 9 (.one 10 (.alt [(0, .alt [(4, .one 6 (.one 7 (.one 11 (.one 12 .fin)))), (6, .one 4 (.one 7 (.one 11 (.one 12 .fin))))]), (6, .one 0 (.one 4 (.one 7 (.one 11 (.one 12 .fin)))))]))))))))] mixed Tryd.call24 Tryd.func24 rfl Tryd.ntmps24 Tryd.results24 (by decide +kernel) rfl ?_
  simp only [push_cast, ↓branch_true, ↓branch_false, Nat.reduceBEq, Nat.reduceAdd, Nat.reduceMul, Nat.reduceSub, Int.reduceToNat, reduceCtorEq, branch_decide, branch_not, branch_beq, branch_bne]
  refine tr_loop mixed (by kernel_rfl) (fun (x : Nat × Nat) => [(0, .s 0 0 0 l.length c 1), (3, .s 1 0 0 (rsm l x.1).length x.2 1), (4, .v (.int .i64 x.1))]) (fun x => [rR l, rIO (rsm l x.1) x.2]) (fun x => x.1 ≤ 2 ^ l.length ∧ (rsm l x.1).length ≤ x.2) (fun x => 2 ^ l.length - x.1) (0, 0) ⟨Nat.zero_le _, Nat.le_refl _⟩ (Mt.wk (rl := [0, 1000]) ⟨by kernel_rfl, ?_, ?_⟩) ?_
  · simp only [push_cast, ↓branch_true, ↓branch_false, Nat.reduceBEq, Nat.reduceAdd, Nat.reduceMul, Nat.reduceSub, Int.reduceToNat, reduceCtorEq, branch_decide, branch_not, branch_beq, branch_bne]
    try rfl
  · simp only [push_cast, ↓branch_true, ↓branch_false, Nat.reduceBEq, Nat.reduceAdd, Nat.reduceMul, Nat.reduceSub, Int.reduceToNat, reduceCtorEq, branch_decide, branch_not, branch_beq, branch_bne]
    exact ⟨by omega, Or.inr fun _ => rfl⟩
  rintro ⟨k, oc⟩ ⟨g1, g2⟩
  simp only at g1 g2
  have hln := rsm_len l k
  have hsu : rsm l (k + 1) = insU (sumS l k) (rsm l k) := rfl
  simp only [push_cast, ↓branch_true, ↓branch_false, Nat.reduceBEq, Nat.reduceAdd, Nat.reduceMul, Nat.reduceSub, Int.reduceToNat, reduceCtorEq, branch_decide, branch_not, branch_beq, branch_bne]
  refine ⟨by omega, ?_⟩
  rw [hN]
  refine ⟨by omega, by omega, fun h => ?_, fun h => ?_⟩
  rotate_left
  · obtain rfl : k = 2 ^ l.length := by omega
    rw [hall] at g2 ⊢
    refine ⟨_, _, [0, 1], ?_, by kernel_rfl, ?_, oc, g2, rfl, rfl⟩
    · simp only [push_cast, ↓branch_true, ↓branch_false, Nat.reduceBEq, Nat.reduceAdd, Nat.reduceMul, Nat.reduceSub, Int.reduceToNat, reduceCtorEq, branch_decide, branch_not, branch_beq, branch_bne]
    · simp only [push_cast, ↓branch_true, ↓branch_false, Nat.reduceBEq, Nat.reduceAdd, Nat.reduceMul, Nat.reduceSub, Int.reduceToNat, reduceCtorEq, branch_decide, branch_not, branch_beq, branch_bne]
  have hk2 : k < 2 ^ l.length := by omega
  refine sp_call (rsum_pu l c k hk2 hl hx) rfl [0] rfl (by simp only [push_cast, ↓branch_true, ↓branch_false, Nat.reduceBEq, Nat.reduceAdd, Nat.reduceMul, Nat.reduceSub, Int.reduceToNat, reduceCtorEq, branch_decide, branch_not, branch_beq, branch_bne]) (by simp only [push_cast, ↓branch_true, ↓branch_false, Nat.reduceBEq, Nat.reduceAdd, Nat.reduceMul, Nat.reduceSub, Int.reduceToNat, reduceCtorEq, branch_decide, branch_not, branch_beq, branch_bne]) ?_
  simp only [push_cast, ↓branch_true, ↓branch_false, Nat.reduceBEq, Nat.reduceAdd, Nat.reduceMul, Nat.reduceSub, Int.reduceToNat, reduceCtorEq, branch_decide, branch_not, branch_beq, branch_bne]
  generalize hn : sumS l k = n at *
  generalize hO : rsm l k = O at *
  refine tr_loop0 mixed (by kernel_rfl) (fun (q : Nat) => [(6, .v (.int .i64 q)), (0, .s 0 0 0 l.length c 1), (3, .s 1 0 0 O.length oc 1), (4, .v (.int .i64 k)), (5, .v (.int .i64 n))])
    (fun q => q ≤ O.length ∧ ∀ j, j < q → ix O j < n) (fun q => O.length - q) 0 ⟨Nat.zero_le _, fun j h => by omega⟩ ?_ ?_
  · simp only [push_cast, ↓branch_true, ↓branch_false, Nat.reduceBEq, Nat.reduceAdd, Nat.reduceMul, Nat.reduceSub, Int.reduceToNat, reduceCtorEq, branch_decide, branch_not, branch_beq, branch_bne]
    try rfl
  rintro q ⟨q1, q2⟩
  simp only [push_cast, ↓branch_true, ↓branch_false, Nat.reduceBEq, Nat.reduceAdd, Nat.reduceMul, Nat.reduceSub, Int.reduceToNat, reduceCtorEq, branch_decide, branch_not, branch_beq, branch_bne]
  refine ⟨fun a1 => ?_, fun a1 => ?_⟩
  · repeat (with_reducible refine And.intro (by omega) ?_)
    refine ⟨fun a2 => ?_, fun a2 => ?_⟩
    · repeat (with_reducible refine And.intro (by omega) ?_)
      refine lp0_normal (q + 1) ⟨by omega, fun j hj => by
        rcases Nat.lt_or_eq_of_le (Nat.le_of_lt_succ hj) with h3 | h3
        · exact q2 j h3
        · subst h3; exact a2⟩ (by omega) ?_
      simp only [push_cast, ↓branch_true, ↓branch_false, Nat.reduceBEq, Nat.reduceAdd, Nat.reduceMul, Nat.reduceSub, Int.reduceToNat, reduceCtorEq, branch_decide, branch_not, branch_beq, branch_bne]
    have hq : kP n O = q := kP_at q1 q2 fun _ => a2
    have hqlt : q < O.length := by omega
    refine ⟨fun a0 => by omega, fun a0 => ?_⟩
    refine ⟨by omega, by omega, by omega, by omega, fun a3 => ?_, fun a3 => ?_⟩
    · have hsu2 : rsm l (k + 1) = O := by rw [hsu, insU, hq, if_neg (by rintro (h | h); · omega
                                                                        · exact h a3)]
      repeat (with_reducible refine And.intro (by omega) ?_)
      refine lpK_normal (k + 1, oc) [0, 1] ⟨by simp only; omega, by simp only [hsu2]; exact g2⟩ (by simp only; omega) (by kernel_rfl) ?_ ?_
      · simp only [push_cast, ↓branch_true, ↓branch_false, Nat.reduceBEq, Nat.reduceAdd, Nat.reduceMul, Nat.reduceSub, Int.reduceToNat, reduceCtorEq, branch_decide, branch_not, branch_beq, branch_bne, hsu2]
      · simp only [push_cast, ↓branch_true, ↓branch_false, Nat.reduceBEq, Nat.reduceAdd, Nat.reduceMul, Nat.reduceSub, Int.reduceToNat, reduceCtorEq, branch_decide, branch_not, branch_beq, branch_bne, hsu2]
    · have hsu2 : rsm l (k + 1) = O.take q ++ (n :: O.drop q) := by rw [hsu, insU, hq, if_pos (.inr a3)]
      have hil := ins_len (n := n) q1
      have hii := ins_ix (n := n) q1
      generalize O.take q ++ (n :: O.drop q) = X at *
      repeat' first
        | with_reducible apply And.intro
        | with_reducible intro _
        | with_reducible refine appZ_of ?_ ?_
        | with_reducible apply Or.inr
      all_goals try omega
      all_goals try exact src_ints _ _
      all_goals rename_i cap2 hcap2
      all_goals first
        | (refine lpK_normal (k + 1, cap2) [0, 5] ⟨by simp only; omega, by simp only [hsu2]; omega⟩ (by simp only; omega) (by kernel_rfl) ?_ ?_
           · simp only [push_cast, ↓branch_true, ↓branch_false, Nat.reduceBEq, Nat.reduceAdd, Nat.reduceMul, Nat.reduceSub, Int.reduceToNat, reduceCtorEq, branch_decide, branch_not, branch_beq, branch_bne, hsu2]
             omega
           · simp only [push_cast, ↓branch_true, ↓branch_false, Nat.reduceBEq, Nat.reduceAdd, Nat.reduceMul, Nat.reduceSub, Int.reduceToNat, reduceCtorEq, branch_decide, branch_not, branch_beq, branch_bne, hsu2, hil]
             obtain rfl : q = 0 := by omega
             refine fun i hi => ⟨by omega, fun k hk => ?_⟩
             rw [ins_row1 hii k hk]
             simp only [push_cast, ↓branch_true, ↓branch_false, Nat.reduceBEq, Nat.reduceAdd, Nat.reduceMul, Nat.reduceSub, Int.reduceToNat, reduceCtorEq, branch_decide, branch_not, branch_beq, branch_bne]
           )
        | (refine lpK_normal (k + 1, cap2) [0, 6] ⟨by simp only; omega, by simp only [hsu2]; omega⟩ (by simp only; omega) (by kernel_rfl) ?_ ?_
           · simp only [push_cast, ↓branch_true, ↓branch_false, Nat.reduceBEq, Nat.reduceAdd, Nat.reduceMul, Nat.reduceSub, Int.reduceToNat, reduceCtorEq, branch_decide, branch_not, branch_beq, branch_bne, hsu2]
             omega
           · simp only [push_cast, ↓branch_true, ↓branch_false, Nat.reduceBEq, Nat.reduceAdd, Nat.reduceMul, Nat.reduceSub, Int.reduceToNat, reduceCtorEq, branch_decide, branch_not, branch_beq, branch_bne, hsu2, hil]
             refine fun i hi => ⟨by omega, fun k hk => ?_⟩
             rw [ins_row hii q1 k hk]
             simp only [push_cast, ↓branch_true, ↓branch_false, Nat.reduceBEq, Nat.reduceAdd, Nat.reduceMul, Nat.reduceSub, Int.reduceToNat, reduceCtorEq, branch_decide, branch_not, branch_beq, branch_bne]
           )
  · have hq : kP n O = q := kP_at q1 q2 fun h => absurd h (by omega)
    have hqe : q = O.length := by omega
    refine ⟨fun a0 => ?_, fun a0 => absurd (by omega) a0⟩
    have hsu2 : rsm l (k + 1) = O.take q ++ (n :: O.drop q) := by rw [hsu, insU, hq, if_pos (.inl hqe)]
    have hil := ins_len (n := n) q1
    have hii := ins_ix (n := n) q1
    generalize O.take q ++ (n :: O.drop q) = X at *
    repeat' first
      | with_reducible apply And.intro
      | with_reducible intro _
      | with_reducible refine appZ_of ?_ ?_
      | with_reducible apply Or.inr
    all_goals try omega
    all_goals try exact src_ints _ _
    all_goals rename_i cap2 hcap2 hz2
    all_goals first
      | (refine lpK_normal (k + 1, cap2) [0, 4] ⟨by simp only; omega, by simp only [hsu2]; omega⟩ (by simp only; omega) (by kernel_rfl) ?_ ?_
         · simp only [push_cast, ↓branch_true, ↓branch_false, Nat.reduceBEq, Nat.reduceAdd, Nat.reduceMul, Nat.reduceSub, Int.reduceToNat, reduceCtorEq, branch_decide, branch_not, branch_beq, branch_bne, hsu2]
           omega
         · simp only [push_cast, ↓branch_true, ↓branch_false, Nat.reduceBEq, Nat.reduceAdd, Nat.reduceMul, Nat.reduceSub, Int.reduceToNat, reduceCtorEq, branch_decide, branch_not, branch_beq, branch_bne, hsu2, hil]
           obtain rfl : q = 0 := by omega
           refine fun i hi => ⟨by omega, fun k hk => ?_⟩
           have h0 := hii k
           rw [if_neg (by omega), if_pos (by omega)] at h0
           have hd : decide (k < 0) = false := by simp
           rw [h0, hd]
           simp only [push_cast, ↓branch_true, ↓branch_false, Nat.reduceBEq, Nat.reduceAdd, Nat.reduceMul, Nat.reduceSub, Int.reduceToNat, reduceCtorEq, branch_decide, branch_not, branch_beq, branch_bne]
         )
      | (refine lpK_normal (k + 1, cap2) [0, 5] ⟨by simp only; omega, by simp only [hsu2]; omega⟩ (by simp only; omega) (by kernel_rfl) ?_ ?_
         · simp only [push_cast, ↓branch_true, ↓branch_false, Nat.reduceBEq, Nat.reduceAdd, Nat.reduceMul, Nat.reduceSub, Int.reduceToNat, reduceCtorEq, branch_decide, branch_not, branch_beq, branch_bne, hsu2]
           omega
         · simp only [push_cast, ↓branch_true, ↓branch_false, Nat.reduceBEq, Nat.reduceAdd, Nat.reduceMul, Nat.reduceSub, Int.reduceToNat, reduceCtorEq, branch_decide, branch_not, branch_beq, branch_bne, hsu2, hil]
           refine fun i hi => ⟨by omega, fun k hk => ?_⟩
           rw [ins_row2 hii hqe k hk]
           simp only [push_cast, ↓branch_true, ↓branch_false, Nat.reduceBEq, Nat.reduceAdd, Nat.reduceMul, Nat.reduceSub, Int.reduceToNat, reduceCtorEq, branch_decide, branch_not, branch_beq, branch_bne]
         )
end Go.Proofs.YtapbhppfecfobaaDoor
