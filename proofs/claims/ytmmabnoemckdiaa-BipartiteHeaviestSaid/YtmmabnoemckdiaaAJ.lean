/- Contract: the reference's Best. -/
import Derived.Test.YtmmabnoemckdiaaT
set_option maxRecDepth 100000
set_option linter.unusedSimpArgs false
set_option linter.unusedVariables false
namespace Go.Proofs.Ytmmabnoemckdiaa
open Go.RowKit Bip
def wdt (W : List (List Int)) : Nat := if W.length = 0 then 0 else (ix W 0).length
def pup (w : Nat → Int) (s j : Nat) : Int := bif decide (j < s) then w j else 0
theorem pup_succ (w : Nat → Int) (q j : Nat) : pup w (q + 1) j = bif j == q then w q else pup w q j := by
  unfold pup
  by_cases e : j = q
  · subst e; simp
  · have h1 : (j == q) = false := by simpa using e
    rw [h1, cond_false]
    congr 1
    rw [decide_eq_decide]
    omega
theorem pup_all {w : Nat → Int} {q j : Nat} (h : j < q) : pup w q j = w j := by simp [pup, h]
theorem or_ltp {m s x : Nat} (hs : s < 2 ^ m) (hx : x < m) : s ||| 2 ^ x < 2 ^ m := Nat.or_lt_two_pow hs (Nat.pow_lt_pow_right (by decide) hx)
theorem bst_bd {W : List (List Int)} (h : WOk W) (i s : Nat) : 0 ≤ bst (W.drop i) s ∧ bst (W.drop i) s ≤ 8589934592 := by
  have := bst_bnd (W.drop i) (fun r hr => h.small r (List.mem_of_mem_drop hr)) s
  have h2 := h.len
  simp only [List.length_drop] at this
  omega
theorem updR {k q i1 : Nat} {a b : Int} {f : Nat → Int} {rl : List Nat} (hi : i1 < 1) : Value.int IntKind.i64 (bif k == q then a else f k) = Value.int IntKind.i64 (bif i1 == 0 && k == q then a else bif k == q then b else f k) ∧ mtL rl [] (bif i1 == 0 && k == q then [] else []) := by
  obtain rfl : i1 = 0 := by omega
  cases k == q <;> exact ⟨rfl, trivial⟩
set_option maxHeartbeats 8000000 in
theorem rbest_step (W : List (List Int)) (c : Nat) (cp : Nat → Nat) (hok : WOk W) (i : Nat) (hiN : i ≤ W.length)
    (ih : i < W.length → Sp Try.prog 49 [.s 0 0 0 W.length c 1, .v (.int .i64 (i + 1 : Nat))] [oNe 1 W.length (ix W) cp, oNf W.length (ix W)]
      (fun r H => r = .s 2 0 0 (2 ^ wdt W) (2 ^ wdt W) 1 ∧ H = [oNe 1 W.length (ix W) cp, oNf W.length (ix W), oI (2 ^ wdt W) (2 ^ wdt W) (bst (W.drop (i + 1)))])) : Sp Try.prog 49 [.s 0 0 0 W.length c 1, .v (.int .i64 i)] [oNe 1 W.length (ix W) cp, oNf W.length (ix W)]
    (fun r H => r = .s 2 0 0 (2 ^ wdt W) (2 ^ wdt W) 1 ∧ H = [oNe 1 W.length (ix W) cp, oNf W.length (ix W), oI (2 ^ wdt W) (2 ^ wdt W) (bst (W.drop i))]) := by
  have hlen := hok.len
  refine sp_weak ?_
  refine sp_of_ex true [(17, .jn (.one 0 (.one 1 (.one 2 (.one 3 (.one 4 (.one 6 (.one 9 (.one 10 (.one 11 (.one 12 (.one 13 (.alt [(5, .one 7 (.alt [(8, .one 14 (.one 15 (.one 16 (.one 17 .fin)))), (14, .one 8 (.one 15 (.one 16 (.one 17 .fin))))])), (14, .one 5 (.one 7 (.one 8 (.one 15 (.one 16 (.one 17 .fin))))))])))))))))))))] mixed Try.call49 Try.func49 rfl Try.ntmps49 Try.results49 (by decide +kernel) rfl ?_
  simp only [push_cast, ↓branch_true, ↓branch_false, Nat.reduceBEq, Nat.reduceAdd, Nat.reduceMul, Nat.reduceSub, Int.reduceToNat, reduceCtorEq, branch_decide, branch_not, branch_beq, branch_bne, Int.reduceAdd, Int.reduceEq, Int.reduceLE, Int.reduceLT, Nat.reduceLT, Nat.reduceLeDiff, false_imp_iff, true_imp_iff]
  refine ⟨fun h0 => ?_, fun h0 => ?_⟩
  · have hw : wdt W = (ix W 0).length := if_neg (by omega)
    have hm8 : (ix W 0).length ≤ 8 := hok.rows _ (ix_mem (by omega))
    have hro : ∀ k, k < W.length → (ix W k).length = (ix W 0).length := fun k hk => hok.same _ (ix_mem hk)
    have hxs : ∀ k q, k < W.length → q < (ix W k).length → -1 ≤ ix (ix W k) q ∧ ix (ix W k) q ≤ 1073741824 := fun k q hk hq => ⟨hok.least _ (ix_mem hk) _ (ix_mem hq), hok.small _ (ix_mem hk) _ (ix_mem hq)⟩
    have hsh := two_shl (n := (ix W 0).length) (by omega)
    have hP : 2 ^ (ix W 0).length ≤ 256 := Nat.pow_le_pow_right (i := (ix W 0).length) (j := 8) (by decide) hm8
    have hP0 : 0 < 2 ^ (ix W 0).length := Nat.two_pow_pos _
    have hor : ∀ s k, s < 2 ^ (ix W 0).length → k < (ix W 0).length → s ||| 2 ^ k < 2 ^ (ix W 0).length := fun s k h1 h2 => or_ltp h1 h2
    have hbd := bst_bd hok
    rw [hw] at ih ⊢
    simp only [hsh, Int.toNat_natCast]
    generalize hm : (ix W 0).length = m at *
    generalize 2 ^ m = P at *
    repeat (with_reducible refine And.intro (by omega) ?_)
    refine ⟨fun h1 => ?_, fun h1 => ?_⟩
    · obtain rfl : i = W.length := by omega
      refine ⟨_, _, [0, 1, 2], ?_, by kernel_rfl, ?_, rfl, rfl⟩
      · simp only [push_cast, ↓branch_true, ↓branch_false, Nat.reduceBEq, Nat.reduceAdd, Nat.reduceMul, Nat.reduceSub, Int.reduceToNat, reduceCtorEq, branch_decide, branch_not, branch_beq, branch_bne, Int.reduceAdd, Int.reduceEq, Int.reduceLE, Int.reduceLT, Nat.reduceLT, Nat.reduceLeDiff, false_imp_iff, true_imp_iff]
      · simp only [push_cast, ↓branch_true, ↓branch_false, Nat.reduceBEq, Nat.reduceAdd, Nat.reduceMul, Nat.reduceSub, Int.reduceToNat, reduceCtorEq, branch_decide, branch_not, branch_beq, branch_bne, Int.reduceAdd, Int.reduceEq, Int.reduceLE, Int.reduceLT, Nat.reduceLT, Nat.reduceLeDiff, false_imp_iff, true_imp_iff]
        rw [List.drop_length]
        exact fun _ _ _ _ => rfl
    have hi : i < W.length := by omega
    have hbe := fun s => bst_drop (W := W) hi s
    have hri := hro i hi
    repeat (with_reducible refine And.intro (by omega) ?_)
    refine sp_at (ih hi) [0, 1] rfl ?_ ?_ ?_
    · simp only [push_cast, ↓branch_true, ↓branch_false, Nat.reduceBEq, Nat.reduceAdd, Nat.reduceMul, Nat.reduceSub, Int.reduceToNat, reduceCtorEq, branch_decide, branch_not, branch_beq, branch_bne, Int.reduceAdd, Int.reduceEq, Int.reduceLE, Int.reduceLT, Nat.reduceLT, Nat.reduceLeDiff, false_imp_iff, true_imp_iff]
      try trivial
    · simp only [push_cast, ↓branch_true, ↓branch_false, Nat.reduceBEq, Nat.reduceAdd, Nat.reduceMul, Nat.reduceSub, Int.reduceToNat, reduceCtorEq, branch_decide, branch_not, branch_beq, branch_bne, Int.reduceAdd, Int.reduceEq, Int.reduceLE, Int.reduceLT, Nat.reduceLT, Nat.reduceLeDiff, false_imp_iff, true_imp_iff]
      try trivial
    rintro _ _ ⟨rfl, rfl⟩
    simp only [push_cast, ↓branch_true, ↓branch_false, Nat.reduceBEq, Nat.reduceAdd, Nat.reduceMul, Nat.reduceSub, Int.reduceToNat, reduceCtorEq, branch_decide, branch_not, branch_beq, branch_bne, Int.reduceAdd, Int.reduceEq, Int.reduceLE, Int.reduceLT, Nat.reduceLT, Nat.reduceLeDiff, false_imp_iff, true_imp_iff]
    refine tr_loop mixed (by kernel_rfl) (fun (s : Nat) => [(8, .v (.int .i64 s)), (7, .s 3 0 0 P P 1), (6, .s 2 0 0 P P 1), (5, .v (.int .i64 m)), (0, .s 0 0 0 W.length c 1), (1, .v (.int .i64 i))])
      (fun s => [oNe 1 W.length (ix W) cp, oNf W.length (ix W), oI P P (pup (bst (W.drop i)) s), oI P P (bst (W.drop (i + 1)))]) (fun s => s ≤ P) (fun s => P - s) 0 (Nat.zero_le _) (Mt.wk (rl := [0, 1, 2, 3]) ⟨by kernel_rfl, ?_, ?_⟩) ?_
    · simp only [push_cast, ↓branch_true, ↓branch_false, Nat.reduceBEq, Nat.reduceAdd, Nat.reduceMul, Nat.reduceSub, Int.reduceToNat, reduceCtorEq, branch_decide, branch_not, branch_beq, branch_bne, Int.reduceAdd, Int.reduceEq, Int.reduceLE, Int.reduceLT, Nat.reduceLT, Nat.reduceLeDiff, false_imp_iff, true_imp_iff]
      try trivial
    · simp only [push_cast, ↓branch_true, ↓branch_false, Nat.reduceBEq, Nat.reduceAdd, Nat.reduceMul, Nat.reduceSub, Int.reduceToNat, reduceCtorEq, branch_decide, branch_not, branch_beq, branch_bne, Int.reduceAdd, Int.reduceEq, Int.reduceLE, Int.reduceLT, Nat.reduceLT, Nat.reduceLeDiff, false_imp_iff, true_imp_iff]
      exact fun _ _ k _ => by simp [pup]
    intro s hs
    simp only [push_cast, ↓branch_true, ↓branch_false, Nat.reduceBEq, Nat.reduceAdd, Nat.reduceMul, Nat.reduceSub, Int.reduceToNat, reduceCtorEq, branch_decide, branch_not, branch_beq, branch_bne, Int.reduceAdd, Int.reduceEq, Int.reduceLE, Int.reduceLT, Nat.reduceLT, Nat.reduceLeDiff, false_imp_iff, true_imp_iff]
    refine ⟨fun h2 => ?_, fun h2 => ?_⟩
    · have hsP : s < P := by omega
      repeat (with_reducible refine And.intro (by omega) ?_)
      refine tr_loop mixed (by kernel_rfl) (fun (k : Nat) => [(9, .v (.int .i64 k)), (8, .v (.int .i64 s)), (7, .s 3 0 0 P P 1), (6, .s 2 0 0 P P 1), (5, .v (.int .i64 m)), (0, .s 0 0 0 W.length c 1), (1, .v (.int .i64 i))])
        (fun k => [oNe 1 W.length (ix W) cp, oNf W.length (ix W), oI P P (fun j => bif j == s then rowB (bst (W.drop (i + 1))) (ix W i) s k else pup (bst (W.drop i)) s j), oI P P (bst (W.drop (i + 1)))]) (fun k => k ≤ m) (fun k => m - k) 0 (Nat.zero_le _) (Mt.wk (rl := [0, 1, 2, 3]) ⟨by kernel_rfl, ?_, ?_⟩) ?_
      · simp only [push_cast, ↓branch_true, ↓branch_false, Nat.reduceBEq, Nat.reduceAdd, Nat.reduceMul, Nat.reduceSub, Int.reduceToNat, reduceCtorEq, branch_decide, branch_not, branch_beq, branch_bne, Int.reduceAdd, Int.reduceEq, Int.reduceLE, Int.reduceLT, Nat.reduceLT, Nat.reduceLeDiff, false_imp_iff, true_imp_iff]
        try trivial
      · simp only [push_cast, ↓branch_true, ↓branch_false, Nat.reduceBEq, Nat.reduceAdd, Nat.reduceMul, Nat.reduceSub, Int.reduceToNat, reduceCtorEq, branch_decide, branch_not, branch_beq, branch_bne, Int.reduceAdd, Int.reduceEq, Int.reduceLE, Int.reduceLT, Nat.reduceLT, Nat.reduceLeDiff, false_imp_iff, true_imp_iff]
        exact fun _ hi1 _ _ => upI hi1
      intro k hk
      simp only [push_cast, ↓branch_true, ↓branch_false, Nat.reduceBEq, Nat.reduceAdd, Nat.reduceMul, Nat.reduceSub, Int.reduceToNat, reduceCtorEq, branch_decide, branch_not, branch_beq, branch_bne, Int.reduceAdd, Int.reduceEq, Int.reduceLE, Int.reduceLT, Nat.reduceLT, Nat.reduceLeDiff, false_imp_iff, true_imp_iff]
      refine ⟨fun h3 => ?_, fun h3 => ?_⟩
      · have hkm : k < m := by omega
        have hx := hxs i k hi (by omega)
        have eS : (1 : Int) * 2 ^ min k IntKind.i64.bits = ((2 ^ k : Nat) : Int) := two_shl (by omega)
        have hp8 := pow_8 (x := k) (by omega)
        have hs3 := hor s k hsP hkm
        have eA := i64_bit (s := s) (x := k) (by omega) (by omega)
        have eO := i64_or (a := s) (b := 2 ^ k) (by omega) (by omega)
        have hrow : rowB (bst (W.drop (i + 1))) (ix W i) s (k + 1) = bif decide (0 ≤ ix (ix W i) k) && !s.testBit k then max (rowB (bst (W.drop (i + 1))) (ix W i) s k) (ix (ix W i) k + bst (W.drop (i + 1)) (s ||| 2 ^ k)) else rowB (bst (W.drop (i + 1))) (ix W i) s k := rfl
        have hb1 := hbd (i + 1) (s ||| 2 ^ k)
        simp only [eS]
        generalize 2 ^ k = p at *
        simp only [eA, eO]
        generalize s ||| p = s2 at *
        generalize hxx : ix (ix W i) k = x at *
        repeat (with_reducible refine And.intro (by omega) ?_)
        refine ⟨fun h6 => ?_, fun h6 => ?_⟩
        · repeat (with_reducible refine And.intro (by omega) ?_)
          refine ⟨fun h7 => ?_, fun h7 => ?_⟩
          · rw [decide_eq_true h7, h6] at hrow
            simp only [Bool.not_false, Bool.and_self, cond_true] at hrow
            simp only [Int.toNat_natCast, beq_self_eq_true, cond_true]
            repeat (with_reducible refine And.intro (by omega) ?_)
            refine ⟨fun h8 => ?_, fun h8 => ?_⟩
            · rw [Int.max_eq_right (by omega)] at hrow
              refine ⟨[(9, .v (.int .i64 k)), (8, .v (.int .i64 s)), (7, .s 3 0 0 P P 1), (6, .s 2 0 0 P P 1), (5, .v (.int .i64 m)), (0, .s 0 0 0 W.length c 1), (1, .v (.int .i64 i))], [oNe 1 W.length (ix W) cp, oNf W.length (ix W), oI P P (fun j => bif j == s then rowB (bst (W.drop (i + 1))) (ix W i) s (k + 1) else pup (bst (W.drop i)) s j), oI P P (bst (W.drop (i + 1)))], ?_, ?_⟩
              · repeat' (first | (with_reducible apply And.intro) | omega | (with_reducible intro _))
                all_goals first
                  | omega
                  | (refine Mt.wk (rl := [0, 1, 2, 3]) ⟨by kernel_rfl, ?_, ?_⟩
                     · simp only [push_cast, ↓branch_true, ↓branch_false, Nat.reduceBEq, Nat.reduceAdd, Nat.reduceMul, Nat.reduceSub, Int.reduceToNat, reduceCtorEq, branch_decide, branch_not, branch_beq, branch_bne, Int.reduceAdd, Int.reduceEq, Int.reduceLE, Int.reduceLT, Nat.reduceLT, Nat.reduceLeDiff, false_imp_iff, true_imp_iff]
                       try trivial
                     · simp only [push_cast, ↓branch_true, ↓branch_false, Nat.reduceBEq, Nat.reduceAdd, Nat.reduceMul, Nat.reduceSub, Int.reduceToNat, reduceCtorEq, branch_decide, branch_not, branch_beq, branch_bne, Int.reduceAdd, Int.reduceEq, Int.reduceLE, Int.reduceLT, Nat.reduceLT, Nat.reduceLeDiff, false_imp_iff, true_imp_iff, hrow]
                       exact fun _ hi1 _ _ => updR hi1
                     )
              simp only [push_cast, ↓branch_true, ↓branch_false, Nat.reduceBEq, Nat.reduceAdd, Nat.reduceMul, Nat.reduceSub, Int.reduceToNat, reduceCtorEq, branch_decide, branch_not, branch_beq, branch_bne, Int.reduceAdd, Int.reduceEq, Int.reduceLE, Int.reduceLT, Nat.reduceLT, Nat.reduceLeDiff, false_imp_iff, true_imp_iff, jnK]
              repeat (with_reducible refine And.intro (by omega) ?_)
              refine lpK_normal (k + 1) [0, 1, 2, 3] (by omega) (by omega) (by kernel_rfl) ?_ ?_
              · simp only [push_cast, ↓branch_true, ↓branch_false, Nat.reduceBEq, Nat.reduceAdd, Nat.reduceMul, Nat.reduceSub, Int.reduceToNat, reduceCtorEq, branch_decide, branch_not, branch_beq, branch_bne, Int.reduceAdd, Int.reduceEq, Int.reduceLE, Int.reduceLT, Nat.reduceLT, Nat.reduceLeDiff, false_imp_iff, true_imp_iff]
              · simp only [push_cast, ↓branch_true, ↓branch_false, Nat.reduceBEq, Nat.reduceAdd, Nat.reduceMul, Nat.reduceSub, Int.reduceToNat, reduceCtorEq, branch_decide, branch_not, branch_beq, branch_bne, Int.reduceAdd, Int.reduceEq, Int.reduceLE, Int.reduceLT, Nat.reduceLT, Nat.reduceLeDiff, false_imp_iff, true_imp_iff]
            · rw [Int.max_eq_left (by omega)] at hrow
              repeat (with_reducible refine And.intro (by omega) ?_)
              refine lpK_normal (k + 1) [0, 1, 2, 3] (by omega) (by omega) (by kernel_rfl) ?_ ?_
              · simp only [push_cast, ↓branch_true, ↓branch_false, Nat.reduceBEq, Nat.reduceAdd, Nat.reduceMul, Nat.reduceSub, Int.reduceToNat, reduceCtorEq, branch_decide, branch_not, branch_beq, branch_bne, Int.reduceAdd, Int.reduceEq, Int.reduceLE, Int.reduceLT, Nat.reduceLT, Nat.reduceLeDiff, false_imp_iff, true_imp_iff]
              · simp only [push_cast, ↓branch_true, ↓branch_false, Nat.reduceBEq, Nat.reduceAdd, Nat.reduceMul, Nat.reduceSub, Int.reduceToNat, reduceCtorEq, branch_decide, branch_not, branch_beq, branch_bne, Int.reduceAdd, Int.reduceEq, Int.reduceLE, Int.reduceLT, Nat.reduceLT, Nat.reduceLeDiff, false_imp_iff, true_imp_iff, hrow]
          · rw [decide_eq_false h7] at hrow
            simp only [Bool.false_and, cond_false] at hrow
            repeat (with_reducible refine And.intro (by omega) ?_)
            refine lpK_normal (k + 1) [0, 1, 2, 3] (by omega) (by omega) (by kernel_rfl) ?_ ?_
            · simp only [push_cast, ↓branch_true, ↓branch_false, Nat.reduceBEq, Nat.reduceAdd, Nat.reduceMul, Nat.reduceSub, Int.reduceToNat, reduceCtorEq, branch_decide, branch_not, branch_beq, branch_bne, Int.reduceAdd, Int.reduceEq, Int.reduceLE, Int.reduceLT, Nat.reduceLT, Nat.reduceLeDiff, false_imp_iff, true_imp_iff]
            · simp only [push_cast, ↓branch_true, ↓branch_false, Nat.reduceBEq, Nat.reduceAdd, Nat.reduceMul, Nat.reduceSub, Int.reduceToNat, reduceCtorEq, branch_decide, branch_not, branch_beq, branch_bne, Int.reduceAdd, Int.reduceEq, Int.reduceLE, Int.reduceLT, Nat.reduceLT, Nat.reduceLeDiff, false_imp_iff, true_imp_iff, hrow]
        · have hb : s.testBit k = true := by simpa using h6
          rw [hb] at hrow
          simp only [Bool.not_true, Bool.and_false, cond_false] at hrow
          repeat (with_reducible refine And.intro (by omega) ?_)
          refine lpK_normal (k + 1) [0, 1, 2, 3] (by omega) (by omega) (by kernel_rfl) ?_ ?_
          · simp only [push_cast, ↓branch_true, ↓branch_false, Nat.reduceBEq, Nat.reduceAdd, Nat.reduceMul, Nat.reduceSub, Int.reduceToNat, reduceCtorEq, branch_decide, branch_not, branch_beq, branch_bne, Int.reduceAdd, Int.reduceEq, Int.reduceLE, Int.reduceLT, Nat.reduceLT, Nat.reduceLeDiff, false_imp_iff, true_imp_iff]
          · simp only [push_cast, ↓branch_true, ↓branch_false, Nat.reduceBEq, Nat.reduceAdd, Nat.reduceMul, Nat.reduceSub, Int.reduceToNat, reduceCtorEq, branch_decide, branch_not, branch_beq, branch_bne, Int.reduceAdd, Int.reduceEq, Int.reduceLE, Int.reduceLT, Nat.reduceLT, Nat.reduceLeDiff, false_imp_iff, true_imp_iff, hrow]
      · obtain rfl : k = m := by omega
        have hps : ∀ j, pup (bst (W.drop i)) (s + 1) j = bif j == s then rowB (bst (W.drop (i + 1))) (ix W i) s k else pup (bst (W.drop i)) s j := fun j => by
          rw [pup_succ, hbe, hri]
        repeat (with_reducible refine And.intro (by omega) ?_)
        refine lpK_normal (s + 1) [0, 1, 2, 3] (by omega) (by omega) (by kernel_rfl) ?_ ?_
        · simp only [push_cast, ↓branch_true, ↓branch_false, Nat.reduceBEq, Nat.reduceAdd, Nat.reduceMul, Nat.reduceSub, Int.reduceToNat, reduceCtorEq, branch_decide, branch_not, branch_beq, branch_bne, Int.reduceAdd, Int.reduceEq, Int.reduceLE, Int.reduceLT, Nat.reduceLT, Nat.reduceLeDiff, false_imp_iff, true_imp_iff]
        · simp only [push_cast, ↓branch_true, ↓branch_false, Nat.reduceBEq, Nat.reduceAdd, Nat.reduceMul, Nat.reduceSub, Int.reduceToNat, reduceCtorEq, branch_decide, branch_not, branch_beq, branch_bne, Int.reduceAdd, Int.reduceEq, Int.reduceLE, Int.reduceLT, Nat.reduceLT, Nat.reduceLeDiff, false_imp_iff, true_imp_iff, hps]
    · obtain rfl : s = P := by omega
      refine ⟨_, _, [0, 1, 2], ?_, by kernel_rfl, ?_, rfl, rfl⟩
      · simp only [push_cast, ↓branch_true, ↓branch_false, Nat.reduceBEq, Nat.reduceAdd, Nat.reduceMul, Nat.reduceSub, Int.reduceToNat, reduceCtorEq, branch_decide, branch_not, branch_beq, branch_bne, Int.reduceAdd, Int.reduceEq, Int.reduceLE, Int.reduceLT, Nat.reduceLT, Nat.reduceLeDiff, false_imp_iff, true_imp_iff]
      · simp only [push_cast, ↓branch_true, ↓branch_false, Nat.reduceBEq, Nat.reduceAdd, Nat.reduceMul, Nat.reduceSub, Int.reduceToNat, reduceCtorEq, branch_decide, branch_not, branch_beq, branch_bne, Int.reduceAdd, Int.reduceEq, Int.reduceLE, Int.reduceLT, Nat.reduceLT, Nat.reduceLeDiff, false_imp_iff, true_imp_iff]
        exact fun _ _ k hk => by rw [pup_all hk]
  · have hw : wdt W = 0 := if_pos (by omega)
    obtain rfl : i = 0 := by omega
    have e1 : (1 : Int) * 2 ^ min 0 IntKind.i64.bits = 1 := by decide
    rw [hw]
    simp only [e1]
    repeat (with_reducible refine And.intro (by omega) ?_)
    refine ⟨fun h1 => ?_, fun h1 => absurd (by omega) h1⟩
    refine ⟨_, _, [0, 1, 2], ?_, by kernel_rfl, ?_, rfl, rfl⟩
    · simp only [push_cast, ↓branch_true, ↓branch_false, Nat.reduceBEq, Nat.reduceAdd, Nat.reduceMul, Nat.reduceSub, Int.reduceToNat, reduceCtorEq, branch_decide, branch_not, branch_beq, branch_bne, Int.reduceAdd, Int.reduceEq, Int.reduceLE, Int.reduceLT, Nat.reduceLT, Nat.reduceLeDiff, false_imp_iff, true_imp_iff]
    · simp only [push_cast, ↓branch_true, ↓branch_false, Nat.reduceBEq, Nat.reduceAdd, Nat.reduceMul, Nat.reduceSub, Int.reduceToNat, reduceCtorEq, branch_decide, branch_not, branch_beq, branch_bne, Int.reduceAdd, Int.reduceEq, Int.reduceLE, Int.reduceLT, Nat.reduceLT, Nat.reduceLeDiff, false_imp_iff, true_imp_iff]
      rw [show W = [] from List.length_eq_zero_iff.1 (by omega)]
      exact fun _ _ _ _ => rfl
theorem rbest_sp (W : List (List Int)) (c : Nat) (cp : Nat → Nat) (hok : WOk W) : ∀ (d i : Nat), i + d = W.length → Sp Try.prog 49 [.s 0 0 0 W.length c 1, .v (.int .i64 i)] [oNe 1 W.length (ix W) cp, oNf W.length (ix W)]
    (fun r H => r = .s 2 0 0 (2 ^ wdt W) (2 ^ wdt W) 1 ∧ H = [oNe 1 W.length (ix W) cp, oNf W.length (ix W), oI (2 ^ wdt W) (2 ^ wdt W) (bst (W.drop i))])
  | 0, i, h => rbest_step W c cp hok i (by omega) fun h1 => absurd h1 (by omega)
  | d + 1, i, h => rbest_step W c cp hok i (by omega) fun _ => rbest_sp W c cp hok d (i + 1) (by omega)
end Go.Proofs.Ytmmabnoemckdiaa
