/- Contract: the reference's Heaviest. -/
import Derived.Test.YtmmabnoemckdiaaAI
import Derived.Test.YtmmabnoemckdiaaAJ
set_option maxRecDepth 100000
set_option linter.unusedSimpArgs false
set_option linter.unusedVariables false
namespace Go.Proofs.Ytmmabnoemckdiaa
open Go.RowKit Bip
theorem rowB_at {next : Nat → Int} {r : List Int} {s : Nat} : ∀ n, rowB next r s n = next s ∨ ∃ k, k < n ∧ 0 ≤ ix r k ∧ s.testBit k = false ∧ rowB next r s n = ix r k + next (s ||| 2 ^ k)
  | 0 => .inl rfl
  | n + 1 => by
    have ih := rowB_at (next := next) (r := r) (s := s) n
    unfold rowB
    cases hc : decide (0 ≤ ix r n) && !s.testBit n with
    | false =>
      rw [cond_false]
      exact ih.imp id fun ⟨k, h1, h2⟩ => ⟨k, by omega, h2⟩
    | true =>
      rw [cond_true]
      simp only [Bool.and_eq_true, decide_eq_true_eq, Bool.not_eq_true'] at hc
      rcases Int.le_total (rowB next r s n) (ix r n + next (s ||| 2 ^ n)) with h | h
      · rw [Int.max_eq_right h]
        exact .inr ⟨n, by omega, hc.1, hc.2, rfl⟩
      · rw [Int.max_eq_left h]
        exact ih.imp id fun ⟨k, h1, h2⟩ => ⟨k, by omega, h2⟩
theorem bst_none {W : List (List Int)} {i s : Nat} (hi : i < W.length) (h : ∀ q, q < (ix W i).length → okW (W.drop (i + 1)) (ix W i) (bst (W.drop i) s) s q = false) : bst (W.drop i) s = bst (W.drop (i + 1)) s := by
  rw [bst_drop hi]
  rcases rowB_at (next := bst (W.drop (i + 1))) (r := ix W i) (s := s) (ix W i).length with h1 | ⟨k, h1, h2, h3, h4⟩
  · exact h1
  · have := h k h1
    unfold okW at this
    rw [bst_drop hi, decide_eq_true h2, h3, decide_eq_true h4] at this
    cases this
theorem bst_some {W : List (List Int)} {i s k : Nat} (h : okW (W.drop (i + 1)) (ix W i) (bst (W.drop i) s) s k = true) : bst (W.drop i) s - ix (ix W i) k = bst (W.drop (i + 1)) (s ||| 2 ^ k) := by
  unfold okW at h
  simp only [Bool.and_eq_true, decide_eq_true_eq] at h
  omega
/-- What is known of the partner when so many columns have been looked at. -/
def Par (ok : Nat → Bool) (n k : Nat) (p : Int) : Prop := k ≤ n ∧ ((p = -1 ∧ ∀ q, q < k → ok q = false) ∨ ∃ a : Nat, p = a ∧ a < n ∧ (∀ q, q < a → ok q = false) ∧ ok a = true)
set_option maxHeartbeats 8000000 in
theorem rheavy_sp (W : List (List Int)) (c : Nat) (cp : Nat → Nat) (hl : W.length ≤ 1000) (hr : ∀ i, (ix W i).length ≤ 1000) : Sp Try.prog 14 [.s 0 0 0 W.length c 1] [oNe 1 W.length (ix W) cp, oNf W.length (ix W)]
    (fun r H => ∃ oc, (wOut W).length ≤ oc ∧ r = .t [.v (.int .i64 (wSum W)), .s 2 0 0 (wOut W).length oc 1, .v (.int .i64 (wErr W))] ∧ H = [oNe 1 W.length (ix W) cp, oNf W.length (ix W), rIO (wOut W) oc]) := by
  refine sp_weak ?_
  refine sp_of_ex true [] mixed Try.call14 Try.func14 rfl Try.ntmps14 Try.results14 (by decide +kernel) rfl ?_
  simp only [push_cast, ↓branch_true, ↓branch_false, Nat.reduceBEq, Nat.reduceAdd, Nat.reduceMul, Nat.reduceSub, Int.reduceToNat, reduceCtorEq, branch_decide, branch_not, branch_beq, branch_bne, Int.reduceAdd, Int.reduceEq, Int.reduceLE, Int.reduceLT, Nat.reduceLT, Nat.reduceLeDiff, false_imp_iff, true_imp_iff]
  refine sp_call (weights_pu W c cp hl hr) rfl [0, 1] rfl ?_ ?_ ?_
  · simp only [push_cast, ↓branch_true, ↓branch_false, Nat.reduceBEq, Nat.reduceAdd, Nat.reduceMul, Nat.reduceSub, Int.reduceToNat, reduceCtorEq, branch_decide, branch_not, branch_beq, branch_bne, Int.reduceAdd, Int.reduceEq, Int.reduceLE, Int.reduceLT, Nat.reduceLT, Nat.reduceLeDiff, false_imp_iff, true_imp_iff]
    try trivial
  · simp only [push_cast, ↓branch_true, ↓branch_false, Nat.reduceBEq, Nat.reduceAdd, Nat.reduceMul, Nat.reduceSub, Int.reduceToNat, reduceCtorEq, branch_decide, branch_not, branch_beq, branch_bne, Int.reduceAdd, Int.reduceEq, Int.reduceLE, Int.reduceLT, Nat.reduceLT, Nat.reduceLeDiff, false_imp_iff, true_imp_iff]
    try trivial
  simp only [push_cast, ↓branch_true, ↓branch_false, Nat.reduceBEq, Nat.reduceAdd, Nat.reduceMul, Nat.reduceSub, Int.reduceToNat, reduceCtorEq, branch_decide, branch_not, branch_beq, branch_bne, Int.reduceAdd, Int.reduceEq, Int.reduceLE, Int.reduceLT, Nat.reduceLT, Nat.reduceLeDiff, false_imp_iff, true_imp_iff]
  refine ⟨fun h0 => ?_, fun h0 => ?_⟩
  rotate_left
  · have e1 : wOut W = [] := if_neg h0
    have e2 : wSum W = 0 := if_neg h0
    rw [e1, e2]
    refine ⟨_, _, [0, 1, 1000], ?_, by kernel_rfl, ?_, 0, Nat.le_refl _, rfl, rfl⟩
    · simp only [push_cast, ↓branch_true, ↓branch_false, Nat.reduceBEq, Nat.reduceAdd, Nat.reduceMul, Nat.reduceSub, Int.reduceToNat, reduceCtorEq, branch_decide, branch_not, branch_beq, branch_bne, Int.reduceAdd, Int.reduceEq, Int.reduceLE, Int.reduceLT, Nat.reduceLT, Nat.reduceLeDiff, false_imp_iff, true_imp_iff]
    · simp only [push_cast, ↓branch_true, ↓branch_false, Nat.reduceBEq, Nat.reduceAdd, Nat.reduceMul, Nat.reduceSub, Int.reduceToNat, reduceCtorEq, branch_decide, branch_not, branch_beq, branch_bne, Int.reduceAdd, Int.reduceEq, Int.reduceLE, Int.reduceLT, Nat.reduceLT, Nat.reduceLeDiff, false_imp_iff, true_imp_iff]
      try omega
  have hok := wok_of h0
  have e1 : wOut W = hpick W 0 := if_pos h0
  have e2 : wSum W = bst W 0 := if_pos h0
  rw [e1, e2, h0]
  have hlen := hok.len
  have hro : ∀ k, k < W.length → (ix W k).length = wdt W := fun k hk => by
    unfold wdt
    rw [if_neg (by omega)]
    exact hok.same _ (ix_mem hk)
  have hm8 : wdt W ≤ 8 := by
    unfold wdt
    split
    · omega
    · exact hok.rows _ (ix_mem (by omega))
  have hxs : ∀ k q, k < W.length → q < (ix W k).length → -1 ≤ ix (ix W k) q ∧ ix (ix W k) q ≤ 1073741824 := fun k q hk hq => ⟨hok.least _ (ix_mem hk) _ (ix_mem hq), hok.small _ (ix_mem hk) _ (ix_mem hq)⟩
  have hbd := bst_bd hok
  have hP : 2 ^ wdt W ≤ 256 := Nat.pow_le_pow_right (i := wdt W) (j := 8) (by decide) hm8
  have hP0 : 0 < 2 ^ wdt W := Nat.two_pow_pos _
  have hor : ∀ s k, s < 2 ^ wdt W → k < wdt W → s ||| 2 ^ k < 2 ^ wdt W := fun s k h1 h2 => or_ltp h1 h2
  have hrb := fun d i h => rbest_sp W c cp hok d i h
  generalize wdt W = m at *
  generalize 2 ^ m = P at *
  refine sp_at (hrb W.length 0 (by omega)) [0, 1] rfl ?_ ?_ ?_
  · simp only [push_cast, ↓branch_true, ↓branch_false, Nat.reduceBEq, Nat.reduceAdd, Nat.reduceMul, Nat.reduceSub, Int.reduceToNat, reduceCtorEq, branch_decide, branch_not, branch_beq, branch_bne, Int.reduceAdd, Int.reduceEq, Int.reduceLE, Int.reduceLT, Nat.reduceLT, Nat.reduceLeDiff, false_imp_iff, true_imp_iff]
    try trivial
  · simp only [push_cast, ↓branch_true, ↓branch_false, Nat.reduceBEq, Nat.reduceAdd, Nat.reduceMul, Nat.reduceSub, Int.reduceToNat, reduceCtorEq, branch_decide, branch_not, branch_beq, branch_bne, Int.reduceAdd, Int.reduceEq, Int.reduceLE, Int.reduceLT, Nat.reduceLT, Nat.reduceLeDiff, false_imp_iff, true_imp_iff]
    try trivial
  rintro _ _ ⟨rfl, rfl⟩
  simp only [push_cast, ↓branch_true, ↓branch_false, Nat.reduceBEq, Nat.reduceAdd, Nat.reduceMul, Nat.reduceSub, Int.reduceToNat, reduceCtorEq, branch_decide, branch_not, branch_beq, branch_bne, Int.reduceAdd, Int.reduceEq, Int.reduceLE, Int.reduceLT, Nat.reduceLT, Nat.reduceLeDiff, false_imp_iff, true_imp_iff]
  repeat (with_reducible refine And.intro (by omega) ?_)
  refine tr_loop mixed (by kernel_rfl) (fun (x : Nat × Nat × List Int × Nat) => [(10, .v (.int .i64 x.1)), (9, .s 2 0 0 x.2.2.1.length x.2.2.2 1), (8, .v (.int .i64 x.2.1)), (7, .v (.int .i64 (bst (W.drop x.1) x.2.1))), (6, .v (.int .i64 (bst W 0))), (0, .s 0 0 0 W.length c 1)])
    (fun x => [oNe 1 W.length (ix W) cp, oNf W.length (ix W), rIO x.2.2.1 x.2.2.2])
    (fun x => x.1 ≤ W.length ∧ x.2.2.1.length = x.1 ∧ x.2.2.1.length ≤ x.2.2.2 ∧ x.2.1 < P ∧ x.2.2.1 ++ hpick (W.drop x.1) x.2.1 = hpick W 0) (fun x => W.length - x.1) (0, 0, [], 0)
    ⟨Nat.zero_le _, rfl, Nat.le_refl _, hP0, rfl⟩ (Mt.wk (rl := [0, 1, 1000]) ⟨by kernel_rfl, ?_, ?_⟩) ?_
  · simp only [push_cast, ↓branch_true, ↓branch_false, Nat.reduceBEq, Nat.reduceAdd, Nat.reduceMul, Nat.reduceSub, Int.reduceToNat, reduceCtorEq, branch_decide, branch_not, branch_beq, branch_bne, Int.reduceAdd, Int.reduceEq, Int.reduceLE, Int.reduceLT, Nat.reduceLT, Nat.reduceLeDiff, false_imp_iff, true_imp_iff]
    try trivial
  · simp only [push_cast, ↓branch_true, ↓branch_false, Nat.reduceBEq, Nat.reduceAdd, Nat.reduceMul, Nat.reduceSub, Int.reduceToNat, reduceCtorEq, branch_decide, branch_not, branch_beq, branch_bne, Int.reduceAdd, Int.reduceEq, Int.reduceLE, Int.reduceLT, Nat.reduceLT, Nat.reduceLeDiff, false_imp_iff, true_imp_iff]
    try omega
  rintro ⟨i, s, out, oc⟩ ⟨g1, g2, g3, g4, g5⟩
  simp only at g1 g2 g3 g4 g5
  simp only [push_cast, ↓branch_true, ↓branch_false, Nat.reduceBEq, Nat.reduceAdd, Nat.reduceMul, Nat.reduceSub, Int.reduceToNat, reduceCtorEq, branch_decide, branch_not, branch_beq, branch_bne, Int.reduceAdd, Int.reduceEq, Int.reduceLE, Int.reduceLT, Nat.reduceLT, Nat.reduceLeDiff, false_imp_iff, true_imp_iff]
  refine ⟨fun h4 => ?_, fun h4 => ?_⟩
  · have hi : i < W.length := by omega
    have hri := hro i hi
    repeat (with_reducible refine And.intro (by omega) ?_)
    refine sp_at (hrb (W.length - (i + 1)) (i + 1) (by omega)) [0, 1] rfl ?_ ?_ ?_
    · simp only [push_cast, ↓branch_true, ↓branch_false, Nat.reduceBEq, Nat.reduceAdd, Nat.reduceMul, Nat.reduceSub, Int.reduceToNat, reduceCtorEq, branch_decide, branch_not, branch_beq, branch_bne, Int.reduceAdd, Int.reduceEq, Int.reduceLE, Int.reduceLT, Nat.reduceLT, Nat.reduceLeDiff, false_imp_iff, true_imp_iff]
      try trivial
    · simp only [push_cast, ↓branch_true, ↓branch_false, Nat.reduceBEq, Nat.reduceAdd, Nat.reduceMul, Nat.reduceSub, Int.reduceToNat, reduceCtorEq, branch_decide, branch_not, branch_beq, branch_bne, Int.reduceAdd, Int.reduceEq, Int.reduceLE, Int.reduceLT, Nat.reduceLT, Nat.reduceLeDiff, false_imp_iff, true_imp_iff]
      try trivial
    rintro _ _ ⟨rfl, rfl⟩
    simp only [push_cast, ↓branch_true, ↓branch_false, Nat.reduceBEq, Nat.reduceAdd, Nat.reduceMul, Nat.reduceSub, Int.reduceToNat, reduceCtorEq, branch_decide, branch_not, branch_beq, branch_bne, Int.reduceAdd, Int.reduceEq, Int.reduceLE, Int.reduceLT, Nat.reduceLT, Nat.reduceLeDiff, false_imp_iff, true_imp_iff]
    refine tr_loop mixed (by kernel_rfl) (fun (x : Nat × Int) => [(13, .v (.int .i64 x.1)), (12, .v (.int .i64 x.2)), (11, .s 3 0 0 P P 1), (10, .v (.int .i64 i)), (9, .s 2 0 0 out.length oc 1), (8, .v (.int .i64 s)), (7, .v (.int .i64 (bst (W.drop i) s))), (6, .v (.int .i64 (bst W 0))), (0, .s 0 0 0 W.length c 1)])
      (fun _ => [oNe 1 W.length (ix W) cp, oNf W.length (ix W), rIO out oc, oI P P (bst (W.drop (i + 1)))])
      (fun x => Par (okW (W.drop (i + 1)) (ix W i) (bst (W.drop i) s) s) m x.1 x.2) (fun x => m - x.1) (0, -1) ⟨Nat.zero_le _, .inl ⟨rfl, fun q hq => by omega⟩⟩ (Mt.wk (rl := [0, 1, 2, 3]) ⟨by kernel_rfl, ?_, ?_⟩) ?_
    · simp only [push_cast, ↓branch_true, ↓branch_false, Nat.reduceBEq, Nat.reduceAdd, Nat.reduceMul, Nat.reduceSub, Int.reduceToNat, reduceCtorEq, branch_decide, branch_not, branch_beq, branch_bne, Int.reduceAdd, Int.reduceEq, Int.reduceLE, Int.reduceLT, Nat.reduceLT, Nat.reduceLeDiff, false_imp_iff, true_imp_iff]
      try trivial
    · simp only [push_cast, ↓branch_true, ↓branch_false, Nat.reduceBEq, Nat.reduceAdd, Nat.reduceMul, Nat.reduceSub, Int.reduceToNat, reduceCtorEq, branch_decide, branch_not, branch_beq, branch_bne, Int.reduceAdd, Int.reduceEq, Int.reduceLE, Int.reduceLT, Nat.reduceLT, Nat.reduceLeDiff, false_imp_iff, true_imp_iff]
      try trivial
    rintro ⟨k, p⟩ ⟨k1, k2⟩
    simp only at k1 k2
    simp only [push_cast, ↓branch_true, ↓branch_false, Nat.reduceBEq, Nat.reduceAdd, Nat.reduceMul, Nat.reduceSub, Int.reduceToNat, reduceCtorEq, branch_decide, branch_not, branch_beq, branch_bne, Int.reduceAdd, Int.reduceEq, Int.reduceLE, Int.reduceLT, Nat.reduceLT, Nat.reduceLeDiff, false_imp_iff, true_imp_iff]
    rw [hri]
    have hafter : ∀ {X : Prop}, (p = -1 → k = m → (∀ q, q < m → okW (W.drop (i + 1)) (ix W i) (bst (W.drop i) s) s q = false) → X) → (∀ a : Nat, p = a → a < m → (∀ q, q < a → okW (W.drop (i + 1)) (ix W i) (bst (W.drop i) s) s q = false) → okW (W.drop (i + 1)) (ix W i) (bst (W.drop i) s) s a = true → X) → (0 ≤ p ∨ k = m) → X := fun h1 h2 h3 => by
      rcases k2 with ⟨h4, h5⟩ | ⟨a, h4, h5, h6, h7⟩
      · have hk : k = m := by omega
        exact h1 h4 hk (by rw [← hk]; exact h5)
      · exact h2 a h4 h5 h6 h7
    repeat (with_reducible refine And.intro (by omega) ?_)
    refine ⟨fun h5 => ⟨fun h6 => ?_, fun h6 => ?_⟩, fun h5 => ?_⟩
    · have hkm : k < m := by omega
      have hpn : p = -1 ∧ ∀ q, q < k → okW (W.drop (i + 1)) (ix W i) (bst (W.drop i) s) s q = false := by
        rcases k2 with h | ⟨a, h, _⟩
        · exact h
        · omega
      obtain ⟨rfl, hn⟩ := hpn
      have hx := hxs i k hi (by omega)
      have eS : (1 : Int) * 2 ^ min k IntKind.i64.bits = ((2 ^ k : Nat) : Int) := two_shl (by omega)
      have hp8 := pow_8 (x := k) (by omega)
      have hs3 := hor s k g4 hkm
      have eA := i64_bit (s := s) (x := k) (by omega) (by omega)
      have eO := i64_or (a := s) (b := 2 ^ k) (by omega) (by omega)
      have hokj : okW (W.drop (i + 1)) (ix W i) (bst (W.drop i) s) s k = (decide (0 ≤ ix (ix W i) k) && (!s.testBit k && decide (bst (W.drop i) s = ix (ix W i) k + bst (W.drop (i + 1)) (s ||| 2 ^ k)))) := rfl
      have hb1 := hbd (i + 1) (s ||| 2 ^ k)
      have knext : okW (W.drop (i + 1)) (ix W i) (bst (W.drop i) s) s k = false → Par (okW (W.drop (i + 1)) (ix W i) (bst (W.drop i) s) s) m (k + 1) (-1) := fun h => ⟨by omega, .inl ⟨rfl, fun q hq => by
        by_cases e : q = k
        · subst e; exact h
        · exact hn q (by omega)⟩⟩
      have kyes : okW (W.drop (i + 1)) (ix W i) (bst (W.drop i) s) s k = true → Par (okW (W.drop (i + 1)) (ix W i) (bst (W.drop i) s) s) m (k + 1) k := fun h => ⟨by omega, .inr ⟨k, rfl, hkm, hn, h⟩⟩
      simp only [eS]
      generalize 2 ^ k = p at *
      simp only [eA, eO]
      generalize s ||| p = s2 at *
      generalize hxx : ix (ix W i) k = x at *
      repeat (with_reducible refine And.intro (by omega) ?_)
      refine ⟨fun h6 => ?_, fun h6 => ?_⟩
      · repeat (with_reducible refine And.intro (by omega) ?_)
        refine ⟨fun h7 => ?_, fun h7 => ?_⟩
        · rw [decide_eq_true h7, h6, Bool.not_false, Bool.true_and, Bool.true_and] at hokj
          simp only [Int.toNat_natCast]
          repeat (with_reducible refine And.intro (by omega) ?_)
          refine ⟨fun h8 => ?_, fun h8 => ?_⟩
          · rw [decide_eq_true h8.symm] at hokj
            repeat (with_reducible refine And.intro (by omega) ?_)
            refine lpK_normal (k + 1, (k : Int)) [0, 1, 2, 3] (kyes hokj) (by simp only; omega) (by kernel_rfl) ?_ ?_
            · simp only [push_cast, ↓branch_true, ↓branch_false, Nat.reduceBEq, Nat.reduceAdd, Nat.reduceMul, Nat.reduceSub, Int.reduceToNat, reduceCtorEq, branch_decide, branch_not, branch_beq, branch_bne, Int.reduceAdd, Int.reduceEq, Int.reduceLE, Int.reduceLT, Nat.reduceLT, Nat.reduceLeDiff, false_imp_iff, true_imp_iff]
            · simp only [push_cast, ↓branch_true, ↓branch_false, Nat.reduceBEq, Nat.reduceAdd, Nat.reduceMul, Nat.reduceSub, Int.reduceToNat, reduceCtorEq, branch_decide, branch_not, branch_beq, branch_bne, Int.reduceAdd, Int.reduceEq, Int.reduceLE, Int.reduceLT, Nat.reduceLT, Nat.reduceLeDiff, false_imp_iff, true_imp_iff]
          · rw [decide_eq_false fun h => h8 h.symm] at hokj
            repeat (with_reducible refine And.intro (by omega) ?_)
            refine lpK_normal (k + 1, -1) [0, 1, 2, 3] (knext hokj) (by simp only; omega) (by kernel_rfl) ?_ ?_
            · simp only [push_cast, ↓branch_true, ↓branch_false, Nat.reduceBEq, Nat.reduceAdd, Nat.reduceMul, Nat.reduceSub, Int.reduceToNat, reduceCtorEq, branch_decide, branch_not, branch_beq, branch_bne, Int.reduceAdd, Int.reduceEq, Int.reduceLE, Int.reduceLT, Nat.reduceLT, Nat.reduceLeDiff, false_imp_iff, true_imp_iff]
            · simp only [push_cast, ↓branch_true, ↓branch_false, Nat.reduceBEq, Nat.reduceAdd, Nat.reduceMul, Nat.reduceSub, Int.reduceToNat, reduceCtorEq, branch_decide, branch_not, branch_beq, branch_bne, Int.reduceAdd, Int.reduceEq, Int.reduceLE, Int.reduceLT, Nat.reduceLT, Nat.reduceLeDiff, false_imp_iff, true_imp_iff]
        · rw [decide_eq_false h7, Bool.false_and] at hokj
          repeat (with_reducible refine And.intro (by omega) ?_)
          refine lpK_normal (k + 1, -1) [0, 1, 2, 3] (knext hokj) (by simp only; omega) (by kernel_rfl) ?_ ?_
          · simp only [push_cast, ↓branch_true, ↓branch_false, Nat.reduceBEq, Nat.reduceAdd, Nat.reduceMul, Nat.reduceSub, Int.reduceToNat, reduceCtorEq, branch_decide, branch_not, branch_beq, branch_bne, Int.reduceAdd, Int.reduceEq, Int.reduceLE, Int.reduceLT, Nat.reduceLT, Nat.reduceLeDiff, false_imp_iff, true_imp_iff]
          · simp only [push_cast, ↓branch_true, ↓branch_false, Nat.reduceBEq, Nat.reduceAdd, Nat.reduceMul, Nat.reduceSub, Int.reduceToNat, reduceCtorEq, branch_decide, branch_not, branch_beq, branch_bne, Int.reduceAdd, Int.reduceEq, Int.reduceLE, Int.reduceLT, Nat.reduceLT, Nat.reduceLeDiff, false_imp_iff, true_imp_iff]
      · have hb : s.testBit k = true := by simpa using h6
        rw [hb, Bool.not_true, Bool.false_and, Bool.and_false] at hokj
        repeat (with_reducible refine And.intro (by omega) ?_)
        refine lpK_normal (k + 1, -1) [0, 1, 2, 3] (knext hokj) (by simp only; omega) (by kernel_rfl) ?_ ?_
        · simp only [push_cast, ↓branch_true, ↓branch_false, Nat.reduceBEq, Nat.reduceAdd, Nat.reduceMul, Nat.reduceSub, Int.reduceToNat, reduceCtorEq, branch_decide, branch_not, branch_beq, branch_bne, Int.reduceAdd, Int.reduceEq, Int.reduceLE, Int.reduceLT, Nat.reduceLT, Nat.reduceLeDiff, false_imp_iff, true_imp_iff]
        · simp only [push_cast, ↓branch_true, ↓branch_false, Nat.reduceBEq, Nat.reduceAdd, Nat.reduceMul, Nat.reduceSub, Int.reduceToNat, reduceCtorEq, branch_decide, branch_not, branch_beq, branch_bne, Int.reduceAdd, Int.reduceEq, Int.reduceLE, Int.reduceLT, Nat.reduceLT, Nat.reduceLeDiff, false_imp_iff, true_imp_iff]
    all_goals
      refine hafter (fun h7 h8 h9 => ?_) (fun a h7 h8 h9 h10 => ?_) (by omega)
      · subst h7
        have hbn := bst_none hi (by rw [hri]; exact h9)
        rw [hpick_none hi (by rw [hri]; exact h9)] at g5
        refine ⟨fun h => absurd h (by omega), fun _ => ?_⟩
        repeat (with_reducible refine And.intro (by omega) ?_)
        refine Or.inr ⟨by omega, by omega, fun cap hcap => ?_⟩
        repeat (with_reducible refine And.intro (by omega) ?_)
        refine lpK_normal (i + 1, s, out ++ [-1], cap) [0, 1, 5] ⟨by simp only; omega, by simp only [List.length_append, List.length_cons, List.length_nil]; omega, by simp only [List.length_append, List.length_cons, List.length_nil]; omega, g4, g5⟩ (by simp only; omega) (by kernel_rfl) ?_ ?_
        · simp only [push_cast, ↓branch_true, ↓branch_false, Nat.reduceBEq, Nat.reduceAdd, Nat.reduceMul, Nat.reduceSub, Int.reduceToNat, reduceCtorEq, branch_decide, branch_not, branch_beq, branch_bne, Int.reduceAdd, Int.reduceEq, Int.reduceLE, Int.reduceLT, Nat.reduceLT, Nat.reduceLeDiff, false_imp_iff, true_imp_iff, List.length_append]
          rw [hbn]
          try trivial
        · simp only [push_cast, ↓branch_true, ↓branch_false, Nat.reduceBEq, Nat.reduceAdd, Nat.reduceMul, Nat.reduceSub, Int.reduceToNat, reduceCtorEq, branch_decide, branch_not, branch_beq, branch_bne, Int.reduceAdd, Int.reduceEq, Int.reduceLE, Int.reduceLT, Nat.reduceLT, Nat.reduceLeDiff, false_imp_iff, true_imp_iff, List.length_append]
          exact fun _ _ q hq => app_end rfl hq
      · subst h7
        have hx := hxs i a hi (by omega)
        have hbs := bst_some h10
        rw [hpick_some hi (by rw [hri]; exact h8) h9 h10] at g5
        have eS : (1 : Int) * 2 ^ min a IntKind.i64.bits = ((2 ^ a : Nat) : Int) := two_shl (by omega)
        have hp8 := pow_8 (x := a) (by omega)
        have hs3 := hor s a g4 h8
        have eO := i64_or (a := s) (b := 2 ^ a) (by omega) (by omega)
        have hb0 := hbd i s
        refine ⟨fun _ => ?_, fun h => absurd (by omega) h⟩
        simp only [Int.toNat_natCast, eS]
        generalize 2 ^ a = p at *
        simp only [eO]
        generalize s ||| p = s2 at *
        repeat (with_reducible refine And.intro (by omega) ?_)
        refine Or.inr ⟨by omega, by omega, fun cap hcap => ?_⟩
        repeat (with_reducible refine And.intro (by omega) ?_)
        refine lpK_normal (i + 1, s2, out ++ [(a : Int)], cap) [0, 1, 5] ⟨by simp only; omega, by simp only [List.length_append, List.length_cons, List.length_nil]; omega, by simp only [List.length_append, List.length_cons, List.length_nil]; omega, hs3, g5⟩ (by simp only; omega) (by kernel_rfl) ?_ ?_
        · simp only [push_cast, ↓branch_true, ↓branch_false, Nat.reduceBEq, Nat.reduceAdd, Nat.reduceMul, Nat.reduceSub, Int.reduceToNat, reduceCtorEq, branch_decide, branch_not, branch_beq, branch_bne, Int.reduceAdd, Int.reduceEq, Int.reduceLE, Int.reduceLT, Nat.reduceLT, Nat.reduceLeDiff, false_imp_iff, true_imp_iff, List.length_append]
          rw [hbs]
          try trivial
        · simp only [push_cast, ↓branch_true, ↓branch_false, Nat.reduceBEq, Nat.reduceAdd, Nat.reduceMul, Nat.reduceSub, Int.reduceToNat, reduceCtorEq, branch_decide, branch_not, branch_beq, branch_bne, Int.reduceAdd, Int.reduceEq, Int.reduceLE, Int.reduceLT, Nat.reduceLT, Nat.reduceLeDiff, false_imp_iff, true_imp_iff, List.length_append]
          exact fun _ _ q hq => app_end rfl hq
  · obtain rfl : i = W.length := by omega
    rw [List.drop_length, hpick, List.append_nil] at g5
    subst g5
    refine ⟨_, _, [0, 1, 2], ?_, by kernel_rfl, ?_, oc, g3, rfl, rfl⟩
    · simp only [push_cast, ↓branch_true, ↓branch_false, Nat.reduceBEq, Nat.reduceAdd, Nat.reduceMul, Nat.reduceSub, Int.reduceToNat, reduceCtorEq, branch_decide, branch_not, branch_beq, branch_bne, Int.reduceAdd, Int.reduceEq, Int.reduceLE, Int.reduceLT, Nat.reduceLT, Nat.reduceLeDiff, false_imp_iff, true_imp_iff]
    · simp only [push_cast, ↓branch_true, ↓branch_false, Nat.reduceBEq, Nat.reduceAdd, Nat.reduceMul, Nat.reduceSub, Int.reduceToNat, reduceCtorEq, branch_decide, branch_not, branch_beq, branch_bne, Int.reduceAdd, Int.reduceEq, Int.reduceLE, Int.reduceLT, Nat.reduceLT, Nat.reduceLeDiff, false_imp_iff, true_imp_iff]
end Go.Proofs.Ytmmabnoemckdiaa
