/- Contract: Heaviest. -/
import Derived.Test.YtmmabnoemckdiaaS
set_option maxRecDepth 100000
set_option linter.unusedSimpArgs false
set_option linter.unusedVariables false
namespace Go.Proofs.Ytmmabnoemckdiaa
open Go.RowKit
/-- What the table of sums is: flat. -/
def bk (W : List (List Int)) (k : Nat) : Int := bst (W.drop (k / 256)) (k % 256)
def oBe (n : Nat) (f : Nat → Int) : Ob := ⟨65, false, .row 1 1 (fun _ => (n + 1) * 256) (fun _ => (n + 1) * 256) (fun _ k => [.v (.int .i64 (f k))])⟩
attribute [push_cast] oBe
/-- The table when the rows from i + 1 on are done, and row i up to a set, where v stands. -/
def tbl (W : List (List Int)) (i s : Nat) (k : Nat) : Int := bif decide ((i + 1) * 256 ≤ k) || (decide (i * 256 ≤ k) && decide (k < i * 256 + s)) then bk W k else 0
theorem tbl_bk {W : List (List Int)} {i s k : Nat} (h : (i + 1) * 256 ≤ k ∨ (i * 256 ≤ k ∧ k < i * 256 + s)) : tbl W i s k = bk W k := by
  unfold tbl
  rw [show (decide ((i + 1) * 256 ≤ k) || (decide (i * 256 ≤ k) && decide (k < i * 256 + s))) = true by simpa using h]
  rfl
theorem tbl_succ {W : List (List Int)} {i s k : Nat} (hs : s < 256) : tbl W i (s + 1) k = bif k == i * 256 + s then bk W (i * 256 + s) else tbl W i s k := by
  by_cases e : k = i * 256 + s
  · subst e
    rw [tbl_bk (by omega)]; simp
  · have h1 : (k == i * 256 + s) = false := by simpa using e
    rw [h1, cond_false]
    unfold tbl
    congr 2
    rw [Bool.eq_iff_iff]
    simp
    omega
theorem tbl_no {W : List (List Int)} {i s k : Nat} (h : ¬ ((i + 1) * 256 ≤ k ∨ (i * 256 ≤ k ∧ k < i * 256 + s))) : tbl W i s k = 0 := by
  unfold tbl
  rw [show (decide ((i + 1) * 256 ≤ k) || (decide (i * 256 ≤ k) && decide (k < i * 256 + s))) = false by simpa using h]
  rfl
theorem tbl_zero {W : List (List Int)} {i k : Nat} : tbl W i 0 k = tbl W (i + 1) 256 k := by
  by_cases h : (i + 1) * 256 ≤ k
  · rw [tbl_bk (by omega), tbl_bk (by omega)]
  · rw [tbl_no (by omega), tbl_no (by omega)]
theorem tbl_top {W : List (List Int)} {k : Nat} (hk : k < (W.length + 1) * 256) : tbl W W.length 256 k = 0 := by
  by_cases h : W.length * 256 ≤ k
  · rw [tbl_bk (.inr ⟨h, by omega⟩)]
    unfold bk
    have e : k / 256 = W.length := by omega
    rw [e, List.drop_length, bst]
  · exact tbl_no (by omega)
theorem bk_at {W : List (List Int)} {i s : Nat} (hs : s < 256) : bk W (i * 256 + s) = bst (W.drop i) s := by
  unfold bk
  rw [show (i * 256 + s) / 256 = i by omega, show (i * 256 + s) % 256 = s by omega]
theorem bk_bnd {W : List (List Int)} (h : WOk W) (k : Nat) : 0 ≤ bk W k ∧ bk W k ≤ 8589934592 := by
  have := bst_bnd (W.drop (k / 256)) (fun r hr => h.small r (List.mem_of_mem_drop hr)) (k % 256)
  have h2 := h.len
  simp only [List.length_drop] at this
  unfold bk
  omega
theorem updT {k q i1 : Nat} {a b c : Int} {rl : List Nat} (hi : i1 < 1) : Value.int IntKind.i64 (bif k == q then a else c) = Value.int IntKind.i64 (bif i1 == 0 && k == q then a else bif k == q then b else c) ∧ mtL rl [] (bif i1 == 0 && k == q then [] else []) := by
  obtain rfl : i1 = 0 := by omega
  cases k == q <;> exact ⟨rfl, trivial⟩
set_option maxHeartbeats 4000000 in
theorem heavy_sp (W : List (List Int)) (c : Nat) (cp : Nat → Nat) (hl : W.length ≤ 1000) (hr : ∀ i, (ix W i).length ≤ 1000) : Sp Try.prog 13 [.s 0 0 0 W.length c 1] [oNe 1 W.length (ix W) cp, oNf W.length (ix W)]
    (fun r H => ∃ oc, (wOut W).length ≤ oc ∧ r = .t [.v (.int .i64 (wSum W)), .s 2 0 0 (wOut W).length oc 1, .v (.int .i64 (wErr W))] ∧ H = [oNe 1 W.length (ix W) cp, oNf W.length (ix W), rIO (wOut W) oc]) := by
  refine sp_weak ?_
  refine sp_of_ex true [(19, .one 0 (.one 1 (.one 2 (.one 3 (.one 4 (.one 5 (.one 6 (.one 7 (.one 8 (.one 10 (.one 9 (.one 11 (.one 12 .fin))))))))))))), (24, .jn (.one 0 (.one 1 (.one 2 (.one 3 (.one 4 (.one 5 (.one 6 (.one 7 (.one 9 (.one 10 (.one 11 (.one 12 (.one 13 (.one 14 (.one 15 (.one 16 (.one 17 (.one 18 (.one 22 (.alt [(8, .one 19 (.one 20 (.one 21 (.one 23 (.one 24 .fin))))), (19, .one 20 (.one 8 (.one 21 (.one 23 (.one 24 .fin)))))])))))))))))))))))))))] mixed Try.call13 Try.func13 rfl Try.ntmps13 Try.results13 (by decide +kernel) rfl ?_
  simp only [push_cast, ↓branch_true, ↓branch_false, Nat.reduceBEq, Nat.reduceAdd, Nat.reduceMul, Nat.reduceSub, Int.reduceToNat, reduceCtorEq, branch_decide, branch_not, branch_beq, branch_bne, Int.reduceAdd, Int.reduceEq, Int.reduceLE, Int.reduceLT, Nat.reduceLT, Nat.reduceLeDiff, false_imp_iff, true_imp_iff]
  have he : ∀ e : Int, wErr W = e → e ≠ 0 → wOut W = [] ∧ wSum W = 0 := fun e h h0 => by
    unfold wOut wSum
    rw [if_neg (by omega), if_neg (by omega)]
    exact ⟨rfl, rfl⟩
  refine ⟨fun h1 => ?_, fun h1 => ?_⟩
  · have e0 : wErr W = 4 := if_pos (.inl (by omega))
    obtain ⟨e1, e2⟩ := he 4 e0 (by decide)
    rw [e0, e1, e2]
    refine ⟨_, _, [0, 1, 1000], ?_, by kernel_rfl, ?_, 0, Nat.le_refl _, rfl, rfl⟩
    · simp only [push_cast, ↓branch_true, ↓branch_false, Nat.reduceBEq, Nat.reduceAdd, Nat.reduceMul, Nat.reduceSub, Int.reduceToNat, reduceCtorEq, branch_decide, branch_not, branch_beq, branch_bne, Int.reduceAdd, Int.reduceEq, Int.reduceLE, Int.reduceLT, Nat.reduceLT, Nat.reduceLeDiff, false_imp_iff, true_imp_iff]
    · simp only [push_cast, ↓branch_true, ↓branch_false, Nat.reduceBEq, Nat.reduceAdd, Nat.reduceMul, Nat.reduceSub, Int.reduceToNat, reduceCtorEq, branch_decide, branch_not, branch_beq, branch_bne, Int.reduceAdd, Int.reduceEq, Int.reduceLE, Int.reduceLT, Nat.reduceLT, Nat.reduceLeDiff, false_imp_iff, true_imp_iff]
      try omega
  refine sp_call (containsL_pu W.length c (ix W) cp 44 [] [] [] (fun k => decide ((ix W k).length > 8)) rfl (by omega) fun k hk => heavy1_pu _ _ cp k hk) rfl [0, 1] rfl ?_ ?_ ?_
  · simp only [push_cast, ↓branch_true, ↓branch_false, Nat.reduceBEq, Nat.reduceAdd, Nat.reduceMul, Nat.reduceSub, Int.reduceToNat, reduceCtorEq, branch_decide, branch_not, branch_beq, branch_bne, Int.reduceAdd, Int.reduceEq, Int.reduceLE, Int.reduceLT, Nat.reduceLT, Nat.reduceLeDiff, false_imp_iff, true_imp_iff]
    try trivial
  · simp only [push_cast, ↓branch_true, ↓branch_false, Nat.reduceBEq, Nat.reduceAdd, Nat.reduceMul, Nat.reduceSub, Int.reduceToNat, reduceCtorEq, branch_decide, branch_not, branch_beq, branch_bne, Int.reduceAdd, Int.reduceEq, Int.reduceLE, Int.reduceLT, Nat.reduceLT, Nat.reduceLeDiff, false_imp_iff, true_imp_iff]
    try trivial
  rw [any_rng W fun r => decide (r.length > 8)]
  cases hb1 : W.any fun r => decide (r.length > 8) with
  | true =>
    simp only [push_cast, ↓branch_true, ↓branch_false, Nat.reduceBEq, Nat.reduceAdd, Nat.reduceMul, Nat.reduceSub, Int.reduceToNat, reduceCtorEq, branch_decide, branch_not, branch_beq, branch_bne, Int.reduceAdd, Int.reduceEq, Int.reduceLE, Int.reduceLT, Nat.reduceLT, Nat.reduceLeDiff, false_imp_iff, true_imp_iff]
    have e0 : wErr W = 4 := if_pos (.inr hb1)
    obtain ⟨e1, e2⟩ := he 4 e0 (by decide)
    rw [e0, e1, e2]
    refine ⟨_, _, [0, 1, 1000], ?_, by kernel_rfl, ?_, 0, Nat.le_refl _, rfl, rfl⟩
    · simp only [push_cast, ↓branch_true, ↓branch_false, Nat.reduceBEq, Nat.reduceAdd, Nat.reduceMul, Nat.reduceSub, Int.reduceToNat, reduceCtorEq, branch_decide, branch_not, branch_beq, branch_bne, Int.reduceAdd, Int.reduceEq, Int.reduceLE, Int.reduceLT, Nat.reduceLT, Nat.reduceLeDiff, false_imp_iff, true_imp_iff]
    · simp only [push_cast, ↓branch_true, ↓branch_false, Nat.reduceBEq, Nat.reduceAdd, Nat.reduceMul, Nat.reduceSub, Int.reduceToNat, reduceCtorEq, branch_decide, branch_not, branch_beq, branch_bne, Int.reduceAdd, Int.reduceEq, Int.reduceLE, Int.reduceLT, Nat.reduceLT, Nat.reduceLeDiff, false_imp_iff, true_imp_iff]
      try omega
  | false =>
  simp only [push_cast, ↓branch_true, ↓branch_false, Nat.reduceBEq, Nat.reduceAdd, Nat.reduceMul, Nat.reduceSub, Int.reduceToNat, reduceCtorEq, branch_decide, branch_not, branch_beq, branch_bne, Int.reduceAdd, Int.reduceEq, Int.reduceLE, Int.reduceLT, Nat.reduceLT, Nat.reduceLeDiff, false_imp_iff, true_imp_iff]
  refine sp_call (containsL_pu W.length c (ix W) cp 45 [] [.p 2 0 0] [⟨22, true, .st [.s 0 0 0 W.length c 1]⟩] (fun k => decide ((ix W k).length ≠ (ix W 0).length)) rfl (by omega) fun k hk => heavy2_pu _ c _ cp k hk) rfl [0, 1, 2] rfl ?_ ?_ ?_
  · simp only [push_cast, ↓branch_true, ↓branch_false, Nat.reduceBEq, Nat.reduceAdd, Nat.reduceMul, Nat.reduceSub, Int.reduceToNat, reduceCtorEq, branch_decide, branch_not, branch_beq, branch_bne, Int.reduceAdd, Int.reduceEq, Int.reduceLE, Int.reduceLT, Nat.reduceLT, Nat.reduceLeDiff, false_imp_iff, true_imp_iff]
    try trivial
  · simp only [push_cast, ↓branch_true, ↓branch_false, Nat.reduceBEq, Nat.reduceAdd, Nat.reduceMul, Nat.reduceSub, Int.reduceToNat, reduceCtorEq, branch_decide, branch_not, branch_beq, branch_bne, Int.reduceAdd, Int.reduceEq, Int.reduceLE, Int.reduceLT, Nat.reduceLT, Nat.reduceLeDiff, false_imp_iff, true_imp_iff]
    try trivial
  rw [any_rng W fun r => decide (r.length ≠ (ix W 0).length)]
  have hn1 : ¬ (W.length > 8 ∨ (W.any fun r => decide (r.length > 8)) = true) := by rw [hb1]; simp; omega
  cases hb2 : W.any fun r => decide (r.length ≠ (ix W 0).length) with
  | true =>
    simp only [push_cast, ↓branch_true, ↓branch_false, Nat.reduceBEq, Nat.reduceAdd, Nat.reduceMul, Nat.reduceSub, Int.reduceToNat, reduceCtorEq, branch_decide, branch_not, branch_beq, branch_bne, Int.reduceAdd, Int.reduceEq, Int.reduceLE, Int.reduceLT, Nat.reduceLT, Nat.reduceLeDiff, false_imp_iff, true_imp_iff]
    have e0 : wErr W = 3 := (if_neg hn1).trans (if_pos hb2)
    obtain ⟨e1, e2⟩ := he 3 e0 (by decide)
    rw [e0, e1, e2]
    refine ⟨_, _, [0, 1, 1000], ?_, by kernel_rfl, ?_, 0, Nat.le_refl _, rfl, rfl⟩
    · simp only [push_cast, ↓branch_true, ↓branch_false, Nat.reduceBEq, Nat.reduceAdd, Nat.reduceMul, Nat.reduceSub, Int.reduceToNat, reduceCtorEq, branch_decide, branch_not, branch_beq, branch_bne, Int.reduceAdd, Int.reduceEq, Int.reduceLE, Int.reduceLT, Nat.reduceLT, Nat.reduceLeDiff, false_imp_iff, true_imp_iff]
    · simp only [push_cast, ↓branch_true, ↓branch_false, Nat.reduceBEq, Nat.reduceAdd, Nat.reduceMul, Nat.reduceSub, Int.reduceToNat, reduceCtorEq, branch_decide, branch_not, branch_beq, branch_bne, Int.reduceAdd, Int.reduceEq, Int.reduceLE, Int.reduceLT, Nat.reduceLT, Nat.reduceLeDiff, false_imp_iff, true_imp_iff]
      try omega
  | false =>
  have hn2 : ¬ (W.any fun r => decide (r.length ≠ (ix W 0).length)) = true := by rw [hb2]; decide
  simp only [push_cast, ↓branch_true, ↓branch_false, Nat.reduceBEq, Nat.reduceAdd, Nat.reduceMul, Nat.reduceSub, Int.reduceToNat, reduceCtorEq, branch_decide, branch_not, branch_beq, branch_bne, Int.reduceAdd, Int.reduceEq, Int.reduceLE, Int.reduceLT, Nat.reduceLT, Nat.reduceLeDiff, false_imp_iff, true_imp_iff]
  refine tr_loop0 mixed (by kernel_rfl) (fun (k : Nat) => [(31, .v (.int .i64 k)), (30, .v (.int .i64 W.length)), (29, .s 0 0 0 W.length c 1), (1, .p 2 0 0)]) (fun k => k ≤ W.length ∧ ∀ q, q < k → ((ix W q).any fun x => decide (x < -1) || decide (x > 1073741824)) = false) (fun k => W.length - k) 0 ⟨Nat.zero_le _, fun q h => by omega⟩ ?_ ?_
  · simp only [push_cast, ↓branch_true, ↓branch_false, Nat.reduceBEq, Nat.reduceAdd, Nat.reduceMul, Nat.reduceSub, Int.reduceToNat, reduceCtorEq, branch_decide, branch_not, branch_beq, branch_bne, Int.reduceAdd, Int.reduceEq, Int.reduceLE, Int.reduceLT, Nat.reduceLT, Nat.reduceLeDiff, false_imp_iff, true_imp_iff]
    try trivial
  rintro k ⟨k1, k2⟩
  simp only [push_cast, ↓branch_true, ↓branch_false, Nat.reduceBEq, Nat.reduceAdd, Nat.reduceMul, Nat.reduceSub, Int.reduceToNat, reduceCtorEq, branch_decide, branch_not, branch_beq, branch_bne, Int.reduceAdd, Int.reduceEq, Int.reduceLE, Int.reduceLT, Nat.reduceLT, Nat.reduceLeDiff, false_imp_iff, true_imp_iff]
  refine ⟨fun h2 => ?_, fun h2 => ?_⟩
  · have hk : k < W.length := by omega
    repeat (with_reducible refine And.intro (by omega) ?_)
    refine sp_call (containsM_pu W.length k (cp k) (ix W) 47 [] [] [] (fun x => decide (x < -1) || decide (x > 1073741824)) rfl hk (by have := hr k; omega) fun x _ => heavy3_pu _ _ x) rfl [1] rfl ?_ ?_ ?_
    · simp only [push_cast, ↓branch_true, ↓branch_false, Nat.reduceBEq, Nat.reduceAdd, Nat.reduceMul, Nat.reduceSub, Int.reduceToNat, reduceCtorEq, branch_decide, branch_not, branch_beq, branch_bne, Int.reduceAdd, Int.reduceEq, Int.reduceLE, Int.reduceLT, Nat.reduceLT, Nat.reduceLeDiff, false_imp_iff, true_imp_iff]
      try trivial
    · simp only [push_cast, ↓branch_true, ↓branch_false, Nat.reduceBEq, Nat.reduceAdd, Nat.reduceMul, Nat.reduceSub, Int.reduceToNat, reduceCtorEq, branch_decide, branch_not, branch_beq, branch_bne, Int.reduceAdd, Int.reduceEq, Int.reduceLE, Int.reduceLT, Nat.reduceLT, Nat.reduceLeDiff, false_imp_iff, true_imp_iff]
      try trivial
    cases hb3 : (ix W k).any fun x => decide (x < -1) || decide (x > 1073741824) with
    | true =>
      simp only [push_cast, ↓branch_true, ↓branch_false, Nat.reduceBEq, Nat.reduceAdd, Nat.reduceMul, Nat.reduceSub, Int.reduceToNat, reduceCtorEq, branch_decide, branch_not, branch_beq, branch_bne, Int.reduceAdd, Int.reduceEq, Int.reduceLE, Int.reduceLT, Nat.reduceLT, Nat.reduceLeDiff, false_imp_iff, true_imp_iff]
      have e0 : wErr W = 2 := (if_neg hn1).trans ((if_neg hn2).trans (if_pos (List.any_eq_true.2 ⟨_, ix_mem hk, hb3⟩)))
      obtain ⟨e1, e2⟩ := he 2 e0 (by decide)
      rw [e0, e1, e2]
      refine ⟨_, _, [0, 1, 1000], ?_, by kernel_rfl, ?_, 0, Nat.le_refl _, rfl, rfl⟩
      · simp only [push_cast, ↓branch_true, ↓branch_false, Nat.reduceBEq, Nat.reduceAdd, Nat.reduceMul, Nat.reduceSub, Int.reduceToNat, reduceCtorEq, branch_decide, branch_not, branch_beq, branch_bne, Int.reduceAdd, Int.reduceEq, Int.reduceLE, Int.reduceLT, Nat.reduceLT, Nat.reduceLeDiff, false_imp_iff, true_imp_iff]
      · simp only [push_cast, ↓branch_true, ↓branch_false, Nat.reduceBEq, Nat.reduceAdd, Nat.reduceMul, Nat.reduceSub, Int.reduceToNat, reduceCtorEq, branch_decide, branch_not, branch_beq, branch_bne, Int.reduceAdd, Int.reduceEq, Int.reduceLE, Int.reduceLT, Nat.reduceLT, Nat.reduceLeDiff, false_imp_iff, true_imp_iff]
        try omega
    | false =>
      simp only [push_cast, ↓branch_true, ↓branch_false, Nat.reduceBEq, Nat.reduceAdd, Nat.reduceMul, Nat.reduceSub, Int.reduceToNat, reduceCtorEq, branch_decide, branch_not, branch_beq, branch_bne, Int.reduceAdd, Int.reduceEq, Int.reduceLE, Int.reduceLT, Nat.reduceLT, Nat.reduceLeDiff, false_imp_iff, true_imp_iff]
      repeat (with_reducible refine And.intro (by omega) ?_)
      refine lp0_normal (k + 1) ⟨by omega, fun q hq => ?_⟩ (by omega) ?_
      · by_cases e : q = k
        · subst e; exact hb3
        · exact k2 q (by omega)
      · simp only [push_cast, ↓branch_true, ↓branch_false, Nat.reduceBEq, Nat.reduceAdd, Nat.reduceMul, Nat.reduceSub, Int.reduceToNat, reduceCtorEq, branch_decide, branch_not, branch_beq, branch_bne, Int.reduceAdd, Int.reduceEq, Int.reduceLE, Int.reduceLT, Nat.reduceLT, Nat.reduceLeDiff, false_imp_iff, true_imp_iff]
  obtain rfl : k = W.length := by omega
  have e0 : wErr W = 0 := (if_neg hn1).trans ((if_neg hn2).trans (if_neg fun h => by
    obtain ⟨x, hx, hx2⟩ := List.any_eq_true.1 h
    obtain ⟨q, hq, e⟩ := List.getElem_of_mem hx
    have := k2 q hq
    rw [ix_eq hq, e, hx2] at this
    cases this))
  have hok := wok_of e0
  have e1 : wOut W = hpick W 0 := if_pos e0
  have e2 : wSum W = bst W 0 := if_pos e0
  rw [e0, e1, e2]
  have hlen := hok.len
  have hro : ∀ k, k < W.length → (ix W k).length ≤ 8 := fun k hk => hok.rows _ (ix_mem hk)
  have hxs : ∀ k q, k < W.length → q < (ix W k).length → -1 ≤ ix (ix W k) q ∧ ix (ix W k) q ≤ 1073741824 := fun k q hk hq => ⟨hok.least _ (ix_mem hk) _ (ix_mem hq), hok.small _ (ix_mem hk) _ (ix_mem hq)⟩
  repeat (with_reducible refine And.intro (by omega) ?_)
  have hbb := bk_bnd hok
  refine tr_loop mixed (by kernel_rfl) (fun (a : Nat) => [(9, .v (.int .i64 ((a : Int) - 1))), (8, .s 3 0 0 (W.length + 1) (W.length + 1) 256), (1, .p 2 0 0)])
    (fun a => [oNe 1 W.length (ix W) cp, oNf W.length (ix W), ⟨22, false, .st [.s 0 0 0 W.length c 1]⟩, oBe W.length (tbl W a 256)]) (fun a => a ≤ W.length) (fun a => a) W.length (Nat.le_refl _) (Mt.wk (rl := [0, 1, 2, 3]) ⟨by kernel_rfl, ?_, ?_⟩) ?_
  · simp only [push_cast, ↓branch_true, ↓branch_false, Nat.reduceBEq, Nat.reduceAdd, Nat.reduceMul, Nat.reduceSub, Int.reduceToNat, reduceCtorEq, branch_decide, branch_not, branch_beq, branch_bne, Int.reduceAdd, Int.reduceEq, Int.reduceLE, Int.reduceLT, Nat.reduceLT, Nat.reduceLeDiff, false_imp_iff, true_imp_iff]
    try trivial
  · simp only [push_cast, ↓branch_true, ↓branch_false, Nat.reduceBEq, Nat.reduceAdd, Nat.reduceMul, Nat.reduceSub, Int.reduceToNat, reduceCtorEq, branch_decide, branch_not, branch_beq, branch_bne, Int.reduceAdd, Int.reduceEq, Int.reduceLE, Int.reduceLT, Nat.reduceLT, Nat.reduceLeDiff, false_imp_iff, true_imp_iff]
    exact fun _ _ => ⟨by omega, by omega, fun k hk => by rw [tbl_top hk]⟩
  intro a ha
  simp only [push_cast, ↓branch_true, ↓branch_false, Nat.reduceBEq, Nat.reduceAdd, Nat.reduceMul, Nat.reduceSub, Int.reduceToNat, reduceCtorEq, branch_decide, branch_not, branch_beq, branch_bne, Int.reduceAdd, Int.reduceEq, Int.reduceLE, Int.reduceLT, Nat.reduceLT, Nat.reduceLeDiff, false_imp_iff, true_imp_iff]
  refine ⟨fun h3 => ?_, fun h3 => ?_⟩
  · obtain ⟨i, rfl⟩ : ∃ i, a = i + 1 := ⟨a - 1, by omega⟩
    have hi : i < W.length := by omega
    rw [show ((i + 1 : Nat) : Int) - 1 = i by omega]
    refine tr_loop mixed (by kernel_rfl) (fun (s : Nat) => [(49, .v (.int .i64 s)), (9, .v (.int .i64 i)), (8, .s 3 0 0 (W.length + 1) (W.length + 1) 256), (1, .p 2 0 0)])
      (fun s => [oNe 1 W.length (ix W) cp, oNf W.length (ix W), ⟨22, false, .st [.s 0 0 0 W.length c 1]⟩, oBe W.length (tbl W i s)]) (fun s => s ≤ 256) (fun s => 256 - s) 0 (Nat.zero_le _) (Mt.wk (rl := [0, 1, 2, 3]) ⟨by kernel_rfl, ?_, ?_⟩) ?_
    · simp only [push_cast, ↓branch_true, ↓branch_false, Nat.reduceBEq, Nat.reduceAdd, Nat.reduceMul, Nat.reduceSub, Int.reduceToNat, reduceCtorEq, branch_decide, branch_not, branch_beq, branch_bne, Int.reduceAdd, Int.reduceEq, Int.reduceLE, Int.reduceLT, Nat.reduceLT, Nat.reduceLeDiff, false_imp_iff, true_imp_iff]
      try trivial
    · simp only [push_cast, ↓branch_true, ↓branch_false, Nat.reduceBEq, Nat.reduceAdd, Nat.reduceMul, Nat.reduceSub, Int.reduceToNat, reduceCtorEq, branch_decide, branch_not, branch_beq, branch_bne, Int.reduceAdd, Int.reduceEq, Int.reduceLE, Int.reduceLT, Nat.reduceLT, Nat.reduceLeDiff, false_imp_iff, true_imp_iff]
      exact fun _ _ k _ => by rw [tbl_zero]
    intro s hs
    simp only [push_cast, ↓branch_true, ↓branch_false, Nat.reduceBEq, Nat.reduceAdd, Nat.reduceMul, Nat.reduceSub, Int.reduceToNat, reduceCtorEq, branch_decide, branch_not, branch_beq, branch_bne, Int.reduceAdd, Int.reduceEq, Int.reduceLE, Int.reduceLT, Nat.reduceLT, Nat.reduceLeDiff, false_imp_iff, true_imp_iff]
    refine ⟨fun h4 => ?_, fun h4 => ?_⟩
    · have hs2 : s < 256 := by omega
      repeat (with_reducible refine And.intro (by omega) ?_)
      have hsl : s < i * 256 + 256 := by omega
      have hl0 : tbl W i s ((i + 1) * 256 + s) = bst (W.drop (i + 1)) s := by rw [tbl_bk (by omega), bk_at hs2]
      refine tr_loop mixed (by kernel_rfl) (fun (j : Nat) => [(69, .v (.int .i64 j)), (68, .v (.int .i64 (ix W i).length)), (67, .s 1 i 0 (ix W i).length (cp i) 1), (49, .v (.int .i64 s)), (10, .v (.int .i64 s)), (9, .v (.int .i64 i)), (8, .s 3 0 0 (W.length + 1) (W.length + 1) 256), (1, .p 2 0 0)])
        (fun j => [oNe 1 W.length (ix W) cp, oNf W.length (ix W), ⟨22, false, .st [.s 0 0 0 W.length c 1]⟩, oBe W.length (fun k => bif k == i * 256 + s then rowB (bst (W.drop (i + 1))) (ix W i) s j else tbl W i s k)]) (fun j => j ≤ (ix W i).length) (fun j => (ix W i).length - j) 0 (Nat.zero_le _) (Mt.wk (rl := [0, 1, 2, 3]) ⟨by kernel_rfl, ?_, ?_⟩) ?_
      · simp only [push_cast, ↓branch_true, ↓branch_false, Nat.reduceBEq, Nat.reduceAdd, Nat.reduceMul, Nat.reduceSub, Int.reduceToNat, reduceCtorEq, branch_decide, branch_not, branch_beq, branch_bne, Int.reduceAdd, Int.reduceEq, Int.reduceLE, Int.reduceLT, Nat.reduceLT, Nat.reduceLeDiff, false_imp_iff, true_imp_iff]
        try trivial
      · simp only [push_cast, ↓branch_true, ↓branch_false, Nat.reduceBEq, Nat.reduceAdd, Nat.reduceMul, Nat.reduceSub, Int.reduceToNat, reduceCtorEq, branch_decide, branch_not, branch_beq, branch_bne, Int.reduceAdd, Int.reduceEq, Int.reduceLE, Int.reduceLT, Nat.reduceLT, Nat.reduceLeDiff, false_imp_iff, true_imp_iff]
        intro _ _ k hk
        rw [show ((i : Int) + 1).toNat = i + 1 by omega, hl0]
        cases e : k == i * 256 + s with
        | true =>
          rename_i i1 hi1
          obtain rfl : i1 = 0 := by omega
          exact ⟨rfl, trivial⟩
        | false =>
          simp only [Bool.and_false, cond_false]
          exact ⟨trivial, trivial⟩
      intro j hj
      simp only [push_cast, ↓branch_true, ↓branch_false, Nat.reduceBEq, Nat.reduceAdd, Nat.reduceMul, Nat.reduceSub, Int.reduceToNat, reduceCtorEq, branch_decide, branch_not, branch_beq, branch_bne, Int.reduceAdd, Int.reduceEq, Int.reduceLE, Int.reduceLT, Nat.reduceLT, Nat.reduceLeDiff, false_imp_iff, true_imp_iff]
      refine ⟨fun h5 => ?_, fun h5 => ?_⟩
      · have hj2 : j < (ix W i).length := by omega
        have hx := hxs i j hi hj2
        have hj8 : j < 8 := by have := hro i hi; omega
        have eS : (1 : Int) * 2 ^ min j IntKind.i64.bits = ((2 ^ j : Nat) : Int) := two_shl (by omega)
        have hp8 := pow_8 hj8
        have hs3 := or_lt8 hs2 hj8
        have eA := i64_has (s := s) (x := j) (by omega) (by omega)
        have eO := i64_or (a := s) (b := 2 ^ j) (by omega) (by omega)
        have eT : ((i : Int) + 1).toNat = i + 1 := by omega
        have hrow : rowB (bst (W.drop (i + 1))) (ix W i) s (j + 1) = bif decide (0 ≤ ix (ix W i) j) && !s.testBit j then max (rowB (bst (W.drop (i + 1))) (ix W i) s j) (ix (ix W i) j + bst (W.drop (i + 1)) (s ||| 2 ^ j)) else rowB (bst (W.drop (i + 1))) (ix W i) s j := rfl
        have hl1 : tbl W i s ((i + 1) * 256 + (s ||| 2 ^ j)) = bst (W.drop (i + 1)) (s ||| 2 ^ j) := by rw [tbl_bk (by omega), bk_at hs3]
        have hne : ((i + 1) * 256 + (s ||| 2 ^ j) == i * 256 + s) = false := by simp; omega
        have hbx := hbb ((i + 1) * 256 + (s ||| 2 ^ j))
        rw [bk_at hs3] at hbx
        simp only [eS, eA, eT]
        generalize 2 ^ j = p at *
        simp only [eO]
        generalize s ||| p = s2 at *
        repeat (with_reducible refine And.intro (by omega) ?_)
        simp only [Int.toNat_natCast, hne, cond_false, hl1]
        generalize hxx : ix (ix W i) j = x at *
        refine ⟨fun h6 => ⟨by omega, fun h7 => ?_, fun h7 => ?_⟩, fun h6 => ?_⟩
        · rw [decide_eq_true h6, h7] at hrow
          simp only [Bool.not_false, Bool.and_self, cond_true] at hrow
          refine ⟨[(69, .v (.int .i64 j)), (68, .v (.int .i64 (ix W i).length)), (67, .s 1 i 0 (ix W i).length (cp i) 1), (49, .v (.int .i64 s)), (10, .v (.int .i64 s)), (9, .v (.int .i64 i)), (8, .s 3 0 0 (W.length + 1) (W.length + 1) 256), (1, .p 2 0 0)], [oNe 1 W.length (ix W) cp, oNf W.length (ix W), ⟨22, false, .st [.s 0 0 0 W.length c 1]⟩, oBe W.length (fun k => bif k == i * 256 + s then rowB (bst (W.drop (i + 1))) (ix W i) s (j + 1) else tbl W i s k)], ?_, ?_⟩
          · repeat' (first | (with_reducible apply And.intro) | omega | (with_reducible intro _))
            all_goals first
              | omega
              | (refine Mt.wk (rl := [0, 1, 2, 3]) ⟨by kernel_rfl, ?_, ?_⟩
                 · simp only [push_cast, ↓branch_true, ↓branch_false, Nat.reduceBEq, Nat.reduceAdd, Nat.reduceMul, Nat.reduceSub, Int.reduceToNat, reduceCtorEq, branch_decide, branch_not, branch_beq, branch_bne, Int.reduceAdd, Int.reduceEq, Int.reduceLE, Int.reduceLT, Nat.reduceLT, Nat.reduceLeDiff, false_imp_iff, true_imp_iff]
                   try trivial
                 · simp only [push_cast, ↓branch_true, ↓branch_false, Nat.reduceBEq, Nat.reduceAdd, Nat.reduceMul, Nat.reduceSub, Int.reduceToNat, reduceCtorEq, branch_decide, branch_not, branch_beq, branch_bne, Int.reduceAdd, Int.reduceEq, Int.reduceLE, Int.reduceLT, Nat.reduceLT, Nat.reduceLeDiff, false_imp_iff, true_imp_iff, hrow]
                   exact fun _ hi1 _ _ => updT hi1
                 )
          simp only [push_cast, ↓branch_true, ↓branch_false, Nat.reduceBEq, Nat.reduceAdd, Nat.reduceMul, Nat.reduceSub, Int.reduceToNat, reduceCtorEq, branch_decide, branch_not, branch_beq, branch_bne, Int.reduceAdd, Int.reduceEq, Int.reduceLE, Int.reduceLT, Nat.reduceLT, Nat.reduceLeDiff, false_imp_iff, true_imp_iff, jnK]
          repeat (with_reducible refine And.intro (by omega) ?_)
          refine lpK_normal (j + 1) [0, 1, 2, 3] (by omega) (by omega) (by kernel_rfl) ?_ ?_
          · simp only [push_cast, ↓branch_true, ↓branch_false, Nat.reduceBEq, Nat.reduceAdd, Nat.reduceMul, Nat.reduceSub, Int.reduceToNat, reduceCtorEq, branch_decide, branch_not, branch_beq, branch_bne, Int.reduceAdd, Int.reduceEq, Int.reduceLE, Int.reduceLT, Nat.reduceLT, Nat.reduceLeDiff, false_imp_iff, true_imp_iff]
          · simp only [push_cast, ↓branch_true, ↓branch_false, Nat.reduceBEq, Nat.reduceAdd, Nat.reduceMul, Nat.reduceSub, Int.reduceToNat, reduceCtorEq, branch_decide, branch_not, branch_beq, branch_bne, Int.reduceAdd, Int.reduceEq, Int.reduceLE, Int.reduceLT, Nat.reduceLT, Nat.reduceLeDiff, false_imp_iff, true_imp_iff]
        · have hb : s.testBit j = true := by simpa using h7
          rw [hb] at hrow
          simp only [Bool.not_true, Bool.and_false, cond_false] at hrow
          repeat (with_reducible refine And.intro (by omega) ?_)
          refine lpK_normal (j + 1) [0, 1, 2, 3] (by omega) (by omega) (by kernel_rfl) ?_ ?_
          · simp only [push_cast, ↓branch_true, ↓branch_false, Nat.reduceBEq, Nat.reduceAdd, Nat.reduceMul, Nat.reduceSub, Int.reduceToNat, reduceCtorEq, branch_decide, branch_not, branch_beq, branch_bne, Int.reduceAdd, Int.reduceEq, Int.reduceLE, Int.reduceLT, Nat.reduceLT, Nat.reduceLeDiff, false_imp_iff, true_imp_iff]
          · simp only [push_cast, ↓branch_true, ↓branch_false, Nat.reduceBEq, Nat.reduceAdd, Nat.reduceMul, Nat.reduceSub, Int.reduceToNat, reduceCtorEq, branch_decide, branch_not, branch_beq, branch_bne, Int.reduceAdd, Int.reduceEq, Int.reduceLE, Int.reduceLT, Nat.reduceLT, Nat.reduceLeDiff, false_imp_iff, true_imp_iff, hrow]
            try trivial
        · rw [decide_eq_false h6] at hrow
          simp only [Bool.false_and, cond_false] at hrow
          repeat (with_reducible refine And.intro (by omega) ?_)
          refine lpK_normal (j + 1) [0, 1, 2, 3] (by omega) (by omega) (by kernel_rfl) ?_ ?_
          · simp only [push_cast, ↓branch_true, ↓branch_false, Nat.reduceBEq, Nat.reduceAdd, Nat.reduceMul, Nat.reduceSub, Int.reduceToNat, reduceCtorEq, branch_decide, branch_not, branch_beq, branch_bne, Int.reduceAdd, Int.reduceEq, Int.reduceLE, Int.reduceLT, Nat.reduceLT, Nat.reduceLeDiff, false_imp_iff, true_imp_iff]
          · simp only [push_cast, ↓branch_true, ↓branch_false, Nat.reduceBEq, Nat.reduceAdd, Nat.reduceMul, Nat.reduceSub, Int.reduceToNat, reduceCtorEq, branch_decide, branch_not, branch_beq, branch_bne, Int.reduceAdd, Int.reduceEq, Int.reduceLE, Int.reduceLT, Nat.reduceLT, Nat.reduceLeDiff, false_imp_iff, true_imp_iff, hrow]
            try trivial
      · obtain rfl : j = (ix W i).length := by omega
        have hts : ∀ k, tbl W i (s + 1) k = bif k == i * 256 + s then rowB (bst (W.drop (i + 1))) (ix W i) s (ix W i).length else tbl W i s k := fun k => by rw [tbl_succ hs2, bk_at hs2, bst_drop hi]
        repeat (with_reducible refine And.intro (by omega) ?_)
        refine lpK_normal (s + 1) [0, 1, 2, 3] (by omega) (by omega) (by kernel_rfl) ?_ ?_
        · simp only [push_cast, ↓branch_true, ↓branch_false, Nat.reduceBEq, Nat.reduceAdd, Nat.reduceMul, Nat.reduceSub, Int.reduceToNat, reduceCtorEq, branch_decide, branch_not, branch_beq, branch_bne, Int.reduceAdd, Int.reduceEq, Int.reduceLE, Int.reduceLT, Nat.reduceLT, Nat.reduceLeDiff, false_imp_iff, true_imp_iff]
        · simp only [push_cast, ↓branch_true, ↓branch_false, Nat.reduceBEq, Nat.reduceAdd, Nat.reduceMul, Nat.reduceSub, Int.reduceToNat, reduceCtorEq, branch_decide, branch_not, branch_beq, branch_bne, Int.reduceAdd, Int.reduceEq, Int.reduceLE, Int.reduceLT, Nat.reduceLT, Nat.reduceLeDiff, false_imp_iff, true_imp_iff, hts]
          try trivial
    · obtain rfl : s = 256 := by omega
      repeat (with_reducible refine And.intro (by omega) ?_)
      refine lpK_normal i [0, 1, 2, 3] (by omega) (by omega) (by kernel_rfl) ?_ ?_
      · simp only [push_cast, ↓branch_true, ↓branch_false, Nat.reduceBEq, Nat.reduceAdd, Nat.reduceMul, Nat.reduceSub, Int.reduceToNat, reduceCtorEq, branch_decide, branch_not, branch_beq, branch_bne, Int.reduceAdd, Int.reduceEq, Int.reduceLE, Int.reduceLT, Nat.reduceLT, Nat.reduceLeDiff, false_imp_iff, true_imp_iff]
      · simp only [push_cast, ↓branch_true, ↓branch_false, Nat.reduceBEq, Nat.reduceAdd, Nat.reduceMul, Nat.reduceSub, Int.reduceToNat, reduceCtorEq, branch_decide, branch_not, branch_beq, branch_bne, Int.reduceAdd, Int.reduceEq, Int.reduceLE, Int.reduceLT, Nat.reduceLT, Nat.reduceLeDiff, false_imp_iff, true_imp_iff]
  obtain rfl : a = 0 := by omega
  have htb : ∀ k, tbl W 0 256 k = bk W k := fun k => tbl_bk (by omega)
  refine tr_loop mixed (by kernel_rfl) (fun (x : Nat × Nat × List Int × Nat) => [(111, .v (.int .i64 x.1)), (110, .v (.int .i64 W.length)), (109, .s 0 0 0 W.length c 1), (14, .s 4 0 0 x.2.2.1.length x.2.2.2 1), (13, .v (.int .i64 x.2.1)), (8, .s 3 0 0 (W.length + 1) (W.length + 1) 256)])
    (fun x => [oNe 1 W.length (ix W) cp, oNf W.length (ix W), ⟨22, false, .st [.s 0 0 0 W.length c 1]⟩, oBe W.length (bk W), rIO x.2.2.1 x.2.2.2])
    (fun x => x.1 ≤ W.length ∧ x.2.2.1.length = x.1 ∧ x.2.2.1.length ≤ x.2.2.2 ∧ x.2.1 < 256 ∧ x.2.2.1 ++ hpick (W.drop x.1) x.2.1 = hpick W 0) (fun x => W.length - x.1) (0, 0, [], 0)
    ⟨Nat.zero_le _, rfl, Nat.le_refl _, by decide, rfl⟩ (Mt.wk (rl := [0, 1, 2, 3, 1000]) ⟨by kernel_rfl, ?_, ?_⟩) ?_
  · simp only [push_cast, ↓branch_true, ↓branch_false, Nat.reduceBEq, Nat.reduceAdd, Nat.reduceMul, Nat.reduceSub, Int.reduceToNat, reduceCtorEq, branch_decide, branch_not, branch_beq, branch_bne, Int.reduceAdd, Int.reduceEq, Int.reduceLE, Int.reduceLT, Nat.reduceLT, Nat.reduceLeDiff, false_imp_iff, true_imp_iff]
    try trivial
  · simp only [push_cast, ↓branch_true, ↓branch_false, Nat.reduceBEq, Nat.reduceAdd, Nat.reduceMul, Nat.reduceSub, Int.reduceToNat, reduceCtorEq, branch_decide, branch_not, branch_beq, branch_bne, Int.reduceAdd, Int.reduceEq, Int.reduceLE, Int.reduceLT, Nat.reduceLT, Nat.reduceLeDiff, false_imp_iff, true_imp_iff, htb]
    try exact ⟨by omega, by omega⟩
  rintro ⟨i, s, out, oc⟩ ⟨g1, g2, g3, g4, g5⟩
  simp only at g1 g2 g3 g4 g5
  simp only [push_cast, ↓branch_true, ↓branch_false, Nat.reduceBEq, Nat.reduceAdd, Nat.reduceMul, Nat.reduceSub, Int.reduceToNat, reduceCtorEq, branch_decide, branch_not, branch_beq, branch_bne, Int.reduceAdd, Int.reduceEq, Int.reduceLE, Int.reduceLT, Nat.reduceLT, Nat.reduceLeDiff, false_imp_iff, true_imp_iff]
  refine ⟨fun h4 => ?_, fun h4 => ?_⟩
  · have hi : i < W.length := by omega
    repeat (with_reducible refine And.intro (by omega) ?_)
    refine Or.inr ⟨by omega, by omega, fun oc2 hoc2 => ?_⟩
    repeat (with_reducible refine And.intro (by omega) ?_)
    refine tr_loop mixed (by kernel_rfl) (fun (j : Nat) => [(121, .v (.int .i64 j)), (120, .v (.int .i64 (ix W i).length)), (119, .s 1 i 0 (ix W i).length (cp i) 1), (111, .v (.int .i64 i)), (110, .v (.int .i64 W.length)), (109, .s 0 0 0 W.length c 1), (15, .v (.int .i64 i)), (14, .s 4 0 0 (out.length + 1) oc2 1), (13, .v (.int .i64 s)), (8, .s 3 0 0 (W.length + 1) (W.length + 1) 256)])
      (fun _ => [oNe 1 W.length (ix W) cp, oNf W.length (ix W), ⟨22, false, .st [.s 0 0 0 W.length c 1]⟩, oBe W.length (bk W), rIO (out ++ [-1]) oc2])
      (fun j => j ≤ (ix W i).length ∧ ∀ q, q < j → okW (W.drop (i + 1)) (ix W i) (bst (W.drop i) s) s q = false) (fun j => (ix W i).length - j) 0 ⟨Nat.zero_le _, fun q hq => by omega⟩ (Mt.wk (rl := [0, 1, 2, 3, 6]) ⟨by kernel_rfl, ?_, ?_⟩) ?_
    · simp only [push_cast, ↓branch_true, ↓branch_false, Nat.reduceBEq, Nat.reduceAdd, Nat.reduceMul, Nat.reduceSub, Int.reduceToNat, reduceCtorEq, branch_decide, branch_not, branch_beq, branch_bne, Int.reduceAdd, Int.reduceEq, Int.reduceLE, Int.reduceLT, Nat.reduceLT, Nat.reduceLeDiff, false_imp_iff, true_imp_iff]
      try trivial
    · simp only [push_cast, ↓branch_true, ↓branch_false, Nat.reduceBEq, Nat.reduceAdd, Nat.reduceMul, Nat.reduceSub, Int.reduceToNat, reduceCtorEq, branch_decide, branch_not, branch_beq, branch_bne, Int.reduceAdd, Int.reduceEq, Int.reduceLE, Int.reduceLT, Nat.reduceLT, Nat.reduceLeDiff, false_imp_iff, true_imp_iff, List.length_append]
      exact fun _ _ q hq => app_end rfl hq
    rintro j ⟨k1, k2⟩
    simp only [push_cast, ↓branch_true, ↓branch_false, Nat.reduceBEq, Nat.reduceAdd, Nat.reduceMul, Nat.reduceSub, Int.reduceToNat, reduceCtorEq, branch_decide, branch_not, branch_beq, branch_bne, Int.reduceAdd, Int.reduceEq, Int.reduceLE, Int.reduceLT, Nat.reduceLT, Nat.reduceLeDiff, false_imp_iff, true_imp_iff]
    refine ⟨fun h5 => ?_, fun h5 => ?_⟩
    · have hj : j < (ix W i).length := by omega
      have hx := hxs i j hi hj
      have hj8 : j < 8 := by have := hro i hi; omega
      have eS : (1 : Int) * 2 ^ min j IntKind.i64.bits = ((2 ^ j : Nat) : Int) := two_shl (by omega)
      have hp8 := pow_8 hj8
      have hs3 := or_lt8 g4 hj8
      have eA := i64_has (s := s) (x := j) (by omega) (by omega)
      have eO := i64_or (a := s) (b := 2 ^ j) (by omega) (by omega)
      have eT : ((i : Int) + 1).toNat = i + 1 := by omega
      have hokj : okW (W.drop (i + 1)) (ix W i) (bst (W.drop i) s) s j = (decide (0 ≤ ix (ix W i) j) && (!s.testBit j && decide (bst (W.drop i) s = ix (ix W i) j + bst (W.drop (i + 1)) (s ||| 2 ^ j)))) := rfl
      have hsome := hpick_some (s := s) hi hj k2
      have hb1 : bk W ((i + 1) * 256 + (s ||| 2 ^ j)) = bst (W.drop (i + 1)) (s ||| 2 ^ j) := bk_at hs3
      have hb0 : bk W (i * 256 + s) = bst (W.drop i) s := bk_at g4
      have hbx := hbb ((i + 1) * 256 + (s ||| 2 ^ j))
      rw [hb1] at hbx
      have knext : okW (W.drop (i + 1)) (ix W i) (bst (W.drop i) s) s j = false → ∀ q, q < j + 1 → okW (W.drop (i + 1)) (ix W i) (bst (W.drop i) s) s q = false := fun h q hq => by
        by_cases e : q = j
        · subst e; exact h
        · exact k2 q (by omega)
      simp only [eS, eA, eT]
      generalize 2 ^ j = p at *
      simp only [eO]
      generalize s ||| p = s2 at *
      repeat (with_reducible refine And.intro (by omega) ?_)
      simp only [Int.toNat_natCast, hb0, hb1]
      generalize hxx : ix (ix W i) j = x at *
      refine ⟨fun h6 => ⟨by omega, fun h7 => ?_, fun h7 => ?_⟩, fun h6 => ?_⟩
      · rw [decide_eq_true h6, h7, Bool.not_false, Bool.true_and, Bool.true_and] at hokj
        repeat (with_reducible refine And.intro (by omega) ?_)
        refine ⟨fun h8 => ?_, fun h8 => ?_⟩
        · rw [decide_eq_true h8] at hokj
          rw [hsome hokj] at g5
          have hoi : i < (out ++ [-1]).length := by rw [List.length_append]; simp; omega
          repeat (with_reducible refine And.intro (by omega) ?_)
          refine lpK_normal (i + 1, s2, out ++ [(j : Int)], oc2) [0, 1, 2, 3, 4] ⟨by simp only; omega, by simp only [List.length_append, List.length_cons, List.length_nil]; omega, by simp only [List.length_append, List.length_cons, List.length_nil]; omega, hs3, g5⟩ (by simp only; omega) (by kernel_rfl) ?_ ?_
          · simp only [push_cast, ↓branch_true, ↓branch_false, Nat.reduceBEq, Nat.reduceAdd, Nat.reduceMul, Nat.reduceSub, Int.reduceToNat, reduceCtorEq, branch_decide, branch_not, branch_beq, branch_bne, Int.reduceAdd, Int.reduceEq, Int.reduceLE, Int.reduceLT, Nat.reduceLT, Nat.reduceLeDiff, false_imp_iff, true_imp_iff, List.length_append]
            try trivial
          · simp only [push_cast, ↓branch_true, ↓branch_false, Nat.reduceBEq, Nat.reduceAdd, Nat.reduceMul, Nat.reduceSub, Int.reduceToNat, reduceCtorEq, branch_decide, branch_not, branch_beq, branch_bne, Int.reduceAdd, Int.reduceEq, Int.reduceLE, Int.reduceLT, Nat.reduceLT, Nat.reduceLeDiff, false_imp_iff, true_imp_iff, List.length_append]
            intro i1 hi1 q hq
            obtain rfl : i1 = 0 := by omega
            by_cases e : q = i
            · subst e
              rw [show ix (out ++ [(j : Int)]) q = j by rw [← g2, ix_app_last]]
              simp only [beq_self_eq_true, Bool.and_self, cond_true]
              exact ⟨trivial, trivial⟩
            · have hb : (q == i) = false := by simpa using e
              rw [ix_app_ne (by omega), ix_app_ne (by omega)]
              simp only [hb, Bool.and_false, cond_false]
              exact ⟨trivial, trivial⟩
        · rw [decide_eq_false h8] at hokj
          repeat (with_reducible refine And.intro (by omega) ?_)
          refine lpK_normal (j + 1) [0, 1, 2, 3, 4] ⟨by omega, knext hokj⟩ (by omega) (by kernel_rfl) ?_ ?_
          · simp only [push_cast, ↓branch_true, ↓branch_false, Nat.reduceBEq, Nat.reduceAdd, Nat.reduceMul, Nat.reduceSub, Int.reduceToNat, reduceCtorEq, branch_decide, branch_not, branch_beq, branch_bne, Int.reduceAdd, Int.reduceEq, Int.reduceLE, Int.reduceLT, Nat.reduceLT, Nat.reduceLeDiff, false_imp_iff, true_imp_iff]
          · simp only [push_cast, ↓branch_true, ↓branch_false, Nat.reduceBEq, Nat.reduceAdd, Nat.reduceMul, Nat.reduceSub, Int.reduceToNat, reduceCtorEq, branch_decide, branch_not, branch_beq, branch_bne, Int.reduceAdd, Int.reduceEq, Int.reduceLE, Int.reduceLT, Nat.reduceLT, Nat.reduceLeDiff, false_imp_iff, true_imp_iff]
      · have hb : s.testBit j = true := by simpa using h7
        rw [hb, Bool.not_true, Bool.false_and, Bool.and_false] at hokj
        repeat (with_reducible refine And.intro (by omega) ?_)
        refine lpK_normal (j + 1) [0, 1, 2, 3, 4] ⟨by omega, knext hokj⟩ (by omega) (by kernel_rfl) ?_ ?_
        · simp only [push_cast, ↓branch_true, ↓branch_false, Nat.reduceBEq, Nat.reduceAdd, Nat.reduceMul, Nat.reduceSub, Int.reduceToNat, reduceCtorEq, branch_decide, branch_not, branch_beq, branch_bne, Int.reduceAdd, Int.reduceEq, Int.reduceLE, Int.reduceLT, Nat.reduceLT, Nat.reduceLeDiff, false_imp_iff, true_imp_iff]
        · simp only [push_cast, ↓branch_true, ↓branch_false, Nat.reduceBEq, Nat.reduceAdd, Nat.reduceMul, Nat.reduceSub, Int.reduceToNat, reduceCtorEq, branch_decide, branch_not, branch_beq, branch_bne, Int.reduceAdd, Int.reduceEq, Int.reduceLE, Int.reduceLT, Nat.reduceLT, Nat.reduceLeDiff, false_imp_iff, true_imp_iff]
      · rw [decide_eq_false h6, Bool.false_and] at hokj
        repeat (with_reducible refine And.intro (by omega) ?_)
        refine lpK_normal (j + 1) [0, 1, 2, 3, 4] ⟨by omega, knext hokj⟩ (by omega) (by kernel_rfl) ?_ ?_
        · simp only [push_cast, ↓branch_true, ↓branch_false, Nat.reduceBEq, Nat.reduceAdd, Nat.reduceMul, Nat.reduceSub, Int.reduceToNat, reduceCtorEq, branch_decide, branch_not, branch_beq, branch_bne, Int.reduceAdd, Int.reduceEq, Int.reduceLE, Int.reduceLT, Nat.reduceLT, Nat.reduceLeDiff, false_imp_iff, true_imp_iff]
        · simp only [push_cast, ↓branch_true, ↓branch_false, Nat.reduceBEq, Nat.reduceAdd, Nat.reduceMul, Nat.reduceSub, Int.reduceToNat, reduceCtorEq, branch_decide, branch_not, branch_beq, branch_bne, Int.reduceAdd, Int.reduceEq, Int.reduceLE, Int.reduceLT, Nat.reduceLT, Nat.reduceLeDiff, false_imp_iff, true_imp_iff]
    · obtain rfl : j = (ix W i).length := by omega
      rw [hpick_none hi k2] at g5
      repeat (with_reducible refine And.intro (by omega) ?_)
      refine lpK_normal (i + 1, s, out ++ [-1], oc2) [0, 1, 2, 3, 4] ⟨by simp only; omega, by simp only [List.length_append, List.length_cons, List.length_nil]; omega, by simp only [List.length_append, List.length_cons, List.length_nil]; omega, g4, g5⟩ (by simp only; omega) (by kernel_rfl) ?_ ?_
      · simp only [push_cast, ↓branch_true, ↓branch_false, Nat.reduceBEq, Nat.reduceAdd, Nat.reduceMul, Nat.reduceSub, Int.reduceToNat, reduceCtorEq, branch_decide, branch_not, branch_beq, branch_bne, Int.reduceAdd, Int.reduceEq, Int.reduceLE, Int.reduceLT, Nat.reduceLT, Nat.reduceLeDiff, false_imp_iff, true_imp_iff, List.length_append]
        try trivial
      · simp only [push_cast, ↓branch_true, ↓branch_false, Nat.reduceBEq, Nat.reduceAdd, Nat.reduceMul, Nat.reduceSub, Int.reduceToNat, reduceCtorEq, branch_decide, branch_not, branch_beq, branch_bne, Int.reduceAdd, Int.reduceEq, Int.reduceLE, Int.reduceLT, Nat.reduceLT, Nat.reduceLeDiff, false_imp_iff, true_imp_iff, List.length_append]
        try trivial
  · obtain rfl : i = W.length := by omega
    rw [List.drop_length, hpick, List.append_nil] at g5
    subst g5
    refine ⟨by omega, by omega, _, _, [0, 1, 4], ?_, by kernel_rfl, ?_, oc, g3, rfl, rfl⟩
    · simp only [push_cast, ↓branch_true, ↓branch_false, Nat.reduceBEq, Nat.reduceAdd, Nat.reduceMul, Nat.reduceSub, Int.reduceToNat, reduceCtorEq, branch_decide, branch_not, branch_beq, branch_bne, Int.reduceAdd, Int.reduceEq, Int.reduceLE, Int.reduceLT, Nat.reduceLT, Nat.reduceLeDiff, false_imp_iff, true_imp_iff]
      rw [show bk W 0 = bst W 0 from bk_at (i := 0) (s := 0) (by decide)]
    · simp only [push_cast, ↓branch_true, ↓branch_false, Nat.reduceBEq, Nat.reduceAdd, Nat.reduceMul, Nat.reduceSub, Int.reduceToNat, reduceCtorEq, branch_decide, branch_not, branch_beq, branch_bne, Int.reduceAdd, Int.reduceEq, Int.reduceLE, Int.reduceLT, Nat.reduceLT, Nat.reduceLeDiff, false_imp_iff, true_imp_iff]
end Go.Proofs.Ytmmabnoemckdiaa
