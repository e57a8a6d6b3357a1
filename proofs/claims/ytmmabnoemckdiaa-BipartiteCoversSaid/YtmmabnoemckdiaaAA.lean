/- Contract: the reference's Cover. -/
import Derived.Test.YtmmabnoemckdiaaP
import Derived.Test.YtmmabnoemckdiaaY
set_option maxRecDepth 100000
set_option linter.unusedSimpArgs false
set_option linter.unusedVariables false
namespace Go.Proofs.Ytmmabnoemckdiaa
open Go.RowKit Bip
def rK (T : Nat → Nat → Bool) (O : List Int) (q j : Nat) : Bool := (O.take q).any fun x => T x.toNat j
theorem rK_succ {T : Nat → Nat → Bool} {O : List Int} {q : Nat} (hq : q < O.length) (j : Nat) : rK T O (q + 1) j = (rK T O q j || T (ix O q).toNat j) := by
  unfold rK
  rw [take_snoc hq, List.any_append]
  simp
/-- Row q up to place k. -/
def rK2 (T : Nat → Nat → Bool) (O : List Int) (q k j : Nat) : Bool := bif decide (j < k) then rK T O (q + 1) j else rK T O q j
theorem rK2_at (T : Nat → Nat → Bool) (O : List Int) (q k : Nat) : rK2 T O q k k = rK T O q k := by simp [rK2]
theorem rK2_succ {T : Nat → Nat → Bool} {O : List Int} {q : Nat} (hq : q < O.length) (k j : Nat) : rK2 T O q (k + 1) j = bif j == k then (rK T O q k || T (ix O q).toNat k) else rK2 T O q k j := by
  unfold rK2
  by_cases e : j = k
  · subst e
    simp [rK_succ hq]
  · have h1 : (j == k) = false := by simpa using e
    rw [h1, cond_false, show decide (j < k + 1) = decide (j < k) by rw [decide_eq_decide]; omega]
theorem rK_all (N M : Nat) (T : Nat → Nat → Bool) (j : Nat) : rK T (openL N M T N) (openL N M T N).length j = rgt N M T j := by
  unfold rK
  rw [List.take_length, Bool.eq_iff_iff, List.any_eq_true]
  constructor
  · rintro ⟨x, h1, h2⟩
    obtain ⟨i, rfl, h3, h4⟩ := (markL_mem (f := opn N M T) (n := N)).1 h1
    exact rgt_yes h3 h4 (by simpa using h2)
  · intro h
    obtain ⟨i, h1, h2, h3⟩ := rgt_of h
    exact ⟨(i : Int), (markL_mem (f := opn N M T) (n := N)).2 ⟨i, rfl, h1, h2⟩, by simpa using h3⟩
def clK (N M : Nat) (T : Nat → Nat → Bool) (i k : Nat) : Bool := (List.range k).any fun j => T i j && !rgt N M T j
theorem clK_succ (N M : Nat) (T : Nat → Nat → Bool) (i k : Nat) : clK N M T i (k + 1) = (clK N M T i k || (T i k && !rgt N M T k)) := by
  unfold clK
  rw [List.range_succ, List.any_append]
  simp
theorem openL_mem {N M : Nat} {T : Nat → Nat → Bool} {q : Nat} (hq : q < (openL N M T N).length) : 0 ≤ ix (openL N M T N) q ∧ (ix (openL N M T N) q).toNat < N := by
  obtain ⟨i, h1, h2, _⟩ := (markL_mem (f := opn N M T) (n := N)).1 (ix_mem hq)
  have h1 : ix (openL N M T N) q = i := h1
  omega
set_option maxHeartbeats 4000000 in
theorem rcover_sp (l : List Ed) (N M c : Nat) (hN : N ≤ 60) (hM : M ≤ 60) (hl2 : l.length ≤ 1000) (hve : ∀ e ∈ l, inE N M e = true) : Sp Try.prog 35 [.v (.int .i64 N), .v (.int .i64 M), .s 0 0 0 l.length c 2] [rEd l]
    (fun r H => ∃ c1 c2, (markL (lft N M (tab l)) N).length ≤ c1 ∧ (markL (rgt N M (tab l)) M).length ≤ c2 ∧ r = .t [.s 1 0 0 (markL (lft N M (tab l)) N).length c1 1, .s 2 0 0 (markL (rgt N M (tab l)) M).length c2 1] ∧ H = [rEd l, rIO (markL (lft N M (tab l)) N) c1, rIO (markL (rgt N M (tab l)) M) c2]) := by
  refine sp_weak ?_
  refine sp_of_ex true [] mixed Try.call35 Try.func35 rfl Try.ntmps35 Try.results35 (by decide +kernel) rfl ?_
  simp only [push_cast, ↓branch_true, ↓branch_false, Nat.reduceBEq, Nat.reduceAdd, Nat.reduceMul, Nat.reduceSub, Int.reduceToNat, reduceCtorEq, branch_decide, branch_not, branch_beq, branch_bne, Int.reduceAdd, Int.reduceEq, Int.reduceLE, Int.reduceLT, Nat.reduceLT, Nat.reduceLeDiff, false_imp_iff, true_imp_iff]
  refine sp_at (table_sp l N M c hN hM hl2 hve) [0] rfl ?_ ?_ ?_
  · simp only [push_cast, ↓branch_true, ↓branch_false, Nat.reduceBEq, Nat.reduceAdd, Nat.reduceMul, Nat.reduceSub, Int.reduceToNat, reduceCtorEq, branch_decide, branch_not, branch_beq, branch_bne, Int.reduceAdd, Int.reduceEq, Int.reduceLE, Int.reduceLT, Nat.reduceLT, Nat.reduceLeDiff, false_imp_iff, true_imp_iff]
    try trivial
  · simp only [push_cast, ↓branch_true, ↓branch_false, Nat.reduceBEq, Nat.reduceAdd, Nat.reduceMul, Nat.reduceSub, Int.reduceToNat, reduceCtorEq, branch_decide, branch_not, branch_beq, branch_bne, Int.reduceAdd, Int.reduceEq, Int.reduceLE, Int.reduceLT, Nat.reduceLT, Nat.reduceLeDiff, false_imp_iff, true_imp_iff]
    try trivial
  rintro _ _ ⟨oc, hoc, rfl, rfl⟩
  simp only [push_cast, ↓branch_true, ↓branch_false, Nat.reduceBEq, Nat.reduceAdd, Nat.reduceMul, Nat.reduceSub, Int.reduceToNat, reduceCtorEq, branch_decide, branch_not, branch_beq, branch_bne, Int.reduceAdd, Int.reduceEq, Int.reduceLE, Int.reduceLT, Nat.reduceLT, Nat.reduceLeDiff, false_imp_iff, true_imp_iff]
  repeat (with_reducible refine And.intro (by omega) ?_)
  refine sp_at (ropen_sp l N M c hN hM hl2 hve) [0] rfl ?_ ?_ ?_
  · simp only [push_cast, ↓branch_true, ↓branch_false, Nat.reduceBEq, Nat.reduceAdd, Nat.reduceMul, Nat.reduceSub, Int.reduceToNat, reduceCtorEq, branch_decide, branch_not, branch_beq, branch_bne, Int.reduceAdd, Int.reduceEq, Int.reduceLE, Int.reduceLT, Nat.reduceLT, Nat.reduceLeDiff, false_imp_iff, true_imp_iff]
    try trivial
  · simp only [push_cast, ↓branch_true, ↓branch_false, Nat.reduceBEq, Nat.reduceAdd, Nat.reduceMul, Nat.reduceSub, Int.reduceToNat, reduceCtorEq, branch_decide, branch_not, branch_beq, branch_bne, Int.reduceAdd, Int.reduceEq, Int.reduceLE, Int.reduceLT, Nat.reduceLT, Nat.reduceLeDiff, false_imp_iff, true_imp_iff]
    try trivial
  rintro _ _ ⟨pc, hpc, rfl, rfl⟩
  simp only [push_cast, ↓branch_true, ↓branch_false, Nat.reduceBEq, Nat.reduceAdd, Nat.reduceMul, Nat.reduceSub, Int.reduceToNat, reduceCtorEq, branch_decide, branch_not, branch_beq, branch_bne, Int.reduceAdd, Int.reduceEq, Int.reduceLE, Int.reduceLT, Nat.reduceLT, Nat.reduceLeDiff, false_imp_iff, true_imp_iff]
  repeat (with_reducible refine And.intro (by omega) ?_)
  have hol := openL_len N M N (tab l)
  have hr2 := fun q (h : q < (openL N M (tab l) N).length) => rK_succ (T := tab l) h
  have hrs := fun q (h : q < (openL N M (tab l) N).length) => rK2_succ (T := tab l) h
  have hra := rK_all N M (tab l)
  have hom := fun q => openL_mem (N := N) (M := M) (T := tab l) (q := q)
  generalize openL N M (tab l) N = O at *
  refine tr_loop mixed (by kernel_rfl) (fun (i : Nat) => [(11, .v (.int .i64 i)), (10, .s 4 0 0 M M 1), (9, .s 3 0 0 O.length pc 1), (8, .s 1 0 0 N oc 1), (0, .v (.int .i64 N)), (1, .v (.int .i64 M))])
    (fun i => [rEd l, oTo 2 N M oc, oTg N M (tab l), rIO O pc, oB M M (rK (tab l) O i)]) (fun i => i ≤ O.length) (fun i => O.length - i) 0 (Nat.zero_le _) (Mt.wk (rl := [0, 1, 2, 3, 4]) ⟨by kernel_rfl, ?_, ?_⟩) ?_
  · simp only [push_cast, ↓branch_true, ↓branch_false, Nat.reduceBEq, Nat.reduceAdd, Nat.reduceMul, Nat.reduceSub, Int.reduceToNat, reduceCtorEq, branch_decide, branch_not, branch_beq, branch_bne, Int.reduceAdd, Int.reduceEq, Int.reduceLE, Int.reduceLT, Nat.reduceLT, Nat.reduceLeDiff, false_imp_iff, true_imp_iff]
    try trivial
  · simp only [push_cast, ↓branch_true, ↓branch_false, Nat.reduceBEq, Nat.reduceAdd, Nat.reduceMul, Nat.reduceSub, Int.reduceToNat, reduceCtorEq, branch_decide, branch_not, branch_beq, branch_bne, Int.reduceAdd, Int.reduceEq, Int.reduceLE, Int.reduceLT, Nat.reduceLT, Nat.reduceLeDiff, false_imp_iff, true_imp_iff]
    exact fun _ _ _ _ => rfl
  intro i hi
  simp only [push_cast, ↓branch_true, ↓branch_false, Nat.reduceBEq, Nat.reduceAdd, Nat.reduceMul, Nat.reduceSub, Int.reduceToNat, reduceCtorEq, branch_decide, branch_not, branch_beq, branch_bne, Int.reduceAdd, Int.reduceEq, Int.reduceLE, Int.reduceLT, Nat.reduceLT, Nat.reduceLeDiff, false_imp_iff, true_imp_iff]
  refine ⟨fun h0 => ?_, fun h0 => ?_⟩
  · have hiO : i < O.length := by omega
    have hx := hom i hiO
    refine tr_loop mixed (by kernel_rfl) (fun (k : Nat) => [(12, .v (.int .i64 k)), (11, .v (.int .i64 i)), (10, .s 4 0 0 M M 1), (9, .s 3 0 0 O.length pc 1), (8, .s 1 0 0 N oc 1), (0, .v (.int .i64 N)), (1, .v (.int .i64 M))])
      (fun k => [rEd l, oTo 2 N M oc, oTg N M (tab l), rIO O pc, oB M M (rK2 (tab l) O i k)]) (fun k => k ≤ M) (fun k => M - k) 0 (Nat.zero_le _) (Mt.wk (rl := [0, 1, 2, 3, 4]) ⟨by kernel_rfl, ?_, ?_⟩) ?_
    · simp only [push_cast, ↓branch_true, ↓branch_false, Nat.reduceBEq, Nat.reduceAdd, Nat.reduceMul, Nat.reduceSub, Int.reduceToNat, reduceCtorEq, branch_decide, branch_not, branch_beq, branch_bne, Int.reduceAdd, Int.reduceEq, Int.reduceLE, Int.reduceLT, Nat.reduceLT, Nat.reduceLeDiff, false_imp_iff, true_imp_iff]
      try trivial
    · simp only [push_cast, ↓branch_true, ↓branch_false, Nat.reduceBEq, Nat.reduceAdd, Nat.reduceMul, Nat.reduceSub, Int.reduceToNat, reduceCtorEq, branch_decide, branch_not, branch_beq, branch_bne, Int.reduceAdd, Int.reduceEq, Int.reduceLE, Int.reduceLT, Nat.reduceLT, Nat.reduceLeDiff, false_imp_iff, true_imp_iff]
      exact fun _ _ _ _ => rfl
    intro k hk
    have hat := rK2_at (tab l) O i k
    have hs := hrs i hiO k
    simp only [push_cast, ↓branch_true, ↓branch_false, Nat.reduceBEq, Nat.reduceAdd, Nat.reduceMul, Nat.reduceSub, Int.reduceToNat, reduceCtorEq, branch_decide, branch_not, branch_beq, branch_bne, Int.reduceAdd, Int.reduceEq, Int.reduceLE, Int.reduceLT, Nat.reduceLT, Nat.reduceLeDiff, false_imp_iff, true_imp_iff]
    refine ⟨fun h1 => ?_, fun h1 => ?_⟩
    · have hkM : k < M := by omega
      repeat (with_reducible refine And.intro (by omega) ?_)
      rw [hat]
      cases hb : rK (tab l) O i k with
      | true =>
        rw [hb, Bool.true_or] at hs
        simp only [push_cast, ↓branch_true, ↓branch_false, Nat.reduceBEq, Nat.reduceAdd, Nat.reduceMul, Nat.reduceSub, Int.reduceToNat, reduceCtorEq, branch_decide, branch_not, branch_beq, branch_bne, Int.reduceAdd, Int.reduceEq, Int.reduceLE, Int.reduceLT, Nat.reduceLT, Nat.reduceLeDiff, false_imp_iff, true_imp_iff]
        repeat (with_reducible refine And.intro (by omega) ?_)
        refine lpK_normal (k + 1) [0, 1, 2, 3, 4] (by omega) (by omega) (by kernel_rfl) ?_ ?_
        · simp only [push_cast, ↓branch_true, ↓branch_false, Nat.reduceBEq, Nat.reduceAdd, Nat.reduceMul, Nat.reduceSub, Int.reduceToNat, reduceCtorEq, branch_decide, branch_not, branch_beq, branch_bne, Int.reduceAdd, Int.reduceEq, Int.reduceLE, Int.reduceLT, Nat.reduceLT, Nat.reduceLeDiff, false_imp_iff, true_imp_iff]
        · simp only [push_cast, ↓branch_true, ↓branch_false, Nat.reduceBEq, Nat.reduceAdd, Nat.reduceMul, Nat.reduceSub, Int.reduceToNat, reduceCtorEq, branch_decide, branch_not, branch_beq, branch_bne, Int.reduceAdd, Int.reduceEq, Int.reduceLE, Int.reduceLT, Nat.reduceLT, Nat.reduceLeDiff, false_imp_iff, true_imp_iff, hs]
          exact fun _ hi1 _ _ => upB hi1
      | false =>
        rw [hb, Bool.false_or] at hs
        simp only [push_cast, ↓branch_true, ↓branch_false, Nat.reduceBEq, Nat.reduceAdd, Nat.reduceMul, Nat.reduceSub, Int.reduceToNat, reduceCtorEq, branch_decide, branch_not, branch_beq, branch_bne, Int.reduceAdd, Int.reduceEq, Int.reduceLE, Int.reduceLT, Nat.reduceLT, Nat.reduceLeDiff, false_imp_iff, true_imp_iff]
        repeat (with_reducible refine And.intro (by omega) ?_)
        refine lpK_normal (k + 1) [0, 1, 2, 3, 4] (by omega) (by omega) (by kernel_rfl) ?_ ?_
        · simp only [push_cast, ↓branch_true, ↓branch_false, Nat.reduceBEq, Nat.reduceAdd, Nat.reduceMul, Nat.reduceSub, Int.reduceToNat, reduceCtorEq, branch_decide, branch_not, branch_beq, branch_bne, Int.reduceAdd, Int.reduceEq, Int.reduceLE, Int.reduceLT, Nat.reduceLT, Nat.reduceLeDiff, false_imp_iff, true_imp_iff]
        · simp only [push_cast, ↓branch_true, ↓branch_false, Nat.reduceBEq, Nat.reduceAdd, Nat.reduceMul, Nat.reduceSub, Int.reduceToNat, reduceCtorEq, branch_decide, branch_not, branch_beq, branch_bne, Int.reduceAdd, Int.reduceEq, Int.reduceLE, Int.reduceLT, Nat.reduceLT, Nat.reduceLeDiff, false_imp_iff, true_imp_iff, hs]
          exact fun _ hi1 _ _ => upB hi1
    · obtain rfl : k = M := by omega
      repeat (with_reducible refine And.intro (by omega) ?_)
      refine lpK_normal (i + 1) [0, 1, 2, 3, 4] (by omega) (by omega) (by kernel_rfl) ?_ ?_
      · simp only [push_cast, ↓branch_true, ↓branch_false, Nat.reduceBEq, Nat.reduceAdd, Nat.reduceMul, Nat.reduceSub, Int.reduceToNat, reduceCtorEq, branch_decide, branch_not, branch_beq, branch_bne, Int.reduceAdd, Int.reduceEq, Int.reduceLE, Int.reduceLT, Nat.reduceLT, Nat.reduceLeDiff, false_imp_iff, true_imp_iff]
      · simp only [push_cast, ↓branch_true, ↓branch_false, Nat.reduceBEq, Nat.reduceAdd, Nat.reduceMul, Nat.reduceSub, Int.reduceToNat, reduceCtorEq, branch_decide, branch_not, branch_beq, branch_bne, Int.reduceAdd, Int.reduceEq, Int.reduceLE, Int.reduceLT, Nat.reduceLT, Nat.reduceLeDiff, false_imp_iff, true_imp_iff]
        exact fun _ _ j hj => by simp [rK2, hj]
  obtain rfl : i = O.length := by omega
  refine tr_loop mixed (by kernel_rfl) (fun (x : Nat × Nat) => [(15, .v (.int .i64 x.1)), (14, .v (.slice none 0 0)), (13, .s 5 0 0 (markL (lft N M (tab l)) x.1).length x.2 1), (10, .s 4 0 0 M M 1), (8, .s 1 0 0 N oc 1), (0, .v (.int .i64 N)), (1, .v (.int .i64 M))])
    (fun x => [rEd l, oTo 2 N M oc, oTg N M (tab l), rIO O pc, oB M M (rgt N M (tab l)), rIO (markL (lft N M (tab l)) x.1) x.2]) (fun x => x.1 ≤ N ∧ (markL (lft N M (tab l)) x.1).length ≤ x.2) (fun x => N - x.1) (0, 0) ⟨Nat.zero_le _, Nat.le_refl _⟩ (Mt.wk (rl := [0, 1, 2, 3, 4, 1000]) ⟨by kernel_rfl, ?_, ?_⟩) ?_
  · simp only [push_cast, ↓branch_true, ↓branch_false, Nat.reduceBEq, Nat.reduceAdd, Nat.reduceMul, Nat.reduceSub, Int.reduceToNat, reduceCtorEq, branch_decide, branch_not, branch_beq, branch_bne, Int.reduceAdd, Int.reduceEq, Int.reduceLE, Int.reduceLT, Nat.reduceLT, Nat.reduceLeDiff, false_imp_iff, true_imp_iff]
    try exact rfl
  · simp only [push_cast, ↓branch_true, ↓branch_false, Nat.reduceBEq, Nat.reduceAdd, Nat.reduceMul, Nat.reduceSub, Int.reduceToNat, reduceCtorEq, branch_decide, branch_not, branch_beq, branch_bne, Int.reduceAdd, Int.reduceEq, Int.reduceLE, Int.reduceLT, Nat.reduceLT, Nat.reduceLeDiff, false_imp_iff, true_imp_iff, hra]
    try exact Or.inl rfl
  rintro ⟨i, ac⟩ ⟨g1, g2⟩
  simp only at g1 g2
  have hml := markL_len (lft N M (tab l)) i
  have hms := markL_succ (lft N M (tab l)) i
  simp only [push_cast, ↓branch_true, ↓branch_false, Nat.reduceBEq, Nat.reduceAdd, Nat.reduceMul, Nat.reduceSub, Int.reduceToNat, reduceCtorEq, branch_decide, branch_not, branch_beq, branch_bne, Int.reduceAdd, Int.reduceEq, Int.reduceLE, Int.reduceLT, Nat.reduceLT, Nat.reduceLeDiff, false_imp_iff, true_imp_iff]
  refine ⟨fun h0 => ?_, fun h0 => ?_⟩
  · have hiN : i < N := by omega
    refine tr_loop mixed (by kernel_rfl) (fun (k : Nat) => [(17, .v (.int .i64 k)), (16, .v (.bool (clK N M (tab l) i k))), (15, .v (.int .i64 i)), (14, .v (.slice none 0 0)), (13, .s 5 0 0 (markL (lft N M (tab l)) i).length ac 1), (10, .s 4 0 0 M M 1), (8, .s 1 0 0 N oc 1), (0, .v (.int .i64 N)), (1, .v (.int .i64 M))])
      (fun k => [rEd l, oTo 2 N M oc, oTg N M (tab l), rIO O pc, oB M M (rgt N M (tab l)), rIO (markL (lft N M (tab l)) i) ac]) (fun k => k ≤ M) (fun k => M - k) 0 (Nat.zero_le _) (Mt.wk (rl := [0, 1, 2, 3, 4, 5]) ⟨by kernel_rfl, ?_, ?_⟩) ?_
    · simp only [push_cast, ↓branch_true, ↓branch_false, Nat.reduceBEq, Nat.reduceAdd, Nat.reduceMul, Nat.reduceSub, Int.reduceToNat, reduceCtorEq, branch_decide, branch_not, branch_beq, branch_bne, Int.reduceAdd, Int.reduceEq, Int.reduceLE, Int.reduceLT, Nat.reduceLT, Nat.reduceLeDiff, false_imp_iff, true_imp_iff]
      try exact rfl
    · simp only [push_cast, ↓branch_true, ↓branch_false, Nat.reduceBEq, Nat.reduceAdd, Nat.reduceMul, Nat.reduceSub, Int.reduceToNat, reduceCtorEq, branch_decide, branch_not, branch_beq, branch_bne, Int.reduceAdd, Int.reduceEq, Int.reduceLE, Int.reduceLT, Nat.reduceLT, Nat.reduceLeDiff, false_imp_iff, true_imp_iff]
      try trivial
    intro k hk
    have hcs := clK_succ N M (tab l) i k
    simp only [push_cast, ↓branch_true, ↓branch_false, Nat.reduceBEq, Nat.reduceAdd, Nat.reduceMul, Nat.reduceSub, Int.reduceToNat, reduceCtorEq, branch_decide, branch_not, branch_beq, branch_bne, Int.reduceAdd, Int.reduceEq, Int.reduceLE, Int.reduceLT, Nat.reduceLT, Nat.reduceLeDiff, false_imp_iff, true_imp_iff]
    refine ⟨fun h1 => ?_, fun h1 => ?_⟩
    · have hkM : k < M := by omega
      repeat (with_reducible refine And.intro (by omega) ?_)
      cases hb : clK N M (tab l) i k with
      | true =>
        rw [hb, Bool.true_or] at hcs
        simp only [push_cast, ↓branch_true, ↓branch_false, Nat.reduceBEq, Nat.reduceAdd, Nat.reduceMul, Nat.reduceSub, Int.reduceToNat, reduceCtorEq, branch_decide, branch_not, branch_beq, branch_bne, Int.reduceAdd, Int.reduceEq, Int.reduceLE, Int.reduceLT, Nat.reduceLT, Nat.reduceLeDiff, false_imp_iff, true_imp_iff]
        repeat (with_reducible refine And.intro (by omega) ?_)
        refine lpK_normal (k + 1) [0, 1, 2, 3, 4, 5] (by omega) (by omega) (by kernel_rfl) ?_ ?_
        · simp only [push_cast, ↓branch_true, ↓branch_false, Nat.reduceBEq, Nat.reduceAdd, Nat.reduceMul, Nat.reduceSub, Int.reduceToNat, reduceCtorEq, branch_decide, branch_not, branch_beq, branch_bne, Int.reduceAdd, Int.reduceEq, Int.reduceLE, Int.reduceLT, Nat.reduceLT, Nat.reduceLeDiff, false_imp_iff, true_imp_iff, hcs]
        · simp only [push_cast, ↓branch_true, ↓branch_false, Nat.reduceBEq, Nat.reduceAdd, Nat.reduceMul, Nat.reduceSub, Int.reduceToNat, reduceCtorEq, branch_decide, branch_not, branch_beq, branch_bne, Int.reduceAdd, Int.reduceEq, Int.reduceLE, Int.reduceLT, Nat.reduceLT, Nat.reduceLeDiff, false_imp_iff, true_imp_iff]
      | false =>
        rw [hb, Bool.false_or] at hcs
        simp only [push_cast, ↓branch_true, ↓branch_false, Nat.reduceBEq, Nat.reduceAdd, Nat.reduceMul, Nat.reduceSub, Int.reduceToNat, reduceCtorEq, branch_decide, branch_not, branch_beq, branch_bne, Int.reduceAdd, Int.reduceEq, Int.reduceLE, Int.reduceLT, Nat.reduceLT, Nat.reduceLeDiff, false_imp_iff, true_imp_iff]
        repeat (with_reducible refine And.intro (by omega) ?_)
        cases hE : tab l i k with
        | true =>
          rw [hE, Bool.true_and] at hcs
          simp only [push_cast, ↓branch_true, ↓branch_false, Nat.reduceBEq, Nat.reduceAdd, Nat.reduceMul, Nat.reduceSub, Int.reduceToNat, reduceCtorEq, branch_decide, branch_not, branch_beq, branch_bne, Int.reduceAdd, Int.reduceEq, Int.reduceLE, Int.reduceLT, Nat.reduceLT, Nat.reduceLeDiff, false_imp_iff, true_imp_iff]
          repeat (with_reducible refine And.intro (by omega) ?_)
          refine lpK_normal (k + 1) [0, 1, 2, 3, 4, 5] (by omega) (by omega) (by kernel_rfl) ?_ ?_
          · simp only [push_cast, ↓branch_true, ↓branch_false, Nat.reduceBEq, Nat.reduceAdd, Nat.reduceMul, Nat.reduceSub, Int.reduceToNat, reduceCtorEq, branch_decide, branch_not, branch_beq, branch_bne, Int.reduceAdd, Int.reduceEq, Int.reduceLE, Int.reduceLT, Nat.reduceLT, Nat.reduceLeDiff, false_imp_iff, true_imp_iff, hcs]
          · simp only [push_cast, ↓branch_true, ↓branch_false, Nat.reduceBEq, Nat.reduceAdd, Nat.reduceMul, Nat.reduceSub, Int.reduceToNat, reduceCtorEq, branch_decide, branch_not, branch_beq, branch_bne, Int.reduceAdd, Int.reduceEq, Int.reduceLE, Int.reduceLT, Nat.reduceLT, Nat.reduceLeDiff, false_imp_iff, true_imp_iff]
        | false =>
          rw [hE, Bool.false_and] at hcs
          simp only [push_cast, ↓branch_true, ↓branch_false, Nat.reduceBEq, Nat.reduceAdd, Nat.reduceMul, Nat.reduceSub, Int.reduceToNat, reduceCtorEq, branch_decide, branch_not, branch_beq, branch_bne, Int.reduceAdd, Int.reduceEq, Int.reduceLE, Int.reduceLT, Nat.reduceLT, Nat.reduceLeDiff, false_imp_iff, true_imp_iff]
          repeat (with_reducible refine And.intro (by omega) ?_)
          refine lpK_normal (k + 1) [0, 1, 2, 3, 4, 5] (by omega) (by omega) (by kernel_rfl) ?_ ?_
          · simp only [push_cast, ↓branch_true, ↓branch_false, Nat.reduceBEq, Nat.reduceAdd, Nat.reduceMul, Nat.reduceSub, Int.reduceToNat, reduceCtorEq, branch_decide, branch_not, branch_beq, branch_bne, Int.reduceAdd, Int.reduceEq, Int.reduceLE, Int.reduceLT, Nat.reduceLT, Nat.reduceLeDiff, false_imp_iff, true_imp_iff, hcs]
          · simp only [push_cast, ↓branch_true, ↓branch_false, Nat.reduceBEq, Nat.reduceAdd, Nat.reduceMul, Nat.reduceSub, Int.reduceToNat, reduceCtorEq, branch_decide, branch_not, branch_beq, branch_bne, Int.reduceAdd, Int.reduceEq, Int.reduceLE, Int.reduceLT, Nat.reduceLT, Nat.reduceLeDiff, false_imp_iff, true_imp_iff]
    · obtain rfl : k = M := by omega
      have hcl : clK N k (tab l) i k = lft N k (tab l) i := rfl
      rw [hcl]
      cases hb : lft N k (tab l) i with
      | true =>
        rw [hb, cond_true] at hms
        simp only [push_cast, ↓branch_true, ↓branch_false, Nat.reduceBEq, Nat.reduceAdd, Nat.reduceMul, Nat.reduceSub, Int.reduceToNat, reduceCtorEq, branch_decide, branch_not, branch_beq, branch_bne, Int.reduceAdd, Int.reduceEq, Int.reduceLE, Int.reduceLT, Nat.reduceLT, Nat.reduceLeDiff, false_imp_iff, true_imp_iff]
        repeat (with_reducible refine And.intro (by omega) ?_)
        refine Or.inr ⟨by omega, by omega, fun cap hcap => ?_⟩
        repeat (with_reducible refine And.intro (by omega) ?_)
        refine lpK_normal (i + 1, cap) [0, 1, 2, 3, 4, 7] ⟨by simp only; omega, by simp only [hms, List.length_append, List.length_cons, List.length_nil]; omega⟩ (by simp only; omega) (by kernel_rfl) ?_ ?_
        · simp only [push_cast, ↓branch_true, ↓branch_false, Nat.reduceBEq, Nat.reduceAdd, Nat.reduceMul, Nat.reduceSub, Int.reduceToNat, reduceCtorEq, branch_decide, branch_not, branch_beq, branch_bne, Int.reduceAdd, Int.reduceEq, Int.reduceLE, Int.reduceLT, Nat.reduceLT, Nat.reduceLeDiff, false_imp_iff, true_imp_iff, hms, List.length_append]
          try trivial
        · simp only [push_cast, ↓branch_true, ↓branch_false, Nat.reduceBEq, Nat.reduceAdd, Nat.reduceMul, Nat.reduceSub, Int.reduceToNat, reduceCtorEq, branch_decide, branch_not, branch_beq, branch_bne, Int.reduceAdd, Int.reduceEq, Int.reduceLE, Int.reduceLT, Nat.reduceLT, Nat.reduceLeDiff, false_imp_iff, true_imp_iff, hms, List.length_append]
          exact fun _ _ q hq => app_end rfl hq
      | false =>
        rw [hb, cond_false] at hms
        simp only [push_cast, ↓branch_true, ↓branch_false, Nat.reduceBEq, Nat.reduceAdd, Nat.reduceMul, Nat.reduceSub, Int.reduceToNat, reduceCtorEq, branch_decide, branch_not, branch_beq, branch_bne, Int.reduceAdd, Int.reduceEq, Int.reduceLE, Int.reduceLT, Nat.reduceLT, Nat.reduceLeDiff, false_imp_iff, true_imp_iff]
        repeat (with_reducible refine And.intro (by omega) ?_)
        refine lpK_normal (i + 1, ac) [0, 1, 2, 3, 4, 5] ⟨by simp only; omega, by simp only [hms]; omega⟩ (by simp only; omega) (by kernel_rfl) ?_ ?_
        · simp only [push_cast, ↓branch_true, ↓branch_false, Nat.reduceBEq, Nat.reduceAdd, Nat.reduceMul, Nat.reduceSub, Int.reduceToNat, reduceCtorEq, branch_decide, branch_not, branch_beq, branch_bne, Int.reduceAdd, Int.reduceEq, Int.reduceLE, Int.reduceLT, Nat.reduceLT, Nat.reduceLeDiff, false_imp_iff, true_imp_iff, hms]
        · simp only [push_cast, ↓branch_true, ↓branch_false, Nat.reduceBEq, Nat.reduceAdd, Nat.reduceMul, Nat.reduceSub, Int.reduceToNat, reduceCtorEq, branch_decide, branch_not, branch_beq, branch_bne, Int.reduceAdd, Int.reduceEq, Int.reduceLE, Int.reduceLT, Nat.reduceLT, Nat.reduceLeDiff, false_imp_iff, true_imp_iff, hms]
  · obtain rfl : i = N := by omega
    refine tr_loop mixed (by kernel_rfl) (fun (x : Nat × Nat) => [(18, .v (.int .i64 x.1)), (14, .s 6 0 0 (markL (rgt i M (tab l)) x.1).length x.2 1), (13, .s 5 0 0 (markL (lft i M (tab l)) i).length ac 1), (10, .s 4 0 0 M M 1), (1, .v (.int .i64 M))])
      (fun x => [rEd l, oTo 2 i M oc, oTg i M (tab l), rIO O pc, oB M M (rgt i M (tab l)), rIO (markL (lft i M (tab l)) i) ac, rIO (markL (rgt i M (tab l)) x.1) x.2]) (fun x => x.1 ≤ M ∧ (markL (rgt i M (tab l)) x.1).length ≤ x.2) (fun x => M - x.1) (0, 0) ⟨Nat.zero_le _, Nat.le_refl _⟩ (Mt.wk (rl := [0, 1, 2, 3, 4, 5, 1000]) ⟨by kernel_rfl, ?_, ?_⟩) ?_
    · simp only [push_cast, ↓branch_true, ↓branch_false, Nat.reduceBEq, Nat.reduceAdd, Nat.reduceMul, Nat.reduceSub, Int.reduceToNat, reduceCtorEq, branch_decide, branch_not, branch_beq, branch_bne, Int.reduceAdd, Int.reduceEq, Int.reduceLE, Int.reduceLT, Nat.reduceLT, Nat.reduceLeDiff, false_imp_iff, true_imp_iff]
      try exact rfl
    · simp only [push_cast, ↓branch_true, ↓branch_false, Nat.reduceBEq, Nat.reduceAdd, Nat.reduceMul, Nat.reduceSub, Int.reduceToNat, reduceCtorEq, branch_decide, branch_not, branch_beq, branch_bne, Int.reduceAdd, Int.reduceEq, Int.reduceLE, Int.reduceLT, Nat.reduceLT, Nat.reduceLeDiff, false_imp_iff, true_imp_iff]
      try exact Or.inl rfl
    rintro ⟨k, bc⟩ ⟨k1, k2⟩
    simp only at k1 k2
    have hml := markL_len (rgt i M (tab l)) k
    have hms := markL_succ (rgt i M (tab l)) k
    simp only [push_cast, ↓branch_true, ↓branch_false, Nat.reduceBEq, Nat.reduceAdd, Nat.reduceMul, Nat.reduceSub, Int.reduceToNat, reduceCtorEq, branch_decide, branch_not, branch_beq, branch_bne, Int.reduceAdd, Int.reduceEq, Int.reduceLE, Int.reduceLT, Nat.reduceLT, Nat.reduceLeDiff, false_imp_iff, true_imp_iff]
    refine ⟨fun h0 => ?_, fun h0 => ?_⟩
    · have hkM : k < M := by omega
      repeat (with_reducible refine And.intro (by omega) ?_)
      cases hb : rgt i M (tab l) k with
      | true =>
        rw [hb, cond_true] at hms
        simp only [push_cast, ↓branch_true, ↓branch_false, Nat.reduceBEq, Nat.reduceAdd, Nat.reduceMul, Nat.reduceSub, Int.reduceToNat, reduceCtorEq, branch_decide, branch_not, branch_beq, branch_bne, Int.reduceAdd, Int.reduceEq, Int.reduceLE, Int.reduceLT, Nat.reduceLT, Nat.reduceLeDiff, false_imp_iff, true_imp_iff]
        repeat (with_reducible refine And.intro (by omega) ?_)
        refine Or.inr ⟨by omega, by omega, fun cap hcap => ?_⟩
        repeat (with_reducible refine And.intro (by omega) ?_)
        refine lpK_normal (k + 1, cap) [0, 1, 2, 3, 4, 5, 8] ⟨by simp only; omega, by simp only [hms, List.length_append, List.length_cons, List.length_nil]; omega⟩ (by simp only; omega) (by kernel_rfl) ?_ ?_
        · simp only [push_cast, ↓branch_true, ↓branch_false, Nat.reduceBEq, Nat.reduceAdd, Nat.reduceMul, Nat.reduceSub, Int.reduceToNat, reduceCtorEq, branch_decide, branch_not, branch_beq, branch_bne, Int.reduceAdd, Int.reduceEq, Int.reduceLE, Int.reduceLT, Nat.reduceLT, Nat.reduceLeDiff, false_imp_iff, true_imp_iff, hms, List.length_append]
          try trivial
        · simp only [push_cast, ↓branch_true, ↓branch_false, Nat.reduceBEq, Nat.reduceAdd, Nat.reduceMul, Nat.reduceSub, Int.reduceToNat, reduceCtorEq, branch_decide, branch_not, branch_beq, branch_bne, Int.reduceAdd, Int.reduceEq, Int.reduceLE, Int.reduceLT, Nat.reduceLT, Nat.reduceLeDiff, false_imp_iff, true_imp_iff, hms, List.length_append]
          exact fun _ _ q hq => app_end rfl hq
      | false =>
        rw [hb, cond_false] at hms
        simp only [push_cast, ↓branch_true, ↓branch_false, Nat.reduceBEq, Nat.reduceAdd, Nat.reduceMul, Nat.reduceSub, Int.reduceToNat, reduceCtorEq, branch_decide, branch_not, branch_beq, branch_bne, Int.reduceAdd, Int.reduceEq, Int.reduceLE, Int.reduceLT, Nat.reduceLT, Nat.reduceLeDiff, false_imp_iff, true_imp_iff]
        repeat (with_reducible refine And.intro (by omega) ?_)
        refine lpK_normal (k + 1, bc) [0, 1, 2, 3, 4, 5, 6] ⟨by simp only; omega, by simp only [hms]; omega⟩ (by simp only; omega) (by kernel_rfl) ?_ ?_
        · simp only [push_cast, ↓branch_true, ↓branch_false, Nat.reduceBEq, Nat.reduceAdd, Nat.reduceMul, Nat.reduceSub, Int.reduceToNat, reduceCtorEq, branch_decide, branch_not, branch_beq, branch_bne, Int.reduceAdd, Int.reduceEq, Int.reduceLE, Int.reduceLT, Nat.reduceLT, Nat.reduceLeDiff, false_imp_iff, true_imp_iff, hms]
        · simp only [push_cast, ↓branch_true, ↓branch_false, Nat.reduceBEq, Nat.reduceAdd, Nat.reduceMul, Nat.reduceSub, Int.reduceToNat, reduceCtorEq, branch_decide, branch_not, branch_beq, branch_bne, Int.reduceAdd, Int.reduceEq, Int.reduceLE, Int.reduceLT, Nat.reduceLT, Nat.reduceLeDiff, false_imp_iff, true_imp_iff, hms]
    · obtain rfl : k = M := by omega
      refine ⟨_, _, [0, 5, 6], ?_, by kernel_rfl, ?_, ac, bc, g2, k2, rfl, rfl⟩
      · simp only [push_cast, ↓branch_true, ↓branch_false, Nat.reduceBEq, Nat.reduceAdd, Nat.reduceMul, Nat.reduceSub, Int.reduceToNat, reduceCtorEq, branch_decide, branch_not, branch_beq, branch_bne, Int.reduceAdd, Int.reduceEq, Int.reduceLE, Int.reduceLT, Nat.reduceLT, Nat.reduceLeDiff, false_imp_iff, true_imp_iff]
      · simp only [push_cast, ↓branch_true, ↓branch_false, Nat.reduceBEq, Nat.reduceAdd, Nat.reduceMul, Nat.reduceSub, Int.reduceToNat, reduceCtorEq, branch_decide, branch_not, branch_beq, branch_bne, Int.reduceAdd, Int.reduceEq, Int.reduceLE, Int.reduceLT, Nat.reduceLT, Nat.reduceLeDiff, false_imp_iff, true_imp_iff]
end Go.Proofs.Ytmmabnoemckdiaa
