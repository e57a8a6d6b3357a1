/- Contract: the reference's Match. -/
import Derived.Test.YtmmabnoemckdiaaN
set_option maxRecDepth 100000
set_option linter.unusedSimpArgs false
set_option linter.unusedVariables false
namespace Go.Proofs.Ytmmabnoemckdiaa
open Go.RowKit Bip
theorem rest_zero (E : Nat → Nat → Bool) : restE E 0 (fun _ => false) = E := by
  funext i j
  simp [restE]
theorem wo_none (T : Nat → Nat → Bool) (i : Nat) (tk : Nat → Bool) : woE (restE T i tk) (i : Int) (-1) = restE T (i + 1) tk := by
  funext a b
  unfold woE restE
  have h1 : decide ((b : Int) = -1) = false := by simp
  rw [h1]
  by_cases e : a = i
  · subst e
    have h5 : decide (a + 1 ≤ a) = false := by simp
    simp [h5]
  · have h2 : decide ((a : Int) = (i : Int)) = false := by simp; omega
    have h3 : decide (i + 1 ≤ a) = decide (i ≤ a) := by rw [decide_eq_decide]; omega
    rw [h2, h3]
    simp
theorem wo_some (T : Nat → Nat → Bool) (i k : Nat) (tk : Nat → Bool) : woE (restE T i tk) (i : Int) (k : Int) = restE T (i + 1) (upd tk k true) := by
  funext a b
  unfold woE restE upd
  by_cases e : a = i
  · subst e
    have h5 : decide (a + 1 ≤ a) = false := by simp
    simp [h5]
  · have h2 : decide ((a : Int) = (i : Int)) = false := by simp; omega
    have h3 : decide (i + 1 ≤ a) = decide (i ≤ a) := by rw [decide_eq_decide]; omega
    rw [h2, h3]
    by_cases eb : b = k
    · subst eb
      simp
    · have h4 : decide ((b : Int) = (k : Int)) = false := by simp; omega
      have h5 : (b == k) = false := by simp; exact eb
      rw [h4, h5]
      simp
/-- What the reference asks of a right node. -/
def okT (T : Nat → Nat → Bool) (N M i left : Nat) (tk : Nat → Bool) (k : Nat) : Bool := T i k && !tk k && decide (nuT N M (restE T (i + 1) (upd tk k true)) + 1 = left)
def whoOk (T : Nat → Nat → Bool) (N M i left : Nat) (tk : Nat → Bool) (j : Nat) (w : Int) : Prop :=
  (w = -1 ∧ ∀ q, q < j → okT T N M i left tk q = false) ∨ ∃ k, k < M ∧ w = (k : Nat) ∧ okT T N M i left tk k = true ∧ ∀ q, q < k → okT T N M i left tk q = false
theorem find_range {p : Nat → Bool} {k M : Nat} (hk : k < M) (hp : p k = true) (hn : ∀ q, q < k → p q = false) : (List.range M).find? p = some k := by
  rw [List.find?_range_eq_some]
  exact ⟨hp, by simpa using hk, fun q hq => by simp [hn q hq]⟩
theorem whoS {T : Nat → Nat → Bool} {N M i left k : Nat} {tk : Nat → Bool} {out : List Int} (hi : i < N) (hk : k < M) (hp : okT T N M i left tk k = true) (hn : ∀ q, q < k → okT T N M i left tk q = false) :
    out ++ matchS T N M (N - i) i tk left = (out ++ [(k : Int)]) ++ matchS T N M (N - (i + 1)) (i + 1) (upd tk k true) (left - 1) := by
  have e : N - i = (N - (i + 1)) + 1 := by omega
  have hf : pickS T N M i tk left = some k := find_range hk hp hn
  rw [e, matchS, hf]
  simp only [List.append_assoc, List.cons_append, List.nil_append]
theorem whoN {T : Nat → Nat → Bool} {N M i left : Nat} {tk : Nat → Bool} {out : List Int} (hi : i < N) (hn : ∀ q, q < M → okT T N M i left tk q = false) :
    out ++ matchS T N M (N - i) i tk left = (out ++ [-1]) ++ matchS T N M (N - (i + 1)) (i + 1) tk left := by
  have e : N - i = (N - (i + 1)) + 1 := by omega
  have hf : pickS T N M i tk left = none := List.find?_eq_none.2 fun q hq => by
    have := hn q (List.mem_range.1 hq)
    unfold okT at this
    simp [this]
  rw [e, matchS, hf]
  simp only [List.append_assoc, List.cons_append, List.nil_append]
set_option maxHeartbeats 4000000 in
theorem rmatch_sp (l : List Ed) (N M c : Nat) (hN : N ≤ 60) (hM : M ≤ 60) (hl2 : l.length ≤ 1000) (hve : ∀ e ∈ l, inE N M e = true) : Sp Try.prog 25 [.v (.int .i64 N), .v (.int .i64 M), .s 0 0 0 l.length c 2] [rEd l]
    (fun r H => ∃ cap, N ≤ cap ∧ r = .s 1 0 0 N cap 1 ∧ H = [rEd l, rIO (matchT (tab l) N M) cap]) := by
  refine sp_weak ?_
  refine sp_of_ex true [] mixed Try.call25 Try.func25 rfl Try.ntmps25 Try.results25 (by decide +kernel) rfl ?_
  simp only [push_cast, ↓branch_true, ↓branch_false, Nat.reduceBEq, Nat.reduceAdd, Nat.reduceMul, Nat.reduceSub, Int.reduceToNat, reduceCtorEq, branch_decide, branch_not, branch_beq, branch_bne, Int.reduceAdd, Int.reduceEq, Int.reduceLE, Int.reduceLT, Nat.reduceLT, Nat.reduceLeDiff, false_imp_iff, true_imp_iff]
  have hlen := (matchT_ok (tab l) N M).2.2
  refine sp_at (table_sp l N M c hN hM hl2 hve) [0] rfl ?_ ?_ ?_
  · simp only [push_cast, ↓branch_true, ↓branch_false, Nat.reduceBEq, Nat.reduceAdd, Nat.reduceMul, Nat.reduceSub, Int.reduceToNat, reduceCtorEq, branch_decide, branch_not, branch_beq, branch_bne, Int.reduceAdd, Int.reduceEq, Int.reduceLE, Int.reduceLT, Nat.reduceLT, Nat.reduceLeDiff, false_imp_iff, true_imp_iff]
    try trivial
  · simp only [push_cast, ↓branch_true, ↓branch_false, Nat.reduceBEq, Nat.reduceAdd, Nat.reduceMul, Nat.reduceSub, Int.reduceToNat, reduceCtorEq, branch_decide, branch_not, branch_beq, branch_bne, Int.reduceAdd, Int.reduceEq, Int.reduceLE, Int.reduceLT, Nat.reduceLT, Nat.reduceLeDiff, false_imp_iff, true_imp_iff]
    try trivial
  rintro _ _ ⟨oc, hoc, rfl, rfl⟩
  simp only [push_cast, ↓branch_true, ↓branch_false, Nat.reduceBEq, Nat.reduceAdd, Nat.reduceMul, Nat.reduceSub, Int.reduceToNat, reduceCtorEq, branch_decide, branch_not, branch_beq, branch_bne, Int.reduceAdd, Int.reduceEq, Int.reduceLE, Int.reduceLT, Nat.reduceLT, Nat.reduceLeDiff, false_imp_iff, true_imp_iff]
  repeat (with_reducible refine And.intro (by omega) ?_)
  refine sp_call (rsize_pu (tab l) oc (fun _ => M) (by omega : N ≤ 1000000) (by omega : M ≤ 1000000)) rfl [1, 2] rfl ?_ ?_ ?_
  · simp only [push_cast, ↓branch_true, ↓branch_false, Nat.reduceBEq, Nat.reduceAdd, Nat.reduceMul, Nat.reduceSub, Int.reduceToNat, reduceCtorEq, branch_decide, branch_not, branch_beq, branch_bne, Int.reduceAdd, Int.reduceEq, Int.reduceLE, Int.reduceLT, Nat.reduceLT, Nat.reduceLeDiff, false_imp_iff, true_imp_iff]
    try trivial
  · simp only [push_cast, ↓branch_true, ↓branch_false, Nat.reduceBEq, Nat.reduceAdd, Nat.reduceMul, Nat.reduceSub, Int.reduceToNat, reduceCtorEq, branch_decide, branch_not, branch_beq, branch_bne, Int.reduceAdd, Int.reduceEq, Int.reduceLE, Int.reduceLT, Nat.reduceLT, Nat.reduceLeDiff, false_imp_iff, true_imp_iff]
    try trivial
  have hnu := nuT_le_left N M (tab l)
  have hst : nuT N M (tab l) = nuT N M (restE (tab l) 0 (fun _ => false)) := by rw [rest_zero]
  simp only [push_cast, ↓branch_true, ↓branch_false, Nat.reduceBEq, Nat.reduceAdd, Nat.reduceMul, Nat.reduceSub, Int.reduceToNat, reduceCtorEq, branch_decide, branch_not, branch_beq, branch_bne, Int.reduceAdd, Int.reduceEq, Int.reduceLE, Int.reduceLT, Nat.reduceLT, Nat.reduceLeDiff, false_imp_iff, true_imp_iff]
  refine tr_loop mixed (by kernel_rfl) (fun (x : Nat × Nat × (Nat → Bool) × Nat × List Int × Nat) => [(10, .v (.int .i64 x.1)), (9, .s 3 0 0 x.2.2.2.2.1.length x.2.2.2.2.2 1), (8, .v (.int .i64 x.2.2.2.1)), (7, .s 1 0 0 N x.2.1 1), (0, .v (.int .i64 N)), (1, .v (.int .i64 M))])
    (fun x => [rEd l, oTb 2 N M (fun _ => M), oTf N M (restE (tab l) x.1 x.2.2.1), rIO x.2.2.2.2.1 x.2.2.2.2.2])
    (fun x => x.1 ≤ N ∧ N ≤ x.2.1 ∧ x.2.2.2.2.1.length = x.1 ∧ x.2.2.2.2.1.length ≤ x.2.2.2.2.2 ∧ x.2.2.2.1 ≤ N ∧ x.2.2.2.2.1 ++ matchS (tab l) N M (N - x.1) x.1 x.2.2.1 x.2.2.2.1 = matchT (tab l) N M) (fun x => N - x.1) (0, oc, fun _ => false, nuT N M (tab l), [], 0) ⟨Nat.zero_le _, hoc, rfl, Nat.le_refl _, hnu, rfl⟩ (Mt.wk (rl := [0, 1, 2, 1000]) ⟨by kernel_rfl, ?_, ?_⟩) ?_
  · simp only [push_cast, ↓branch_true, ↓branch_false, Nat.reduceBEq, Nat.reduceAdd, Nat.reduceMul, Nat.reduceSub, Int.reduceToNat, reduceCtorEq, branch_decide, branch_not, branch_beq, branch_bne, Int.reduceAdd, Int.reduceEq, Int.reduceLE, Int.reduceLT, Nat.reduceLT, Nat.reduceLeDiff, false_imp_iff, true_imp_iff]
    try trivial
  · simp only [push_cast, ↓branch_true, ↓branch_false, Nat.reduceBEq, Nat.reduceAdd, Nat.reduceMul, Nat.reduceSub, Int.reduceToNat, reduceCtorEq, branch_decide, branch_not, branch_beq, branch_bne, Int.reduceAdd, Int.reduceEq, Int.reduceLE, Int.reduceLT, Nat.reduceLT, Nat.reduceLeDiff, false_imp_iff, true_imp_iff, rest_zero]
    try omega
  rintro ⟨i, ot, tk, left, out, oc2⟩ ⟨g1, g2, g3, g4, g5, g6⟩
  simp only at g1 g2 g3 g4 g5 g6
  simp only [push_cast, ↓branch_true, ↓branch_false, Nat.reduceBEq, Nat.reduceAdd, Nat.reduceMul, Nat.reduceSub, Int.reduceToNat, reduceCtorEq, branch_decide, branch_not, branch_beq, branch_bne, Int.reduceAdd, Int.reduceEq, Int.reduceLE, Int.reduceLT, Nat.reduceLT, Nat.reduceLeDiff, false_imp_iff, true_imp_iff]
  refine ⟨fun h0 => ?_, fun h0 => ?_⟩
  · have hi : i < N := by omega
    repeat (with_reducible refine And.intro (by omega) ?_)
    refine tr_loop mixed (by kernel_rfl) (fun (y : Nat × Int) => [(12, .v (.int .i64 y.1)), (11, .v (.int .i64 y.2)), (10, .v (.int .i64 i)), (9, .s 3 0 0 out.length oc2 1), (8, .v (.int .i64 left)), (7, .s 1 0 0 N ot 1), (0, .v (.int .i64 N)), (1, .v (.int .i64 M))])
      (fun _ => [rEd l, oTb 2 N M (fun _ => M), oTf N M (restE (tab l) i tk), rIO out oc2])
      (fun y => y.1 ≤ M ∧ whoOk (tab l) N M i left tk y.1 y.2) (fun y => M - y.1) (0, -1) ⟨Nat.zero_le _, Or.inl ⟨rfl, fun _ h => absurd h (by omega)⟩⟩ (Mt.wk (rl := [0, 1, 2, 3]) ⟨by kernel_rfl, ?_, ?_⟩) ?_
    · simp only [push_cast, ↓branch_true, ↓branch_false, Nat.reduceBEq, Nat.reduceAdd, Nat.reduceMul, Nat.reduceSub, Int.reduceToNat, reduceCtorEq, branch_decide, branch_not, branch_beq, branch_bne, Int.reduceAdd, Int.reduceEq, Int.reduceLE, Int.reduceLT, Nat.reduceLT, Nat.reduceLeDiff, false_imp_iff, true_imp_iff]
      try trivial
    · simp only [push_cast, ↓branch_true, ↓branch_false, Nat.reduceBEq, Nat.reduceAdd, Nat.reduceMul, Nat.reduceSub, Int.reduceToNat, reduceCtorEq, branch_decide, branch_not, branch_beq, branch_bne, Int.reduceAdd, Int.reduceEq, Int.reduceLE, Int.reduceLT, Nat.reduceLT, Nat.reduceLeDiff, false_imp_iff, true_imp_iff]
      try trivial
    rintro ⟨j, w⟩ ⟨k1, k2⟩
    simp only at k1 k2
    simp only [push_cast, ↓branch_true, ↓branch_false, Nat.reduceBEq, Nat.reduceAdd, Nat.reduceMul, Nat.reduceSub, Int.reduceToNat, reduceCtorEq, branch_decide, branch_not, branch_beq, branch_bne, Int.reduceAdd, Int.reduceEq, Int.reduceLE, Int.reduceLT, Nat.reduceLT, Nat.reduceLeDiff, false_imp_iff, true_imp_iff]
    refine ⟨fun h3 => ?_, fun h3 => ?_⟩
    · have hj : j < M := by omega
      refine ⟨fun h4 => ?_, fun h4 => ?_⟩
      · repeat (with_reducible refine And.intro (by omega) ?_)
        have hn : w = -1 ∧ ∀ q, q < j → okT (tab l) N M i left tk q = false := by
          rcases k2 with h | ⟨k, _, e, _⟩
          · exact h
          · omega
        obtain ⟨rfl, hn⟩ := hn
        have hRi : restE (tab l) i tk i j = (tab l i j && !tk j) := by simp [restE]
        have knext : okT (tab l) N M i left tk j = false → whoOk (tab l) N M i left tk (j + 1) (-1) := fun e => Or.inl ⟨rfl, fun q hq => by
          by_cases e2 : q = j
          · subst e2; exact e
          · exact hn q (by omega)⟩
        cases hE : restE (tab l) i tk i j with
        | false =>
          have hok : okT (tab l) N M i left tk j = false := by unfold okT; rw [← hRi, hE]; rfl
          simp only [push_cast, ↓branch_true, ↓branch_false, Nat.reduceBEq, Nat.reduceAdd, Nat.reduceMul, Nat.reduceSub, Int.reduceToNat, reduceCtorEq, branch_decide, branch_not, branch_beq, branch_bne, Int.reduceAdd, Int.reduceEq, Int.reduceLE, Int.reduceLT, Nat.reduceLT, Nat.reduceLeDiff, false_imp_iff, true_imp_iff]
          repeat (with_reducible refine And.intro (by omega) ?_)
          refine lpK_normal (j + 1, -1) [0, 1, 2, 3] ⟨by simp only; omega, knext hok⟩ (by simp only; omega) (by kernel_rfl) ?_ ?_
          · simp only [push_cast, ↓branch_true, ↓branch_false, Nat.reduceBEq, Nat.reduceAdd, Nat.reduceMul, Nat.reduceSub, Int.reduceToNat, reduceCtorEq, branch_decide, branch_not, branch_beq, branch_bne, Int.reduceAdd, Int.reduceEq, Int.reduceLE, Int.reduceLT, Nat.reduceLT, Nat.reduceLeDiff, false_imp_iff, true_imp_iff]
          · simp only [push_cast, ↓branch_true, ↓branch_false, Nat.reduceBEq, Nat.reduceAdd, Nat.reduceMul, Nat.reduceSub, Int.reduceToNat, reduceCtorEq, branch_decide, branch_not, branch_beq, branch_bne, Int.reduceAdd, Int.reduceEq, Int.reduceLE, Int.reduceLT, Nat.reduceLT, Nat.reduceLeDiff, false_imp_iff, true_imp_iff]
        | true =>
          simp only [push_cast, ↓branch_true, ↓branch_false, Nat.reduceBEq, Nat.reduceAdd, Nat.reduceMul, Nat.reduceSub, Int.reduceToNat, reduceCtorEq, branch_decide, branch_not, branch_beq, branch_bne, Int.reduceAdd, Int.reduceEq, Int.reduceLE, Int.reduceLT, Nat.reduceLT, Nat.reduceLeDiff, false_imp_iff, true_imp_iff]
          refine sp_at (without_sp (N := N) (M := M) (restE (tab l) i tk) ot (fun _ => M) i j (by omega) (by omega)) [1, 2] rfl ?_ ?_ ?_
          · simp only [push_cast, ↓branch_true, ↓branch_false, Nat.reduceBEq, Nat.reduceAdd, Nat.reduceMul, Nat.reduceSub, Int.reduceToNat, reduceCtorEq, branch_decide, branch_not, branch_beq, branch_bne, Int.reduceAdd, Int.reduceEq, Int.reduceLE, Int.reduceLT, Nat.reduceLT, Nat.reduceLeDiff, false_imp_iff, true_imp_iff]
            try trivial
          · simp only [push_cast, ↓branch_true, ↓branch_false, Nat.reduceBEq, Nat.reduceAdd, Nat.reduceMul, Nat.reduceSub, Int.reduceToNat, reduceCtorEq, branch_decide, branch_not, branch_beq, branch_bne, Int.reduceAdd, Int.reduceEq, Int.reduceLE, Int.reduceLT, Nat.reduceLT, Nat.reduceLeDiff, false_imp_iff, true_imp_iff]
            try trivial
          rintro _ _ ⟨oc3, hoc3, rfl, rfl⟩
          rw [wo_some]
          simp only [push_cast, ↓branch_true, ↓branch_false, Nat.reduceBEq, Nat.reduceAdd, Nat.reduceMul, Nat.reduceSub, Int.reduceToNat, reduceCtorEq, branch_decide, branch_not, branch_beq, branch_bne, Int.reduceAdd, Int.reduceEq, Int.reduceLE, Int.reduceLT, Nat.reduceLT, Nat.reduceLeDiff, false_imp_iff, true_imp_iff]
          repeat (with_reducible refine And.intro (by omega) ?_)
          refine sp_call (rsize_pu (restE (tab l) (i + 1) (upd tk j true)) oc3 (fun _ => M) (by omega : N ≤ 1000000) (by omega : M ≤ 1000000)) rfl [4, 5] rfl ?_ ?_ ?_
          · simp only [push_cast, ↓branch_true, ↓branch_false, Nat.reduceBEq, Nat.reduceAdd, Nat.reduceMul, Nat.reduceSub, Int.reduceToNat, reduceCtorEq, branch_decide, branch_not, branch_beq, branch_bne, Int.reduceAdd, Int.reduceEq, Int.reduceLE, Int.reduceLT, Nat.reduceLT, Nat.reduceLeDiff, false_imp_iff, true_imp_iff]
            try trivial
          · simp only [push_cast, ↓branch_true, ↓branch_false, Nat.reduceBEq, Nat.reduceAdd, Nat.reduceMul, Nat.reduceSub, Int.reduceToNat, reduceCtorEq, branch_decide, branch_not, branch_beq, branch_bne, Int.reduceAdd, Int.reduceEq, Int.reduceLE, Int.reduceLT, Nat.reduceLT, Nat.reduceLeDiff, false_imp_iff, true_imp_iff]
            try trivial
          have hnu2 := nuT_le_left N M (restE (tab l) (i + 1) (upd tk j true))
          have hoke : okT (tab l) N M i left tk j = decide (nuT N M (restE (tab l) (i + 1) (upd tk j true)) + 1 = left) := by unfold okT; rw [← hRi, hE]; rfl
          generalize nuT N M (restE (tab l) (i + 1) (upd tk j true)) = nu at *
          simp only [push_cast, ↓branch_true, ↓branch_false, Nat.reduceBEq, Nat.reduceAdd, Nat.reduceMul, Nat.reduceSub, Int.reduceToNat, reduceCtorEq, branch_decide, branch_not, branch_beq, branch_bne, Int.reduceAdd, Int.reduceEq, Int.reduceLE, Int.reduceLT, Nat.reduceLT, Nat.reduceLeDiff, false_imp_iff, true_imp_iff]
          refine ⟨⟨by omega, by omega⟩, fun h5 => ?_, fun h5 => ?_⟩
          · have hok : okT (tab l) N M i left tk j = true := by rw [hoke]; exact decide_eq_true (by omega)
            repeat (with_reducible refine And.intro (by omega) ?_)
            refine lpK_normal (j + 1, (j : Int)) [0, 1, 2, 3] ⟨by simp only; omega, Or.inr ⟨j, hj, rfl, hok, hn⟩⟩ (by simp only; omega) (by kernel_rfl) ?_ ?_
            · simp only [push_cast, ↓branch_true, ↓branch_false, Nat.reduceBEq, Nat.reduceAdd, Nat.reduceMul, Nat.reduceSub, Int.reduceToNat, reduceCtorEq, branch_decide, branch_not, branch_beq, branch_bne, Int.reduceAdd, Int.reduceEq, Int.reduceLE, Int.reduceLT, Nat.reduceLT, Nat.reduceLeDiff, false_imp_iff, true_imp_iff]
            · simp only [push_cast, ↓branch_true, ↓branch_false, Nat.reduceBEq, Nat.reduceAdd, Nat.reduceMul, Nat.reduceSub, Int.reduceToNat, reduceCtorEq, branch_decide, branch_not, branch_beq, branch_bne, Int.reduceAdd, Int.reduceEq, Int.reduceLE, Int.reduceLT, Nat.reduceLT, Nat.reduceLeDiff, false_imp_iff, true_imp_iff]
          · have hok : okT (tab l) N M i left tk j = false := by rw [hoke]; exact decide_eq_false (by omega)
            repeat (with_reducible refine And.intro (by omega) ?_)
            refine lpK_normal (j + 1, -1) [0, 1, 2, 3] ⟨by simp only; omega, knext hok⟩ (by simp only; omega) (by kernel_rfl) ?_ ?_
            · simp only [push_cast, ↓branch_true, ↓branch_false, Nat.reduceBEq, Nat.reduceAdd, Nat.reduceMul, Nat.reduceSub, Int.reduceToNat, reduceCtorEq, branch_decide, branch_not, branch_beq, branch_bne, Int.reduceAdd, Int.reduceEq, Int.reduceLE, Int.reduceLT, Nat.reduceLT, Nat.reduceLeDiff, false_imp_iff, true_imp_iff]
            · simp only [push_cast, ↓branch_true, ↓branch_false, Nat.reduceBEq, Nat.reduceAdd, Nat.reduceMul, Nat.reduceSub, Int.reduceToNat, reduceCtorEq, branch_decide, branch_not, branch_beq, branch_bne, Int.reduceAdd, Int.reduceEq, Int.reduceLE, Int.reduceLT, Nat.reduceLT, Nat.reduceLeDiff, false_imp_iff, true_imp_iff]
      · have hw : ∃ k, k < M ∧ w = (k : Nat) ∧ okT (tab l) N M i left tk k = true ∧ ∀ q, q < k → okT (tab l) N M i left tk q = false := by
          rcases k2 with ⟨e, _⟩ | h
          · omega
          · exact h
        obtain ⟨k, hk, rfl, hp, hn⟩ := hw
        have hl1 : nuT N M (restE (tab l) (i + 1) (upd tk k true)) + 1 = left := by
          unfold okT at hp
          simp only [Bool.and_eq_true, decide_eq_true_eq] at hp
          exact hp.2
        rw [whoS hi hk hp hn] at g6
        refine sp_at (without_sp (N := N) (M := M) (restE (tab l) i tk) ot (fun _ => M) i k (by omega) (by omega)) [1, 2] rfl ?_ ?_ ?_
        · simp only [push_cast, ↓branch_true, ↓branch_false, Nat.reduceBEq, Nat.reduceAdd, Nat.reduceMul, Nat.reduceSub, Int.reduceToNat, reduceCtorEq, branch_decide, branch_not, branch_beq, branch_bne, Int.reduceAdd, Int.reduceEq, Int.reduceLE, Int.reduceLT, Nat.reduceLT, Nat.reduceLeDiff, false_imp_iff, true_imp_iff]
          try trivial
        · simp only [push_cast, ↓branch_true, ↓branch_false, Nat.reduceBEq, Nat.reduceAdd, Nat.reduceMul, Nat.reduceSub, Int.reduceToNat, reduceCtorEq, branch_decide, branch_not, branch_beq, branch_bne, Int.reduceAdd, Int.reduceEq, Int.reduceLE, Int.reduceLT, Nat.reduceLT, Nat.reduceLeDiff, false_imp_iff, true_imp_iff]
          try trivial
        rintro _ _ ⟨oc3, hoc3, rfl, rfl⟩
        rw [wo_some]
        simp only [push_cast, ↓branch_true, ↓branch_false, Nat.reduceBEq, Nat.reduceAdd, Nat.reduceMul, Nat.reduceSub, Int.reduceToNat, reduceCtorEq, branch_decide, branch_not, branch_beq, branch_bne, Int.reduceAdd, Int.reduceEq, Int.reduceLE, Int.reduceLT, Nat.reduceLT, Nat.reduceLeDiff, false_imp_iff, true_imp_iff]
        repeat (with_reducible refine And.intro (by omega) ?_)
        have el : ((left - 1 : Nat) : Int) = (left : Int) - 1 := by omega
        refine ⟨fun _ => ⟨⟨by omega, by omega⟩, ?_⟩, fun hh => (by omega : False).elim⟩
        refine Or.inr ⟨by omega, by omega, fun cap hcap => ?_⟩
        repeat (with_reducible refine And.intro (by omega) ?_)
        refine lpK_normal (i + 1, oc3, upd tk k true, left - 1, out ++ [(k : Int)], cap) [0, 4, 5, 7] ⟨by simp only; omega, hoc3, by simp only [List.length_append, List.length_cons, List.length_nil]; omega, by simp only [List.length_append, List.length_cons, List.length_nil]; omega, by simp only; omega, g6⟩ (by simp only; omega) (by kernel_rfl) ?_ ?_
        · simp only [push_cast, ↓branch_true, ↓branch_false, Nat.reduceBEq, Nat.reduceAdd, Nat.reduceMul, Nat.reduceSub, Int.reduceToNat, reduceCtorEq, branch_decide, branch_not, branch_beq, branch_bne, Int.reduceAdd, Int.reduceEq, Int.reduceLE, Int.reduceLT, Nat.reduceLT, Nat.reduceLeDiff, false_imp_iff, true_imp_iff, List.length_append, el]
          try trivial
        · simp only [push_cast, ↓branch_true, ↓branch_false, Nat.reduceBEq, Nat.reduceAdd, Nat.reduceMul, Nat.reduceSub, Int.reduceToNat, reduceCtorEq, branch_decide, branch_not, branch_beq, branch_bne, Int.reduceAdd, Int.reduceEq, Int.reduceLE, Int.reduceLT, Nat.reduceLT, Nat.reduceLeDiff, false_imp_iff, true_imp_iff, List.length_append]
          exact fun _ _ q hq => app_end rfl hq
    · rw [show j = M by omega] at k2
      rcases k2 with ⟨rfl, hn⟩ | hw
      · rw [whoN hi hn] at g6
        refine sp_at (without_sp (N := N) (M := M) (restE (tab l) i tk) ot (fun _ => M) i (-1) (by omega) (by omega)) [1, 2] rfl ?_ ?_ ?_
        · simp only [push_cast, ↓branch_true, ↓branch_false, Nat.reduceBEq, Nat.reduceAdd, Nat.reduceMul, Nat.reduceSub, Int.reduceToNat, reduceCtorEq, branch_decide, branch_not, branch_beq, branch_bne, Int.reduceAdd, Int.reduceEq, Int.reduceLE, Int.reduceLT, Nat.reduceLT, Nat.reduceLeDiff, false_imp_iff, true_imp_iff]
          try trivial
        · simp only [push_cast, ↓branch_true, ↓branch_false, Nat.reduceBEq, Nat.reduceAdd, Nat.reduceMul, Nat.reduceSub, Int.reduceToNat, reduceCtorEq, branch_decide, branch_not, branch_beq, branch_bne, Int.reduceAdd, Int.reduceEq, Int.reduceLE, Int.reduceLT, Nat.reduceLT, Nat.reduceLeDiff, false_imp_iff, true_imp_iff]
          try trivial
        rintro _ _ ⟨oc3, hoc3, rfl, rfl⟩
        rw [wo_none]
        simp only [push_cast, ↓branch_true, ↓branch_false, Nat.reduceBEq, Nat.reduceAdd, Nat.reduceMul, Nat.reduceSub, Int.reduceToNat, reduceCtorEq, branch_decide, branch_not, branch_beq, branch_bne, Int.reduceAdd, Int.reduceEq, Int.reduceLE, Int.reduceLT, Nat.reduceLT, Nat.reduceLeDiff, false_imp_iff, true_imp_iff]
        repeat (with_reducible refine And.intro (by omega) ?_)
        refine Or.inr ⟨by omega, by omega, fun cap hcap => ?_⟩
        repeat (with_reducible refine And.intro (by omega) ?_)
        refine lpK_normal (i + 1, oc3, tk, left, out ++ [-1], cap) [0, 4, 5, 7] ⟨by simp only; omega, hoc3, by simp only [List.length_append, List.length_cons, List.length_nil]; omega, by simp only [List.length_append, List.length_cons, List.length_nil]; omega, by simp only; omega, g6⟩ (by simp only; omega) (by kernel_rfl) ?_ ?_
        · simp only [push_cast, ↓branch_true, ↓branch_false, Nat.reduceBEq, Nat.reduceAdd, Nat.reduceMul, Nat.reduceSub, Int.reduceToNat, reduceCtorEq, branch_decide, branch_not, branch_beq, branch_bne, Int.reduceAdd, Int.reduceEq, Int.reduceLE, Int.reduceLT, Nat.reduceLT, Nat.reduceLeDiff, false_imp_iff, true_imp_iff, List.length_append]
          try trivial
        · simp only [push_cast, ↓branch_true, ↓branch_false, Nat.reduceBEq, Nat.reduceAdd, Nat.reduceMul, Nat.reduceSub, Int.reduceToNat, reduceCtorEq, branch_decide, branch_not, branch_beq, branch_bne, Int.reduceAdd, Int.reduceEq, Int.reduceLE, Int.reduceLT, Nat.reduceLT, Nat.reduceLeDiff, false_imp_iff, true_imp_iff, List.length_append]
          exact fun _ _ q hq => app_end rfl hq
      · obtain ⟨k, hk, rfl, hp, hn⟩ := hw
        have hl1 : nuT N M (restE (tab l) (i + 1) (upd tk k true)) + 1 = left := by
          unfold okT at hp
          simp only [Bool.and_eq_true, decide_eq_true_eq] at hp
          exact hp.2
        rw [whoS hi hk hp hn] at g6
        refine sp_at (without_sp (N := N) (M := M) (restE (tab l) i tk) ot (fun _ => M) i k (by omega) (by omega)) [1, 2] rfl ?_ ?_ ?_
        · simp only [push_cast, ↓branch_true, ↓branch_false, Nat.reduceBEq, Nat.reduceAdd, Nat.reduceMul, Nat.reduceSub, Int.reduceToNat, reduceCtorEq, branch_decide, branch_not, branch_beq, branch_bne, Int.reduceAdd, Int.reduceEq, Int.reduceLE, Int.reduceLT, Nat.reduceLT, Nat.reduceLeDiff, false_imp_iff, true_imp_iff]
          try trivial
        · simp only [push_cast, ↓branch_true, ↓branch_false, Nat.reduceBEq, Nat.reduceAdd, Nat.reduceMul, Nat.reduceSub, Int.reduceToNat, reduceCtorEq, branch_decide, branch_not, branch_beq, branch_bne, Int.reduceAdd, Int.reduceEq, Int.reduceLE, Int.reduceLT, Nat.reduceLT, Nat.reduceLeDiff, false_imp_iff, true_imp_iff]
          try trivial
        rintro _ _ ⟨oc3, hoc3, rfl, rfl⟩
        rw [wo_some]
        simp only [push_cast, ↓branch_true, ↓branch_false, Nat.reduceBEq, Nat.reduceAdd, Nat.reduceMul, Nat.reduceSub, Int.reduceToNat, reduceCtorEq, branch_decide, branch_not, branch_beq, branch_bne, Int.reduceAdd, Int.reduceEq, Int.reduceLE, Int.reduceLT, Nat.reduceLT, Nat.reduceLeDiff, false_imp_iff, true_imp_iff]
        repeat (with_reducible refine And.intro (by omega) ?_)
        have el : ((left - 1 : Nat) : Int) = (left : Int) - 1 := by omega
        refine ⟨fun _ => ⟨⟨by omega, by omega⟩, ?_⟩, fun hh => (by omega : False).elim⟩
        refine Or.inr ⟨by omega, by omega, fun cap hcap => ?_⟩
        repeat (with_reducible refine And.intro (by omega) ?_)
        refine lpK_normal (i + 1, oc3, upd tk k true, left - 1, out ++ [(k : Int)], cap) [0, 4, 5, 7] ⟨by simp only; omega, hoc3, by simp only [List.length_append, List.length_cons, List.length_nil]; omega, by simp only [List.length_append, List.length_cons, List.length_nil]; omega, by simp only; omega, g6⟩ (by simp only; omega) (by kernel_rfl) ?_ ?_
        · simp only [push_cast, ↓branch_true, ↓branch_false, Nat.reduceBEq, Nat.reduceAdd, Nat.reduceMul, Nat.reduceSub, Int.reduceToNat, reduceCtorEq, branch_decide, branch_not, branch_beq, branch_bne, Int.reduceAdd, Int.reduceEq, Int.reduceLE, Int.reduceLT, Nat.reduceLT, Nat.reduceLeDiff, false_imp_iff, true_imp_iff, List.length_append, el]
          try trivial
        · simp only [push_cast, ↓branch_true, ↓branch_false, Nat.reduceBEq, Nat.reduceAdd, Nat.reduceMul, Nat.reduceSub, Int.reduceToNat, reduceCtorEq, branch_decide, branch_not, branch_beq, branch_bne, Int.reduceAdd, Int.reduceEq, Int.reduceLE, Int.reduceLT, Nat.reduceLT, Nat.reduceLeDiff, false_imp_iff, true_imp_iff, List.length_append]
          exact fun _ _ q hq => app_end rfl hq
  · obtain rfl : i = N := by omega
    rw [Nat.sub_self, matchS, List.append_nil] at g6
    subst g6
    refine ⟨_, _, [0, 3], ?_, by kernel_rfl, ?_, oc2, by omega, rfl, rfl⟩
    · simp only [push_cast, ↓branch_true, ↓branch_false, Nat.reduceBEq, Nat.reduceAdd, Nat.reduceMul, Nat.reduceSub, Int.reduceToNat, reduceCtorEq, branch_decide, branch_not, branch_beq, branch_bne, Int.reduceAdd, Int.reduceEq, Int.reduceLE, Int.reduceLT, Nat.reduceLT, Nat.reduceLeDiff, false_imp_iff, true_imp_iff]
      try omega
    · simp only [push_cast, ↓branch_true, ↓branch_false, Nat.reduceBEq, Nat.reduceAdd, Nat.reduceMul, Nat.reduceSub, Int.reduceToNat, reduceCtorEq, branch_decide, branch_not, branch_beq, branch_bne, Int.reduceAdd, Int.reduceEq, Int.reduceLE, Int.reduceLT, Nat.reduceLT, Nat.reduceLeDiff, false_imp_iff, true_imp_iff]
      try exact fun _ _ => by omega
end Go.Proofs.Ytmmabnoemckdiaa
