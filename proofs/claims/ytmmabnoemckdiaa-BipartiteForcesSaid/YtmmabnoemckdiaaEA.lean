/- Edges: '==', Index, Contains, Equal. -/
import Derived.Test.YtmmabnoemckdiaaA
import Derived.Laws.StructEq
set_option maxRecDepth 100000
set_option linter.unusedSimpArgs false
set_option linter.unusedVariables false
namespace Go.Proofs.Ytmmabnoemckdiaa
open Go.RowKit
theorem agg49 (a b c d : Int) : AggEq Try.prog 49 [.int .i64 a, .int .i64 b] [.int .i64 c, .int .i64 d] := by
  intro op x y w
  refine ⟨run_eqGuard_agg w op 49 x y _ _ (by kernel_rfl), ?_⟩
  simp only [Op.equal, Op.maxDepth]
  have p : ∀ (xs : Array Value) (off : Nat) (v : Value), xs[off]? = some v → (part 3 xs off).run Try.prog w = .ok v w := fun xs off v hx => by
    simp [part, isAgg, Sem.run_bind, run_underlying Try.underlying3, hx, Result.andThen, Sem.run_pure]
  rw [show (10000 : Nat) = 9999 + 1 from rfl, Op.equalIn]
  simp only [Sem.run_bind, run_underlying Try.underlying49, Result.andThen_ok]
  simp only [Std.Legacy.Range.forIn_eq_forIn_range', Std.Legacy.Range.size, Nat.sub_zero, Nat.add_sub_cancel, Nat.div_one, List.range'_succ, List.range'_zero, List.forIn_cons, List.forIn_nil]
  have hz : (sizeOf 3).run Try.prog w = .ok 1 w := by
    simp [sizeOf, Sem.run_bind]
    kernel_rfl
  have hi : ∀ m n : Int, (Op.equalIn 9999 3 (.int .i64 m) (.int .i64 n)).run Try.prog w = .ok (m == n) w := fun m n => run_equalIn_int w 9998 3 .i64 .i64 m n Try.underlying3
  rw [hz]
  simp only [Result.andThen_ok, Sem.run_bind, Nat.zero_mul, Nat.zero_add, Nat.mul_one]
  rw [p _ 0 (.int .i64 a) rfl]
  simp only [Result.andThen_ok]
  rw [p _ 0 (.int .i64 c) rfl]
  simp only [Result.andThen_ok, hi]
  by_cases e : a = c
  · subst e
    simp only [beq_self_eq_true, Bool.not_true, Bool.false_eq_true, if_false, Sem.run_pure, Sem.run_bind, Result.andThen_ok]
    rw [p _ 1 (.int .i64 b) rfl]
    simp only [Result.andThen_ok]
    rw [p _ 1 (.int .i64 d) rfl]
    simp only [Result.andThen_ok, hi]
    by_cases e : b = d
    · subst e
      simp [Sem.run_pure, eqLB]
    · have : (b == d) = false := by simpa using e
      simp [Sem.run_pure, eqLB, this]
  · have : (a == c) = false := by simpa using e
    simp [Sem.run_pure, eqLB, this]
theorem Ed.ext' {p q : Ed} (h : p.x = q.x) (h2 : p.y = q.y) : p = q := by
  obtain ⟨a, b⟩ := p
  obtain ⟨c, d⟩ := q
  simp only at h h2
  rw [h, h2]
instance : DecidableEq Ed := fun p q => if h : p.x = q.x ∧ p.y = q.y then .isTrue (Ed.ext' h.1 h.2) else .isFalse fun e => h (by subst e; exact ⟨rfl, rfl⟩)
theorem indexA_pu (l : List Ed) (v : Ed) (c : Nat) (hl : l.length ≤ 9223372036854775807) : Pu Try.prog 68 [.s 0 0 0 l.length c 2, .a (cEd v)] [rEd l] (.v (.int .i64 (idxB (fun x => decide (x = v)) l 0))) := by
  refine pu_of_ex true [] mixed Try.call68 Try.func68 rfl Try.ntmps68 Try.results68 (by decide +kernel) rfl rfl rfl ?_
  simp only [push_cast, ↓branch_true, ↓branch_false, Nat.reduceBEq, Nat.reduceAdd, Nat.reduceMul, Nat.reduceSub, Int.reduceToNat, reduceCtorEq, branch_decide, branch_not, branch_beq, branch_bne, Int.reduceAdd, Int.reduceEq, Int.reduceLE, Int.reduceLT, Nat.reduceLT, Nat.reduceLeDiff, false_imp_iff, true_imp_iff]
  refine tr_loop mixed (by kernel_rfl) (fun (k : Nat) => [(8, .v (.int .i64 k)), (7, .v (.int .i64 l.length)), (0, .s 0 0 0 l.length c 2), (3, .p 1 0 0)]) (fun _ => [rEd l, ⟨49, false, .st [.v (.int .i64 v.x), .v (.int .i64 v.y)]⟩]) (fun k => k ≤ l.length ∧ ∀ j, j < k → decide (ix l j = v) = false) (fun k => l.length - k) 0 ⟨Nat.zero_le _, fun j h => by omega⟩ (Mt.wk (rl := [0, 1]) ⟨by kernel_rfl, ?_, ?_⟩) ?_
  · simp only [push_cast, ↓branch_true, ↓branch_false, Nat.reduceBEq, Nat.reduceAdd, Nat.reduceMul, Nat.reduceSub, Int.reduceToNat, reduceCtorEq, branch_decide, branch_not, branch_beq, branch_bne, Int.reduceAdd, Int.reduceEq, Int.reduceLE, Int.reduceLT, Nat.reduceLT, Nat.reduceLeDiff, false_imp_iff, true_imp_iff]
    try rfl
  · simp only [push_cast, ↓branch_true, ↓branch_false, Nat.reduceBEq, Nat.reduceAdd, Nat.reduceMul, Nat.reduceSub, Int.reduceToNat, reduceCtorEq, branch_decide, branch_not, branch_beq, branch_bne, Int.reduceAdd, Int.reduceEq, Int.reduceLE, Int.reduceLT, Nat.reduceLT, Nat.reduceLeDiff, false_imp_iff, true_imp_iff]
    try rfl
  rintro k ⟨hk, hn⟩
  simp only [push_cast, ↓branch_true, ↓branch_false, Nat.reduceBEq, Nat.reduceAdd, Nat.reduceMul, Nat.reduceSub, Int.reduceToNat, reduceCtorEq, branch_decide, branch_not, branch_beq, branch_bne, Int.reduceAdd, Int.reduceEq, Int.reduceLE, Int.reduceLT, Nat.reduceLT, Nat.reduceLeDiff, false_imp_iff, true_imp_iff]
  refine ⟨fun h1 => ?_, fun h1 => ?_⟩
  · repeat (with_reducible refine And.intro (by omega) ?_)
    refine ⟨agg49 _ _ _ _, ?_⟩
    have hb : (v.x == (ix l k).x && v.y == (ix l k).y) = decide (ix l k = v) := by
      rw [Bool.eq_iff_iff]
      simp only [Bool.and_eq_true, beq_iff_eq, decide_eq_true_eq]
      exact ⟨fun h => Ed.ext' h.1.symm h.2.symm, fun h => by rw [h]; exact ⟨rfl, rfl⟩⟩
    rw [hb]
    simp only [branch]
    refine ⟨fun h2 => ?_, fun h2 => ?_⟩
    · rw [idxB_at (fun x => decide (x = v)) l 0 k (by omega) hn h2]; simp
    · repeat (with_reducible refine And.intro (by omega) ?_)
      refine lpK_normal (k + 1) [0, 1] ⟨by omega, fun j hj => ?_⟩ (by omega) (by kernel_rfl) ?_ ?_
      · by_cases e : j = k
        · rw [e]; exact h2
        · exact hn j (by omega)
      · simp only [push_cast, ↓branch_true, ↓branch_false, Nat.reduceBEq, Nat.reduceAdd, Nat.reduceMul, Nat.reduceSub, Int.reduceToNat, reduceCtorEq, branch_decide, branch_not, branch_beq, branch_bne, Int.reduceAdd, Int.reduceEq, Int.reduceLE, Int.reduceLT, Nat.reduceLT, Nat.reduceLeDiff, false_imp_iff, true_imp_iff]
      · simp only [push_cast, ↓branch_true, ↓branch_false, Nat.reduceBEq, Nat.reduceAdd, Nat.reduceMul, Nat.reduceSub, Int.reduceToNat, reduceCtorEq, branch_decide, branch_not, branch_beq, branch_bne, Int.reduceAdd, Int.reduceEq, Int.reduceLE, Int.reduceLT, Nat.reduceLT, Nat.reduceLeDiff, false_imp_iff, true_imp_iff]
  · rw [idxB_none (fun x => decide (x = v)) l 0 fun j hj => hn j (by omega)]
theorem containsA_pu (l : List Ed) (v : Ed) (c : Nat) (hl : l.length ≤ 9223372036854775807) : Pu Try.prog 42 [.s 0 0 0 l.length c 2, .a (cEd v)] [rEd l] (.v (.bool (decide (v ∈ l)))) := by
  refine pu_of_ex true [] mixed Try.call42 Try.func42 rfl Try.ntmps42 Try.results42 (by decide +kernel) rfl rfl rfl ?_
  simp only [push_cast, ↓branch_true, ↓branch_false, Nat.reduceBEq, Nat.reduceAdd, Nat.reduceMul, Nat.reduceSub, Int.reduceToNat, reduceCtorEq, branch_decide, branch_not, branch_beq, branch_bne, Int.reduceAdd, Int.reduceEq, Int.reduceLE, Int.reduceLT, Nat.reduceLT, Nat.reduceLeDiff, false_imp_iff, true_imp_iff]
  refine sp_call (indexA_pu l v c hl) rfl [0] rfl ?_ ?_ ?_
  · simp only [push_cast, ↓branch_true, ↓branch_false, Nat.reduceBEq, Nat.reduceAdd, Nat.reduceMul, Nat.reduceSub, Int.reduceToNat, reduceCtorEq, branch_decide, branch_not, branch_beq, branch_bne, Int.reduceAdd, Int.reduceEq, Int.reduceLE, Int.reduceLT, Nat.reduceLT, Nat.reduceLeDiff, false_imp_iff, true_imp_iff]
    try trivial
  · simp only [push_cast, ↓branch_true, ↓branch_false, Nat.reduceBEq, Nat.reduceAdd, Nat.reduceMul, Nat.reduceSub, Int.reduceToNat, reduceCtorEq, branch_decide, branch_not, branch_beq, branch_bne, Int.reduceAdd, Int.reduceEq, Int.reduceLE, Int.reduceLT, Nat.reduceLT, Nat.reduceLeDiff, false_imp_iff, true_imp_iff]
    try trivial
  simp only [push_cast, ↓branch_true, ↓branch_false, Nat.reduceBEq, Nat.reduceAdd, Nat.reduceMul, Nat.reduceSub, Int.reduceToNat, reduceCtorEq, branch_decide, branch_not, branch_beq, branch_bne, Int.reduceAdd, Int.reduceEq, Int.reduceLE, Int.reduceLT, Nat.reduceLT, Nat.reduceLeDiff, false_imp_iff, true_imp_iff]
  rw [idxB_any (fun x => decide (x = v)) l 0 (Int.le_refl 0)]
  have e : (l.any fun x => decide (x = v)) = decide (v ∈ l) := by
    rw [Bool.eq_iff_iff, List.any_eq_true, decide_eq_true_eq]
    exact ⟨fun ⟨x, h1, h2⟩ => by
      obtain rfl : x = v := by simpa using h2
      exact h1, fun h => ⟨v, h, by simp⟩⟩
  rw [e]
theorem lists_eq {α : Type} [Inhabited α] {p q : List α} (hl : p.length = q.length) (h : ∀ j, j < p.length → ix p j = ix q j) : p = q :=
  List.ext_getElem hl fun j h1 h2 => by rw [← ix_eq h1, ← ix_eq h2]; exact h j h1
theorem equalA_pu (p q : List Ed) (c d : Nat) (hp : p.length ≤ 1000000) (hq : q.length ≤ 1000000) : Pu Try.prog 36 [.s 0 0 0 p.length c 2, .s 1 0 0 q.length d 2] [rEd p, rEd q] (.v (.bool (decide (p = q)))) := by
  refine pu_of_ex true [] mixed Try.call36 Try.func36 rfl Try.ntmps36 Try.results36 (by decide +kernel) rfl rfl rfl ?_
  simp only [push_cast, ↓branch_true, ↓branch_false, Nat.reduceBEq, Nat.reduceAdd, Nat.reduceMul, Nat.reduceSub, Int.reduceToNat, reduceCtorEq, branch_decide, branch_not, branch_beq, branch_bne, Int.reduceAdd, Int.reduceEq, Int.reduceLE, Int.reduceLT, Nat.reduceLT, Nat.reduceLeDiff, false_imp_iff, true_imp_iff]
  refine ⟨fun h => ?_, fun h => ?_⟩
  · refine tr_loop0 mixed (by kernel_rfl) (fun (k : Nat) => [(13, .v (.int .i64 k)), (12, .v (.int .i64 p.length)), (0, .s 0 0 0 p.length c 2), (1, .s 1 0 0 q.length d 2)]) (fun k => k ≤ p.length ∧ ∀ j, j < k → ix p j = ix q j) (fun k => p.length - k) 0 ⟨Nat.zero_le _, fun j h => by omega⟩ ?_ ?_
    · simp only [push_cast, ↓branch_true, ↓branch_false, Nat.reduceBEq, Nat.reduceAdd, Nat.reduceMul, Nat.reduceSub, Int.reduceToNat, reduceCtorEq, branch_decide, branch_not, branch_beq, branch_bne, Int.reduceAdd, Int.reduceEq, Int.reduceLE, Int.reduceLT, Nat.reduceLT, Nat.reduceLeDiff, false_imp_iff, true_imp_iff]
      try trivial
    · rintro k ⟨hk, hn⟩
      simp only [push_cast, ↓branch_true, ↓branch_false, Nat.reduceBEq, Nat.reduceAdd, Nat.reduceMul, Nat.reduceSub, Int.reduceToNat, reduceCtorEq, branch_decide, branch_not, branch_beq, branch_bne, Int.reduceAdd, Int.reduceEq, Int.reduceLE, Int.reduceLT, Nat.reduceLT, Nat.reduceLeDiff, false_imp_iff, true_imp_iff]
      refine ⟨fun h1 => ?_, fun h1 => ?_⟩
      · repeat (with_reducible refine And.intro (by omega) ?_)
        refine ⟨agg49 _ _ _ _, ?_⟩
        have hb : ((ix p k).x == (ix q k).x && (ix p k).y == (ix q k).y) = decide (ix p k = ix q k) := by
          rw [Bool.eq_iff_iff]
          simp only [Bool.and_eq_true, beq_iff_eq, decide_eq_true_eq]
          exact ⟨fun h => Ed.ext' h.1 h.2, fun h => by rw [h]; exact ⟨rfl, rfl⟩⟩
        rw [hb]
        simp only [branch]
        refine ⟨fun h2 => ?_, fun h2 => ?_⟩
        · have h3 : ix p k = ix q k := by simpa using h2
          repeat (with_reducible refine And.intro (by omega) ?_)
          refine lp0_normal (k + 1) ⟨by omega, fun j hj => ?_⟩ (by omega) ?_
          · by_cases e : j = k
            · rw [e]; exact h3
            · exact hn j (by omega)
          · simp only [push_cast, ↓branch_true, ↓branch_false, Nat.reduceBEq, Nat.reduceAdd, Nat.reduceMul, Nat.reduceSub, Int.reduceToNat, reduceCtorEq, branch_decide, branch_not, branch_beq, branch_bne, Int.reduceAdd, Int.reduceEq, Int.reduceLE, Int.reduceLT, Nat.reduceLT, Nat.reduceLeDiff, false_imp_iff, true_imp_iff]
        · have h3 : ¬ ix p k = ix q k := by simpa using h2
          rw [decide_eq_false fun e => h3 (by rw [e])]
      · have e : p = q := lists_eq (by omega) fun j hj => hn j (by omega)
        rw [decide_eq_true e]
  · rw [decide_eq_false fun e => h (by rw [e])]
end Go.Proofs.Ytmmabnoemckdiaa
