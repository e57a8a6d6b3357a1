/- Contract of the reference: Same, for equal programs. -/
import Derived.Test.YtmefgachdnlaoaaYA
set_option maxRecDepth 100000
set_option linter.unusedSimpArgs false
set_option linter.unusedVariables false
namespace Go.Proofs.Ytmefgachdnlaoaa
open Go.RowKit Lp
/-- A second program. -/
def obQ (p : Pm) : List Ob := [rI p.n p.nc p.co, ⟨45, true, .row 3 1 (fun _ => p.m) (fun _ => p.mc) (fun _ t => [.s 5 t 0 (p.ln t) (p.cp t) 1, .v (.int .i64 (p.kd t)), .v (.int .i64 (p.b t))])⟩, rAf p]
def svQ (p : Pm) : SV := .a [.s 3 0 0 p.n p.nc 1, .s 4 0 0 p.m p.mc 3]
attribute [push_cast] obQ svQ
structure EqP (p q : Pm) : Prop where
  n : q.n = p.n
  m : q.m = p.m
  co : ∀ j, j < p.n → q.co j = p.co j
  ln : ∀ t, t < p.m → q.ln t = p.ln t
  kd : ∀ t, t < p.m → q.kd t = p.kd t
  b : ∀ t, t < p.m → q.b t = p.b t
  a : ∀ t k, t < p.m → k < p.ln t → q.a t k = p.a t k
set_option maxHeartbeats 16000000 in
theorem same_pu (p q : Pm) (h : EqP p q) (hn : p.n ≤ 1000000) (hm : p.m ≤ 1000000) (hl : ∀ t, t < p.m → p.ln t ≤ 1000000) : Pu Try.prog 37 [svP p, svQ q] (obP p ++ obQ q) (.v (.bool true)) := by
  have hn2 := h.n
  have hm2 := h.m
  have hf1 := p.fzm
  have hf2 := q.fzm
  refine pu_of_ex true [(11, .jn (.pre [6, 7] [0, 1, 2, 3, 5, 6, 7, 8] (.alt [(4, .alt [(9, .alt [(10, .one 11 (.one 12 (.one 13 .fin))), (11, .one 10 (.one 12 (.one 13 .fin)))]), (10, .alt [(9, .one 11 (.one 12 (.one 13 .fin))), (11, .alt [(9, .one 12 (.one 13 .fin)), (12, .one 9 (.one 13 .fin))])]), (11, .alt [(9, .one 10 (.one 12 (.one 13 .fin))), (10, .alt [(9, .one 12 (.one 13 .fin)), (12, .one 9 (.one 13 .fin))])])]), (9, .alt [(4, .alt [(10, .one 11 (.one 12 (.one 13 .fin))), (11, .one 10 (.one 12 (.one 13 .fin)))]), (10, .alt [(4, .one 11 (.one 12 (.one 13 .fin))), (11, .one 4 (.one 12 (.one 13 .fin)))]), (11, .alt [(4, .one 10 (.one 12 (.one 13 .fin))), (10, .one 4 (.one 12 (.one 13 .fin)))])]), (10, .alt [(4, .alt [(9, .one 11 (.one 12 (.one 13 .fin))), (11, .alt [(9, .one 12 (.one 13 .fin)), (12, .one 9 (.one 13 .fin))])]), (9, .alt [(4, .one 11 (.one 12 (.one 13 .fin))), (11, .one 4 (.one 12 (.one 13 .fin)))]), (11, .alt [(4, .alt [(9, .one 12 (.one 13 .fin)), (12, .one 9 (.one 13 .fin))]), (9, .one 4 (.one 12 (.one 13 .fin)))])]), (11, .alt [(4, .alt [(9, .one 10 (.one 12 (.one 13 .fin))), (10, .alt [(9, .one 12 (.one 13 .fin)), (12, .one 9 (.one 13 .fin))])]), (9, .alt [(4, .one 10 (.one 12 (.one 13 .fin))), (10, .one 4 (.one 12 (.one 13 .fin)))]), (10, .alt [(4, .alt [(9, .one 12 (.one 13 .fin)), (12, .one 9 (.one 13 .fin))]), (9, .one 4 (.one 12 (.one 13 .fin)))])])])))] mixed Try.call37 Try.func37 rfl Try.ntmps37 Try.results37 (by decide +kernel) rfl rfl rfl ?_
  simp only [push_cast, ↓branch_true, ↓branch_false, Nat.reduceBEq, Nat.reduceAdd, Nat.reduceMul, Nat.reduceSub, Int.reduceToNat, reduceCtorEq, branch_decide, branch_not, branch_beq, branch_bne, Int.reduceAdd, Int.reduceEq, Int.reduceLE, Int.reduceLT, Nat.reduceLT, Nat.reduceLeDiff, false_imp_iff, true_imp_iff]
  simp only [push_cast, ↓branch_true, ↓branch_false, Nat.reduceBEq, Nat.reduceAdd, Nat.reduceMul, Nat.reduceSub, Int.reduceToNat, reduceCtorEq, branch_decide, branch_not, branch_beq, branch_bne, Int.reduceAdd, Int.reduceEq, Int.reduceLE, Int.reduceLT, Nat.reduceLT, Nat.reduceLeDiff, false_imp_iff, true_imp_iff, hn2, hm2]
  refine tr_loop0 mixed (by kernel_rfl) (fun (k : Nat) => [(5, .v (.int .i64 k)), (3, .p 7 0 0), (2, .p 6 0 0)]) (fun k => k ≤ p.n) (fun k => p.n - k) 0 (Nat.zero_le _) ?_ ?_
  · simp only [push_cast, ↓branch_true, ↓branch_false, Nat.reduceBEq, Nat.reduceAdd, Nat.reduceMul, Nat.reduceSub, Int.reduceToNat, reduceCtorEq, branch_decide, branch_not, branch_beq, branch_bne, Int.reduceAdd, Int.reduceEq, Int.reduceLE, Int.reduceLT, Nat.reduceLT, Nat.reduceLeDiff, false_imp_iff, true_imp_iff]
  intro k hk
  simp only [push_cast, ↓branch_true, ↓branch_false, Nat.reduceBEq, Nat.reduceAdd, Nat.reduceMul, Nat.reduceSub, Int.reduceToNat, reduceCtorEq, branch_decide, branch_not, branch_beq, branch_bne, Int.reduceAdd, Int.reduceEq, Int.reduceLE, Int.reduceLT, Nat.reduceLT, Nat.reduceLeDiff, false_imp_iff, true_imp_iff]
  refine ⟨fun h1 => ?_, fun h1 => ?_⟩
  · have hkn : k < p.n := by omega
    have hc := h.co k hkn
    repeat (with_reducible refine And.intro (by omega) ?_)
    refine ⟨fun _ => ?_, fun hne => absurd hc.symm hne⟩
    repeat (with_reducible refine And.intro (by omega) ?_)
    refine lp0_normal (k + 1) (by omega) (by omega) ?_
    simp only [push_cast, ↓branch_true, ↓branch_false, Nat.reduceBEq, Nat.reduceAdd, Nat.reduceMul, Nat.reduceSub, Int.reduceToNat, reduceCtorEq, branch_decide, branch_not, branch_beq, branch_bne, Int.reduceAdd, Int.reduceEq, Int.reduceLE, Int.reduceLT, Nat.reduceLT, Nat.reduceLeDiff, false_imp_iff, true_imp_iff]
  obtain rfl : k = p.n := by omega
  refine tr_loop mixed (by kernel_rfl) (fun (t : Nat) => [(6, .v (.int .i64 t)), (3, .p 7 0 0), (2, .p 6 0 0)]) (fun _ => obP p ++ obQ q ++ [rBx p, ⟨25, true, .st [.s 3 0 0 p.n q.nc 1, .s 4 0 0 p.m q.mc 3]⟩]) (fun t => t ≤ p.m) (fun t => p.m - t) 0 (Nat.zero_le _) (Mt.wk (rl := [0, 1, 2, 3, 4, 5, 6, 7]) ⟨by kernel_rfl, ?_, ?_⟩) ?_
  · simp only [push_cast, ↓branch_true, ↓branch_false, Nat.reduceBEq, Nat.reduceAdd, Nat.reduceMul, Nat.reduceSub, Int.reduceToNat, reduceCtorEq, branch_decide, branch_not, branch_beq, branch_bne, Int.reduceAdd, Int.reduceEq, Int.reduceLE, Int.reduceLT, Nat.reduceLT, Nat.reduceLeDiff, false_imp_iff, true_imp_iff]
  · simp only [push_cast, ↓branch_true, ↓branch_false, Nat.reduceBEq, Nat.reduceAdd, Nat.reduceMul, Nat.reduceSub, Int.reduceToNat, reduceCtorEq, branch_decide, branch_not, branch_beq, branch_bne, Int.reduceAdd, Int.reduceEq, Int.reduceLE, Int.reduceLT, Nat.reduceLT, Nat.reduceLeDiff, false_imp_iff, true_imp_iff, hn2, hm2]
    try trivial
  intro t ht
  simp only [push_cast, ↓branch_true, ↓branch_false, Nat.reduceBEq, Nat.reduceAdd, Nat.reduceMul, Nat.reduceSub, Int.reduceToNat, reduceCtorEq, branch_decide, branch_not, branch_beq, branch_bne, Int.reduceAdd, Int.reduceEq, Int.reduceLE, Int.reduceLT, Nat.reduceLT, Nat.reduceLeDiff, false_imp_iff, true_imp_iff, hn2, hm2]
  intro htm0
  have htm : t < p.m := by omega
  have e1 := h.ln t htm
  have e2 := h.kd t htm
  have e3 := h.b t htm
  have hlt := hl t htm
  refine ⟨[(7, .p 8 0 0), (8, .p 9 0 0), (6, .v (.int .i64 t)), (3, .p 7 0 0), (2, .p 6 0 0)], obP p ++ obQ q ++ [rBx p, ⟨25, true, .st [.s 3 0 0 p.n q.nc 1, .s 4 0 0 p.m q.mc 3]⟩, ⟨45, false, .st [.s 2 t 0 (p.ln t) (p.cp t) 1, .v (.int .i64 (p.kd t)), .v (.int .i64 (p.b t))]⟩, ⟨45, false, .st [.s 5 t 0 (p.ln t) (q.cp t) 1, .v (.int .i64 (p.kd t)), .v (.int .i64 (p.b t))]⟩], ?_, ?_⟩
  · simp only [push_cast, ↓branch_true, ↓branch_false, Nat.reduceBEq, Nat.reduceAdd, Nat.reduceMul, Nat.reduceSub, Int.reduceToNat, reduceCtorEq, branch_decide, branch_not, branch_beq, branch_bne, Int.reduceAdd, Int.reduceEq, Int.reduceLE, Int.reduceLT, Nat.reduceLT, Nat.reduceLeDiff, false_imp_iff, true_imp_iff, hn2, hm2, e1, e2, e3]
    repeat' (first
      | (with_reducible apply And.intro)
      | omega)
    all_goals first
      | (refine Mt.wk (rl := [0, 1, 2, 3, 4, 5, 6, 7, 8, 9]) ⟨by kernel_rfl, ?_, ?_⟩
         · simp only [push_cast, ↓branch_true, ↓branch_false, Nat.reduceBEq, Nat.reduceAdd, Nat.reduceMul, Nat.reduceSub, Int.reduceToNat, reduceCtorEq, branch_decide, branch_not, branch_beq, branch_bne, Int.reduceAdd, Int.reduceEq, Int.reduceLE, Int.reduceLT, Nat.reduceLT, Nat.reduceLeDiff, false_imp_iff, true_imp_iff]
           try trivial
         · simp only [push_cast, ↓branch_true, ↓branch_false, Nat.reduceBEq, Nat.reduceAdd, Nat.reduceMul, Nat.reduceSub, Int.reduceToNat, reduceCtorEq, branch_decide, branch_not, branch_beq, branch_bne, Int.reduceAdd, Int.reduceEq, Int.reduceLE, Int.reduceLT, Nat.reduceLT, Nat.reduceLeDiff, false_imp_iff, true_imp_iff]
         )
      | (refine Mt.wk (rl := [0, 1, 2, 3, 4, 5, 6, 7, 9, 8]) ⟨by kernel_rfl, ?_, ?_⟩
         · simp only [push_cast, ↓branch_true, ↓branch_false, Nat.reduceBEq, Nat.reduceAdd, Nat.reduceMul, Nat.reduceSub, Int.reduceToNat, reduceCtorEq, branch_decide, branch_not, branch_beq, branch_bne, Int.reduceAdd, Int.reduceEq, Int.reduceLE, Int.reduceLT, Nat.reduceLT, Nat.reduceLeDiff, false_imp_iff, true_imp_iff]
           try trivial
         · simp only [push_cast, ↓branch_true, ↓branch_false, Nat.reduceBEq, Nat.reduceAdd, Nat.reduceMul, Nat.reduceSub, Int.reduceToNat, reduceCtorEq, branch_decide, branch_not, branch_beq, branch_bne, Int.reduceAdd, Int.reduceEq, Int.reduceLE, Int.reduceLT, Nat.reduceLT, Nat.reduceLeDiff, false_imp_iff, true_imp_iff]
         )
  · simp only [push_cast, ↓branch_true, ↓branch_false, Nat.reduceBEq, Nat.reduceAdd, Nat.reduceMul, Nat.reduceSub, Int.reduceToNat, reduceCtorEq, branch_decide, branch_not, branch_beq, branch_bne, Int.reduceAdd, Int.reduceEq, Int.reduceLE, Int.reduceLT, Nat.reduceLT, Nat.reduceLeDiff, false_imp_iff, true_imp_iff, jnK, e1, e2, e3]
    refine tr_loop0 mixed (by kernel_rfl) (fun (k : Nat) => [(9, .v (.int .i64 k)), (7, .p 8 0 0), (8, .p 9 0 0), (6, .v (.int .i64 t)), (3, .p 7 0 0), (2, .p 6 0 0)]) (fun k => k ≤ p.ln t) (fun k => p.ln t - k) 0 (Nat.zero_le _) ?_ ?_
    · simp only [push_cast, ↓branch_true, ↓branch_false, Nat.reduceBEq, Nat.reduceAdd, Nat.reduceMul, Nat.reduceSub, Int.reduceToNat, reduceCtorEq, branch_decide, branch_not, branch_beq, branch_bne, Int.reduceAdd, Int.reduceEq, Int.reduceLE, Int.reduceLT, Nat.reduceLT, Nat.reduceLeDiff, false_imp_iff, true_imp_iff]
    intro k hk
    have hf1 := p.fzm
    have hf2 := q.fzm
    simp only [push_cast, ↓branch_true, ↓branch_false, Nat.reduceBEq, Nat.reduceAdd, Nat.reduceMul, Nat.reduceSub, Int.reduceToNat, reduceCtorEq, branch_decide, branch_not, branch_beq, branch_bne, Int.reduceAdd, Int.reduceEq, Int.reduceLE, Int.reduceLT, Nat.reduceLT, Nat.reduceLeDiff, false_imp_iff, true_imp_iff]
    refine ⟨fun h4 => ?_, fun h4 => ?_⟩
    · have hkl : k < p.ln t := by omega
      have hc := h.a t k htm hkl
      repeat' (first
        | (with_reducible apply And.intro)
        | omega)
      all_goals first
        | (intro hne; exact absurd hc.symm hne)
        | (intro _
           repeat' (first
             | (with_reducible apply And.intro)
             | omega)
           refine lp0_normal (k + 1) (by omega) (by omega) ?_
           simp only [push_cast, ↓branch_true, ↓branch_false, Nat.reduceBEq, Nat.reduceAdd, Nat.reduceMul, Nat.reduceSub, Int.reduceToNat, reduceCtorEq, branch_decide, branch_not, branch_beq, branch_bne, Int.reduceAdd, Int.reduceEq, Int.reduceLE, Int.reduceLT, Nat.reduceLT, Nat.reduceLeDiff, false_imp_iff, true_imp_iff]
           )
    refine ⟨⟨by omega, by omega⟩, ?_⟩
    refine lpK_normal (t + 1) [0, 1, 2, 3, 4, 5, 6, 7] (by omega) (by omega) (by kernel_rfl) ?_ ?_
    · simp only [push_cast, ↓branch_true, ↓branch_false, Nat.reduceBEq, Nat.reduceAdd, Nat.reduceMul, Nat.reduceSub, Int.reduceToNat, reduceCtorEq, branch_decide, branch_not, branch_beq, branch_bne, Int.reduceAdd, Int.reduceEq, Int.reduceLE, Int.reduceLT, Nat.reduceLT, Nat.reduceLeDiff, false_imp_iff, true_imp_iff]
      try trivial
    · simp only [push_cast, ↓branch_true, ↓branch_false, Nat.reduceBEq, Nat.reduceAdd, Nat.reduceMul, Nat.reduceSub, Int.reduceToNat, reduceCtorEq, branch_decide, branch_not, branch_beq, branch_bne, Int.reduceAdd, Int.reduceEq, Int.reduceLE, Int.reduceLT, Nat.reduceLT, Nat.reduceLeDiff, false_imp_iff, true_imp_iff]
      refine ⟨fun _ _ => ?_, fun _ _ => ?_⟩ <;> omega
set_option maxHeartbeats 16000000 in
/-- Two programs without objective and rows are the same. -/
theorem same0_pu : Pu Try.prog 37 [.a [.v (.slice none 0 0), .v (.slice none 0 0)], .a [.v (.slice none 0 0), .v (.slice none 0 0)]] [] (.v (.bool true)) := by
  refine pu_of_ex true [(11, .jn (.pre [6, 7] [0, 1, 2, 3, 5, 6, 7, 8] (.alt [(4, .alt [(9, .alt [(10, .one 11 (.one 12 (.one 13 .fin))), (11, .one 10 (.one 12 (.one 13 .fin)))]), (10, .alt [(9, .one 11 (.one 12 (.one 13 .fin))), (11, .alt [(9, .one 12 (.one 13 .fin)), (12, .one 9 (.one 13 .fin))])]), (11, .alt [(9, .one 10 (.one 12 (.one 13 .fin))), (10, .alt [(9, .one 12 (.one 13 .fin)), (12, .one 9 (.one 13 .fin))])])]), (9, .alt [(4, .alt [(10, .one 11 (.one 12 (.one 13 .fin))), (11, .one 10 (.one 12 (.one 13 .fin)))]), (10, .alt [(4, .one 11 (.one 12 (.one 13 .fin))), (11, .one 4 (.one 12 (.one 13 .fin)))]), (11, .alt [(4, .one 10 (.one 12 (.one 13 .fin))), (10, .one 4 (.one 12 (.one 13 .fin)))])]), (10, .alt [(4, .alt [(9, .one 11 (.one 12 (.one 13 .fin))), (11, .alt [(9, .one 12 (.one 13 .fin)), (12, .one 9 (.one 13 .fin))])]), (9, .alt [(4, .one 11 (.one 12 (.one 13 .fin))), (11, .one 4 (.one 12 (.one 13 .fin)))]), (11, .alt [(4, .alt [(9, .one 12 (.one 13 .fin)), (12, .one 9 (.one 13 .fin))]), (9, .one 4 (.one 12 (.one 13 .fin)))])]), (11, .alt [(4, .alt [(9, .one 10 (.one 12 (.one 13 .fin))), (10, .alt [(9, .one 12 (.one 13 .fin)), (12, .one 9 (.one 13 .fin))])]), (9, .alt [(4, .one 10 (.one 12 (.one 13 .fin))), (10, .one 4 (.one 12 (.one 13 .fin)))]), (10, .alt [(4, .alt [(9, .one 12 (.one 13 .fin)), (12, .one 9 (.one 13 .fin))]), (9, .one 4 (.one 12 (.one 13 .fin)))])])])))] mixed Try.call37 Try.func37 rfl Try.ntmps37 Try.results37 (by decide +kernel) rfl rfl rfl ?_
  simp only [push_cast, ↓branch_true, ↓branch_false, Nat.reduceBEq, Nat.reduceAdd, Nat.reduceMul, Nat.reduceSub, Int.reduceToNat, reduceCtorEq, branch_decide, branch_not, branch_beq, branch_bne, Int.reduceAdd, Int.reduceEq, Int.reduceLE, Int.reduceLT, Nat.reduceLT, Nat.reduceLeDiff, false_imp_iff, true_imp_iff]
  refine tr_loop0 mixed (by kernel_rfl) (fun (_ : Nat) => [(5, .v (.int .i64 0)), (3, .p 1 0 0), (2, .p 0 0 0)]) (fun _ => True) (fun k => k) 0 trivial ?_ ?_
  · simp only [push_cast, ↓branch_true, ↓branch_false, Nat.reduceBEq, Nat.reduceAdd, Nat.reduceMul, Nat.reduceSub, Int.reduceToNat, reduceCtorEq, branch_decide, branch_not, branch_beq, branch_bne, Int.reduceAdd, Int.reduceEq, Int.reduceLE, Int.reduceLT, Nat.reduceLT, Nat.reduceLeDiff, false_imp_iff, true_imp_iff]
  intro k _
  simp only [push_cast, ↓branch_true, ↓branch_false, Nat.reduceBEq, Nat.reduceAdd, Nat.reduceMul, Nat.reduceSub, Int.reduceToNat, reduceCtorEq, branch_decide, branch_not, branch_beq, branch_bne, Int.reduceAdd, Int.reduceEq, Int.reduceLE, Int.reduceLT, Nat.reduceLT, Nat.reduceLeDiff, false_imp_iff, true_imp_iff]
  refine tr_loop0 mixed (by kernel_rfl) (fun (_ : Nat) => [(6, .v (.int .i64 0)), (3, .p 1 0 0), (2, .p 0 0 0)]) (fun _ => True) (fun k => k) 0 trivial ?_ ?_
  · simp only [push_cast, ↓branch_true, ↓branch_false, Nat.reduceBEq, Nat.reduceAdd, Nat.reduceMul, Nat.reduceSub, Int.reduceToNat, reduceCtorEq, branch_decide, branch_not, branch_beq, branch_bne, Int.reduceAdd, Int.reduceEq, Int.reduceLE, Int.reduceLT, Nat.reduceLT, Nat.reduceLeDiff, false_imp_iff, true_imp_iff]
  intro k _
  simp only [push_cast, ↓branch_true, ↓branch_false, Nat.reduceBEq, Nat.reduceAdd, Nat.reduceMul, Nat.reduceSub, Int.reduceToNat, reduceCtorEq, branch_decide, branch_not, branch_beq, branch_bne, Int.reduceAdd, Int.reduceEq, Int.reduceLE, Int.reduceLT, Nat.reduceLT, Nat.reduceLeDiff, false_imp_iff, true_imp_iff]
end Go.Proofs.Ytmefgachdnlaoaa
