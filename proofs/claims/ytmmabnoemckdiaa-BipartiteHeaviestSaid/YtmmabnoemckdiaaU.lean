/- Contracts: large; the example. -/
import Derived.Test.YtmmabnoemckdiaaT
import Derived.Test.YtmmabnoemckdiaaUA
import Derived.Test.YtmmabnoemckdiaaJ
set_option maxRecDepth 100000
set_option linter.unusedSimpArgs false
set_option linter.unusedVariables false
namespace Go.Proofs.Ytmmabnoemckdiaa
open Go.RowKit Bip
def largeB (n m : Int) (l : List Ed) : Bool := decide (n > 10) && decide (n ≤ 60) || decide (m > 10) && decide (m ≤ 60) || decide (l.length > 60) && decide (l.length ≤ 1000) || decide (l.length > 1005)
theorem large_pu (n m : Int) (l : List Ed) (c : Nat) (hl : l.length ≤ 9223372036854775807) : Pu Try.prog 19 [.v (.int .i64 n), .v (.int .i64 m), .s 0 0 0 l.length c 2] [rEd l] (.v (.bool (largeB n m l))) := by
  refine pu_of_ex true [] mixed Try.call19 Try.func19 rfl Try.ntmps19 Try.results19 (by decide +kernel) rfl rfl rfl ?_
  simp only [push_cast, ↓branch_true, ↓branch_false, Nat.reduceBEq, Nat.reduceAdd, Nat.reduceMul, Nat.reduceSub, Int.reduceToNat, reduceCtorEq, branch_decide, branch_not, branch_beq, branch_bne, Int.reduceAdd, Int.reduceEq, Int.reduceLE, Int.reduceLT, Nat.reduceLT, Nat.reduceLeDiff, false_imp_iff, true_imp_iff]
  repeat' (with_reducible (first | apply And.intro | intro _))
  all_goals (refine vb ?_; rw [Bool.eq_iff_iff]; simp [largeB]; omega)
def exE : List Ed := [⟨0, 0⟩, ⟨1, 0⟩, ⟨1, 1⟩, ⟨2, 1⟩]
def exW : List (List Int) := [[3, 2], [2, -1]]
theorem ex_match : matchR exE 3 2 = [0, 1, -1] ∧ errR exE 3 2 = 0 := by decide +kernel
theorem ex_cover : covA exE 3 2 = [] ∧ covB exE 3 2 = [0, 1] := by decide +kernel
theorem ex_viol : violR exE 3 2 = [0, 1, 2] ∧ violE exE 3 2 = 0 := by decide +kernel
theorem ex_heavy : wErr exW = 0 ∧ wSum exW = 4 ∧ wOut exW = [1, 0] := by decide +kernel
theorem lit_row (l : List Int) (L : List SV) (h : L = l.map fun x => .v (.int .i64 x)) (rl : List Nat) (k : Nat) (hk : k < l.length) : mtL rl [.v (.int .i64 (ix l k))] (List.take 1 (List.drop (k * 1) L)) := by
  subst h
  have e : List.take 1 (List.drop (k * 1) (l.map fun x => SV.v (.int .i64 x))) = [.v (.int .i64 (ix l k))] := by
    rw [Nat.mul_one, ← List.map_drop, ← List.map_take, List.drop_eq_getElem_cons hk, ix_eq hk]
    rfl
  rw [e]
  simp only [push_cast, ↓branch_true, ↓branch_false, Nat.reduceBEq, Nat.reduceAdd, Nat.reduceMul, Nat.reduceSub, Int.reduceToNat, reduceCtorEq, branch_decide, branch_not, branch_beq, branch_bne, Int.reduceAdd, Int.reduceEq, Int.reduceLE, Int.reduceLT, Nat.reduceLT, Nat.reduceLeDiff, false_imp_iff, true_imp_iff]
theorem lit_ed (rl : List Nat) (k : Nat) (hk : k < exE.length) : mtL rl [SV.v (Value.int IntKind.i64 (ix exE k).x), SV.v (Value.int IntKind.i64 (ix exE k).y)]
              (List.take 2
                (List.drop (k * 2)
                  [SV.v (Value.int IntKind.i64 0), SV.v (Value.int IntKind.i64 0), SV.v (Value.int IntKind.i64 1),
                    SV.v (Value.int IntKind.i64 0), SV.v (Value.int IntKind.i64 1), SV.v (Value.int IntKind.i64 1),
                    SV.v (Value.int IntKind.i64 2), SV.v (Value.int IntKind.i64 1)])) := by
  have hk : k < 4 := hk
  rcases (by omega : k = 0 ∨ k = 1 ∨ k = 2 ∨ k = 3) with rfl | rfl | rfl | rfl <;> exact ⟨rfl, rfl, trivial⟩
def exWO (a b : Nat) : Ob := ⟨25, true, .row 1 1 (fun _ => 2) (fun _ => 0) (fun _ k => bif k == 0 then [.s a 0 0 2 2 1] else [.s b 0 0 2 2 1])⟩
attribute [push_cast] exWO
def exH : List Ob := [rEd exE, rR [0, 1, -1], rR [], rR [0, 1], rR [0, 1, 2], rR [3, 2], rR [2, -1], exWO 5 6]
theorem exH_ld (k : Nat) (hk : k < 2) : ∃ x, (fun (_ : Nat) (k : Nat) => bif k == 0 then [SV.s 5 0 0 2 2 1] else [SV.s 6 0 0 2 2 1]) 0 k = [x] ∧ Ld exH x (ix exW k) 2 := by
  rcases (by omega : k = 0 ∨ k = 1) with rfl | rfl
  · refine ⟨.s 5 0 0 2 2 1, rfl, 5, 0, 0, rfl, fun _ => ⟨_, _, _, _, _, _, rfl, Nat.zero_lt_one, Nat.le_refl 2, fun q _ => by rw [Nat.zero_add]; rfl⟩⟩
  · refine ⟨.s 6 0 0 2 2 1, rfl, 6, 0, 0, rfl, fun _ => ⟨_, _, _, _, _, _, rfl, Nat.zero_lt_one, Nat.le_refl 2, fun q _ => by rw [Nat.zero_add]; rfl⟩⟩
theorem exW_len (i : Nat) : (ix exW i).length ≤ 1000 := by
  rcases (by omega : i = 0 ∨ i = 1 ∨ 2 ≤ i) with rfl | rfl | h
  · decide
  · decide
  · unfold ix
    rw [List.getD_eq_getElem?_getD, List.getElem?_eq_none h]
    decide
set_option maxHeartbeats 1000000 in
theorem awake_sp : Sp Try.prog 10 [] [] (fun r H => r = .v (.bool true) ∧ H = []) := by
  refine sp_weak ?_
  refine sp_of_ex true [] mixed Try.call10 Try.func10 rfl Try.ntmps10 Try.results10 (by decide +kernel) rfl ?_
  simp only [push_cast, ↓branch_true, ↓branch_false, Nat.reduceBEq, Nat.reduceAdd, Nat.reduceMul, Nat.reduceSub, Int.reduceToNat, reduceCtorEq, branch_decide, branch_not, branch_beq, branch_bne, Int.reduceAdd, Int.reduceEq, Int.reduceLE, Int.reduceLT, Nat.reduceLT, Nat.reduceLeDiff, false_imp_iff, true_imp_iff]
  repeat (with_reducible refine And.intro (by omega) ?_)
  refine sp_at (match_sp exE 3 2 4 (by decide)) [0] rfl ?_ ?_ ?_
  · simp only [push_cast, ↓branch_true, ↓branch_false, Nat.reduceBEq, Nat.reduceAdd, Nat.reduceMul, Nat.reduceSub, Int.reduceToNat, reduceCtorEq, branch_decide, branch_not, branch_beq, branch_bne, Int.reduceAdd, Int.reduceEq, Int.reduceLE, Int.reduceLT, Nat.reduceLT, Nat.reduceLeDiff, false_imp_iff, true_imp_iff]
    rfl
  · simp only [push_cast, ↓branch_true, ↓branch_false, Nat.reduceBEq, Nat.reduceAdd, Nat.reduceMul, Nat.reduceSub, Int.reduceToNat, reduceCtorEq, branch_decide, branch_not, branch_beq, branch_bne, Int.reduceAdd, Int.reduceEq, Int.reduceLE, Int.reduceLT, Nat.reduceLT, Nat.reduceLeDiff, false_imp_iff, true_imp_iff]
    exact fun _ _ => ⟨Nat.le_refl _, fun k hk => lit_ed _ k hk⟩
  rintro _ _ ⟨cap, hcap, rfl, rfl⟩
  rw [ex_match.1, ex_match.2] at *
  simp only [push_cast, ↓branch_true, ↓branch_false, Nat.reduceBEq, Nat.reduceAdd, Nat.reduceMul, Nat.reduceSub, Int.reduceToNat, reduceCtorEq, branch_decide, branch_not, branch_beq, branch_bne, Int.reduceAdd, Int.reduceEq, Int.reduceLE, Int.reduceLT, Nat.reduceLT, Nat.reduceLeDiff, false_imp_iff, true_imp_iff]
  refine sp_at (cover_sp exE 3 2 4 (by decide)) [0] rfl ?_ ?_ ?_
  · simp only [push_cast, ↓branch_true, ↓branch_false, Nat.reduceBEq, Nat.reduceAdd, Nat.reduceMul, Nat.reduceSub, Int.reduceToNat, reduceCtorEq, branch_decide, branch_not, branch_beq, branch_bne, Int.reduceAdd, Int.reduceEq, Int.reduceLE, Int.reduceLT, Nat.reduceLT, Nat.reduceLeDiff, false_imp_iff, true_imp_iff]
    rfl
  · simp only [push_cast, ↓branch_true, ↓branch_false, Nat.reduceBEq, Nat.reduceAdd, Nat.reduceMul, Nat.reduceSub, Int.reduceToNat, reduceCtorEq, branch_decide, branch_not, branch_beq, branch_bne, Int.reduceAdd, Int.reduceEq, Int.reduceLE, Int.reduceLT, Nat.reduceLT, Nat.reduceLeDiff, false_imp_iff, true_imp_iff]
    try trivial
  rintro _ _ ⟨c1, c2, hc1, hc2, rfl, rfl⟩
  rw [ex_cover.1, ex_cover.2, ex_match.2] at *
  simp only [push_cast, ↓branch_true, ↓branch_false, Nat.reduceBEq, Nat.reduceAdd, Nat.reduceMul, Nat.reduceSub, Int.reduceToNat, reduceCtorEq, branch_decide, branch_not, branch_beq, branch_bne, Int.reduceAdd, Int.reduceEq, Int.reduceLE, Int.reduceLT, Nat.reduceLT, Nat.reduceLeDiff, false_imp_iff, true_imp_iff]
  refine sp_at (violator_sp exE 3 2 4 (by decide)) [0] rfl ?_ ?_ ?_
  · simp only [push_cast, ↓branch_true, ↓branch_false, Nat.reduceBEq, Nat.reduceAdd, Nat.reduceMul, Nat.reduceSub, Int.reduceToNat, reduceCtorEq, branch_decide, branch_not, branch_beq, branch_bne, Int.reduceAdd, Int.reduceEq, Int.reduceLE, Int.reduceLT, Nat.reduceLT, Nat.reduceLeDiff, false_imp_iff, true_imp_iff]
    rfl
  · simp only [push_cast, ↓branch_true, ↓branch_false, Nat.reduceBEq, Nat.reduceAdd, Nat.reduceMul, Nat.reduceSub, Int.reduceToNat, reduceCtorEq, branch_decide, branch_not, branch_beq, branch_bne, Int.reduceAdd, Int.reduceEq, Int.reduceLE, Int.reduceLT, Nat.reduceLT, Nat.reduceLeDiff, false_imp_iff, true_imp_iff]
    try trivial
  rintro _ _ ⟨c3, hc3, rfl, rfl⟩
  rw [ex_viol.1, ex_viol.2] at *
  simp only [push_cast, ↓branch_true, ↓branch_false, Nat.reduceBEq, Nat.reduceAdd, Nat.reduceMul, Nat.reduceSub, Int.reduceToNat, reduceCtorEq, branch_decide, branch_not, branch_beq, branch_bne, Int.reduceAdd, Int.reduceEq, Int.reduceLE, Int.reduceLT, Nat.reduceLT, Nat.reduceLeDiff, false_imp_iff, true_imp_iff]
  repeat (with_reducible refine And.intro (by omega) ?_)
  refine sp_pre ((lwk_mt (l' := [.s 7 0 0 2 2 1]) (H' := exH) [0, 1, 2, 3, 4, 5, 6, 7] ?_ (by kernel_rfl) ?_).trans (wk_near (J := 7) (near := ix exW) (cp := fun _ => 2) rfl rfl (Nat.le_refl 2) exH_ld)) ?_
  · simp only [push_cast, ↓branch_true, ↓branch_false, Nat.reduceBEq, Nat.reduceAdd, Nat.reduceMul, Nat.reduceSub, Int.reduceToNat, reduceCtorEq, branch_decide, branch_not, branch_beq, branch_bne, Int.reduceAdd, Int.reduceEq, Int.reduceLE, Int.reduceLT, Nat.reduceLT, Nat.reduceLeDiff, false_imp_iff, true_imp_iff]
    try trivial
  · simp only [push_cast, ↓branch_true, ↓branch_false, Nat.reduceBEq, Nat.reduceAdd, Nat.reduceMul, Nat.reduceSub, Int.reduceToNat, reduceCtorEq, branch_decide, branch_not, branch_beq, branch_bne, Int.reduceAdd, Int.reduceEq, Int.reduceLE, Int.reduceLT, Nat.reduceLT, Nat.reduceLeDiff, false_imp_iff, true_imp_iff, exH]
    refine ⟨fun _ _ k hk => lit_row [3, 2] _ rfl _ k hk, fun _ _ k hk => lit_row [2, -1] _ rfl _ k hk, fun _ _ k hk => ?_⟩
    rcases (by omega : k = 0 ∨ k = 1) with rfl | rfl <;> (simp only [push_cast, ↓branch_true, ↓branch_false, Nat.reduceBEq, Nat.reduceAdd, Nat.reduceMul, Nat.reduceSub, Int.reduceToNat, reduceCtorEq, branch_decide, branch_not, branch_beq, branch_bne, Int.reduceAdd, Int.reduceEq, Int.reduceLE, Int.reduceLT, Nat.reduceLT, Nat.reduceLeDiff, false_imp_iff, true_imp_iff])
  refine sp_at (heavy_sp exW 2 (fun _ => 2) (by decide) exW_len) [8, 9] rfl ?_ ?_ ?_
  · simp only [push_cast, ↓branch_true, ↓branch_false, Nat.reduceBEq, Nat.reduceAdd, Nat.reduceMul, Nat.reduceSub, Int.reduceToNat, reduceCtorEq, branch_decide, branch_not, branch_beq, branch_bne, Int.reduceAdd, Int.reduceEq, Int.reduceLE, Int.reduceLT, Nat.reduceLT, Nat.reduceLeDiff, false_imp_iff, true_imp_iff, exH]
    rfl
  · simp only [push_cast, ↓branch_true, ↓branch_false, Nat.reduceBEq, Nat.reduceAdd, Nat.reduceMul, Nat.reduceSub, Int.reduceToNat, reduceCtorEq, branch_decide, branch_not, branch_beq, branch_bne, Int.reduceAdd, Int.reduceEq, Int.reduceLE, Int.reduceLT, Nat.reduceLT, Nat.reduceLeDiff, false_imp_iff, true_imp_iff, exH]
    exact ⟨fun _ _ => Nat.le_refl _, rfl⟩
  rintro _ _ ⟨c4, hc4, rfl, rfl⟩
  rw [ex_heavy.1, ex_heavy.2.1, ex_heavy.2.2] at *
  simp only [push_cast, ↓branch_true, ↓branch_false, Nat.reduceBEq, Nat.reduceAdd, Nat.reduceMul, Nat.reduceSub, Int.reduceToNat, reduceCtorEq, branch_decide, branch_not, branch_beq, branch_bne, Int.reduceAdd, Int.reduceEq, Int.reduceLE, Int.reduceLT, Nat.reduceLT, Nat.reduceLeDiff, false_imp_iff, true_imp_iff, exH]
  repeat (with_reducible refine And.intro (by omega) ?_)
  refine sp_call (equal_pu [0, 1, -1] [0, 1, -1] cap 3 (by decide) (by decide)) rfl [1, 11] rfl ?_ ?_ ?_
  · simp only [push_cast, ↓branch_true, ↓branch_false, Nat.reduceBEq, Nat.reduceAdd, Nat.reduceMul, Nat.reduceSub, Int.reduceToNat, reduceCtorEq, branch_decide, branch_not, branch_beq, branch_bne, Int.reduceAdd, Int.reduceEq, Int.reduceLE, Int.reduceLT, Nat.reduceLT, Nat.reduceLeDiff, false_imp_iff, true_imp_iff]
  · simp only [push_cast, ↓branch_true, ↓branch_false, Nat.reduceBEq, Nat.reduceAdd, Nat.reduceMul, Nat.reduceSub, Int.reduceToNat, reduceCtorEq, branch_decide, branch_not, branch_beq, branch_bne, Int.reduceAdd, Int.reduceEq, Int.reduceLE, Int.reduceLT, Nat.reduceLT, Nat.reduceLeDiff, false_imp_iff, true_imp_iff]
    exact fun _ _ k hk => lit_row [0, 1, -1] _ rfl _ k hk
  rw [decide_eq_true rfl]
  simp only [push_cast, ↓branch_true, ↓branch_false, Nat.reduceBEq, Nat.reduceAdd, Nat.reduceMul, Nat.reduceSub, Int.reduceToNat, reduceCtorEq, branch_decide, branch_not, branch_beq, branch_bne, Int.reduceAdd, Int.reduceEq, Int.reduceLE, Int.reduceLT, Nat.reduceLT, Nat.reduceLeDiff, false_imp_iff, true_imp_iff]
  repeat (with_reducible refine And.intro (by omega) ?_)
  refine sp_call (equal_pu [0, 1] [0, 1] c2 2 (by decide) (by decide)) rfl [3, 12] rfl ?_ ?_ ?_
  · simp only [push_cast, ↓branch_true, ↓branch_false, Nat.reduceBEq, Nat.reduceAdd, Nat.reduceMul, Nat.reduceSub, Int.reduceToNat, reduceCtorEq, branch_decide, branch_not, branch_beq, branch_bne, Int.reduceAdd, Int.reduceEq, Int.reduceLE, Int.reduceLT, Nat.reduceLT, Nat.reduceLeDiff, false_imp_iff, true_imp_iff]
  · simp only [push_cast, ↓branch_true, ↓branch_false, Nat.reduceBEq, Nat.reduceAdd, Nat.reduceMul, Nat.reduceSub, Int.reduceToNat, reduceCtorEq, branch_decide, branch_not, branch_beq, branch_bne, Int.reduceAdd, Int.reduceEq, Int.reduceLE, Int.reduceLT, Nat.reduceLT, Nat.reduceLeDiff, false_imp_iff, true_imp_iff]
    exact fun _ _ k hk => lit_row [0, 1] _ rfl _ k hk
  rw [decide_eq_true rfl]
  simp only [push_cast, ↓branch_true, ↓branch_false, Nat.reduceBEq, Nat.reduceAdd, Nat.reduceMul, Nat.reduceSub, Int.reduceToNat, reduceCtorEq, branch_decide, branch_not, branch_beq, branch_bne, Int.reduceAdd, Int.reduceEq, Int.reduceLE, Int.reduceLT, Nat.reduceLT, Nat.reduceLeDiff, false_imp_iff, true_imp_iff]
  repeat (with_reducible refine And.intro (by omega) ?_)
  refine sp_call (equal_pu [0, 1, 2] [0, 1, 2] c3 3 (by decide) (by decide)) rfl [4, 13] rfl ?_ ?_ ?_
  · simp only [push_cast, ↓branch_true, ↓branch_false, Nat.reduceBEq, Nat.reduceAdd, Nat.reduceMul, Nat.reduceSub, Int.reduceToNat, reduceCtorEq, branch_decide, branch_not, branch_beq, branch_bne, Int.reduceAdd, Int.reduceEq, Int.reduceLE, Int.reduceLT, Nat.reduceLT, Nat.reduceLeDiff, false_imp_iff, true_imp_iff]
  · simp only [push_cast, ↓branch_true, ↓branch_false, Nat.reduceBEq, Nat.reduceAdd, Nat.reduceMul, Nat.reduceSub, Int.reduceToNat, reduceCtorEq, branch_decide, branch_not, branch_beq, branch_bne, Int.reduceAdd, Int.reduceEq, Int.reduceLE, Int.reduceLT, Nat.reduceLT, Nat.reduceLeDiff, false_imp_iff, true_imp_iff]
    exact fun _ _ k hk => lit_row [0, 1, 2] _ rfl _ k hk
  rw [decide_eq_true rfl]
  simp only [push_cast, ↓branch_true, ↓branch_false, Nat.reduceBEq, Nat.reduceAdd, Nat.reduceMul, Nat.reduceSub, Int.reduceToNat, reduceCtorEq, branch_decide, branch_not, branch_beq, branch_bne, Int.reduceAdd, Int.reduceEq, Int.reduceLE, Int.reduceLT, Nat.reduceLT, Nat.reduceLeDiff, false_imp_iff, true_imp_iff]
  repeat (with_reducible refine And.intro (by omega) ?_)
  refine sp_call (equal_pu [1, 0] [1, 0] c4 2 (by decide) (by decide)) rfl [10, 14] rfl ?_ ?_ ?_
  · simp only [push_cast, ↓branch_true, ↓branch_false, Nat.reduceBEq, Nat.reduceAdd, Nat.reduceMul, Nat.reduceSub, Int.reduceToNat, reduceCtorEq, branch_decide, branch_not, branch_beq, branch_bne, Int.reduceAdd, Int.reduceEq, Int.reduceLE, Int.reduceLT, Nat.reduceLT, Nat.reduceLeDiff, false_imp_iff, true_imp_iff]
  · simp only [push_cast, ↓branch_true, ↓branch_false, Nat.reduceBEq, Nat.reduceAdd, Nat.reduceMul, Nat.reduceSub, Int.reduceToNat, reduceCtorEq, branch_decide, branch_not, branch_beq, branch_bne, Int.reduceAdd, Int.reduceEq, Int.reduceLE, Int.reduceLT, Nat.reduceLT, Nat.reduceLeDiff, false_imp_iff, true_imp_iff]
    exact fun _ _ k hk => lit_row [1, 0] _ rfl _ k hk
  rw [decide_eq_true rfl]
  simp only [push_cast, ↓branch_true, ↓branch_false, Nat.reduceBEq, Nat.reduceAdd, Nat.reduceMul, Nat.reduceSub, Int.reduceToNat, reduceCtorEq, branch_decide, branch_not, branch_beq, branch_bne, Int.reduceAdd, Int.reduceEq, Int.reduceLE, Int.reduceLT, Nat.reduceLT, Nat.reduceLeDiff, false_imp_iff, true_imp_iff]
  refine ⟨_, _, [], ?_, by kernel_rfl, ?_, rfl, rfl⟩
  · simp only [push_cast, ↓branch_true, ↓branch_false, Nat.reduceBEq, Nat.reduceAdd, Nat.reduceMul, Nat.reduceSub, Int.reduceToNat, reduceCtorEq, branch_decide, branch_not, branch_beq, branch_bne, Int.reduceAdd, Int.reduceEq, Int.reduceLE, Int.reduceLT, Nat.reduceLT, Nat.reduceLeDiff, false_imp_iff, true_imp_iff]
  · simp only [push_cast, ↓branch_true, ↓branch_false, Nat.reduceBEq, Nat.reduceAdd, Nat.reduceMul, Nat.reduceSub, Int.reduceToNat, reduceCtorEq, branch_decide, branch_not, branch_beq, branch_bne, Int.reduceAdd, Int.reduceEq, Int.reduceLE, Int.reduceLT, Nat.reduceLT, Nat.reduceLeDiff, false_imp_iff, true_imp_iff]
end Go.Proofs.Ytmmabnoemckdiaa
