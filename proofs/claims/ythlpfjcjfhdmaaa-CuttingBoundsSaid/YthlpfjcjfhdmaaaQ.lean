/- Contracts: the example. -/
import Derived.Test.YthlpfjcjfhdmaaaP
import Derived.Test.YthlpfjcjfhdmaaaVE
set_option maxRecDepth 100000
set_option linter.unusedSimpArgs false
set_option linter.unusedVariables false
namespace Go.Proofs.Ythlpfjcjfhdmaaa
open Go.RowKit
def exS : List Pc := lotS 1000
def exPl : List Pt := [⟨0, [1, 1, 0], 2⟩, ⟨0, [0, 0, 1], 1⟩]
theorem ex_st : stB exS = true := by decide +kernel
theorem ex_order : orderB exL = true := by decide +kernel
theorem ex_ord : lnO exL = [0, 1, 2] := by
  refine sort_one ((sortK_perm _ _).trans (by decide +kernel)) (fun x hx y hy e => ?_) (sortK_up _ _) (by decide +kernel)
  exact kH_inj (l := exL) (by decide) (lnO_mem hx) (lnO_mem hy) e
theorem ex_long : longL exL = [0, 0, 1, 1, 2] := by rw [longL, ex_ord]; decide +kernel
theorem ex_cnt : cntL exL = 5 := by decide +kernel
theorem ex_gA : gA exS exL = some ([⟨0, 0, [1, 1, 0]⟩, ⟨0, 0, [1, 1, 0]⟩, ⟨0, 700, [0, 0, 1]⟩], [3]) := by
  rw [gA, ex_long]
  rfl
theorem ex_gErr : gErr exS exL = 0 := by
  rw [gErr, if_neg (by rw [ex_st, ex_order]; simp), if_neg (by rw [ex_cnt]; decide), if_neg (by rw [ex_gA]; simp)]
theorem ex_gRes : gRes exS exL = exPl := by
  rw [gRes, if_pos ex_gErr, ex_gA]
  rfl
theorem ex_giv : givE 1000 exL = 0 := by decide +kernel
theorem ex_lstE : lstE 1000 exL = 0 := by
  rw [lstE, if_neg (by rw [ex_giv]; simp), if_neg (by rw [ex_cnt]; decide)]
theorem ex_lstB : (lstB 1000 exL).length = 3 := by
  rw [(lst_good ex_lstE (by rw [ex_cnt]; decide)).2.2, ex_long]
  decide +kernel
theorem ex_right : rightB exS exL (lstR 1000 exL) = true :=
  bars_right (visOk_bars (lst_good ex_lstE (by rw [ex_cnt]; decide)).1 (by rw [ex_lstB]; decide))
set_option maxHeartbeats 2000000 in
theorem awake_sp : Sp Try.prog 10 [] [] (fun r H => r = .v (.bool true) ∧ H = []) := by
  have hbig := big_eq
  refine sp_weak ?_
  refine sp_of_exa true true [] mixed Try.call10 Try.func10 rfl Try.ntmps10 Try.results10 (by decide +kernel) rfl ?_
  simp only [push_cast, ↓branch_true, ↓branch_false, Nat.reduceBEq, Nat.reduceAdd, Nat.reduceMul, Nat.reduceSub, Int.reduceToNat, reduceCtorEq, branch_decide, branch_not, branch_beq, branch_bne]
  refine sp_at (lots_sp 1000) [] rfl ?_ ?_ ?_
  · simp only [push_cast, ↓branch_true, ↓branch_false, Nat.reduceBEq, Nat.reduceAdd, Nat.reduceMul, Nat.reduceSub, Int.reduceToNat, reduceCtorEq, branch_decide, branch_not, branch_beq, branch_bne]
  · simp only [push_cast, ↓branch_true, ↓branch_false, Nat.reduceBEq, Nat.reduceAdd, Nat.reduceMul, Nat.reduceSub, Int.reduceToNat, reduceCtorEq, branch_decide, branch_not, branch_beq, branch_bne]
  rintro _ _ ⟨rfl, rfl⟩
  simp only [push_cast, ↓branch_true, ↓branch_false, Nat.reduceBEq, Nat.reduceAdd, Nat.reduceMul, Nat.reduceSub, Int.reduceToNat, reduceCtorEq, branch_decide, branch_not, branch_beq, branch_bne]
  refine sp_at example_sp [] rfl ?_ ?_ ?_
  · simp only [push_cast, ↓branch_true, ↓branch_false, Nat.reduceBEq, Nat.reduceAdd, Nat.reduceMul, Nat.reduceSub, Int.reduceToNat, reduceCtorEq, branch_decide, branch_not, branch_beq, branch_bne]
  · simp only [push_cast, ↓branch_true, ↓branch_false, Nat.reduceBEq, Nat.reduceAdd, Nat.reduceMul, Nat.reduceSub, Int.reduceToNat, reduceCtorEq, branch_decide, branch_not, branch_beq, branch_bne]
  rintro _ _ ⟨rfl, rfl⟩
  simp only [push_cast, ↓branch_true, ↓branch_false, Nat.reduceBEq, Nat.reduceAdd, Nat.reduceMul, Nat.reduceSub, Int.reduceToNat, reduceCtorEq, branch_decide, branch_not, branch_beq, branch_bne]
  refine sp_at (greedy_sp exS exL 1 3 (by decide) (by decide)) [0, 1] rfl ?_ ?_ ?_
  · simp only [push_cast, ↓branch_true, ↓branch_false, Nat.reduceBEq, Nat.reduceAdd, Nat.reduceMul, Nat.reduceSub, Int.reduceToNat, reduceCtorEq, branch_decide, branch_not, branch_beq, branch_bne]
    exact ⟨rfl, rfl⟩
  · simp only [push_cast, ↓branch_true, ↓branch_false, Nat.reduceBEq, Nat.reduceAdd, Nat.reduceMul, Nat.reduceSub, Int.reduceToNat, reduceCtorEq, branch_decide, branch_not, branch_beq, branch_bne]
    exact ⟨fun _ _ => ⟨Nat.le_refl _, fun _ _ => ⟨rfl, rfl⟩⟩, fun _ _ => Nat.le_refl _⟩
  rintro _ _ ⟨oc, cp, hoc, rfl, rfl⟩
  rw [ex_gRes, ex_gErr] at *
  simp only [push_cast, ↓branch_true, ↓branch_false, Nat.reduceBEq, Nat.reduceAdd, Nat.reduceMul, Nat.reduceSub, Int.reduceToNat, reduceCtorEq, branch_decide, branch_not, branch_beq, branch_bne]
  refine sp_at example_sp [] rfl ?_ ?_ ?_
  · simp only [push_cast, ↓branch_true, ↓branch_false, Nat.reduceBEq, Nat.reduceAdd, Nat.reduceMul, Nat.reduceSub, Int.reduceToNat, reduceCtorEq, branch_decide, branch_not, branch_beq, branch_bne]
  · simp only [push_cast, ↓branch_true, ↓branch_false, Nat.reduceBEq, Nat.reduceAdd, Nat.reduceMul, Nat.reduceSub, Int.reduceToNat, reduceCtorEq, branch_decide, branch_not, branch_beq, branch_bne]
  rintro _ _ ⟨rfl, rfl⟩
  simp only [push_cast, ↓branch_true, ↓branch_false, Nat.reduceBEq, Nat.reduceAdd, Nat.reduceMul, Nat.reduceSub, Int.reduceToNat, reduceCtorEq, branch_decide, branch_not, branch_beq, branch_bne]
  refine sp_at (least_sp exL 1000 3 (by decide)) [4] rfl ?_ ?_ ?_
  · simp only [push_cast, ↓branch_true, ↓branch_false, Nat.reduceBEq, Nat.reduceAdd, Nat.reduceMul, Nat.reduceSub, Int.reduceToNat, reduceCtorEq, branch_decide, branch_not, branch_beq, branch_bne]
    exact rfl
  · simp only [push_cast, ↓branch_true, ↓branch_false, Nat.reduceBEq, Nat.reduceAdd, Nat.reduceMul, Nat.reduceSub, Int.reduceToNat, reduceCtorEq, branch_decide, branch_not, branch_beq, branch_bne]
    exact fun _ _ => Nat.le_refl _
  rintro _ _ ⟨oc2, cp2, hoc2, _, rfl, rfl⟩
  rw [ex_lstB, ex_lstE]
  simp only [push_cast, ↓branch_true, ↓branch_false, Nat.reduceBEq, Nat.reduceAdd, Nat.reduceMul, Nat.reduceSub, Int.reduceToNat, reduceCtorEq, branch_decide, branch_not, branch_beq, branch_bne]
  refine sp_at (lots_sp 1000) [] rfl ?_ ?_ ?_
  · simp only [push_cast, ↓branch_true, ↓branch_false, Nat.reduceBEq, Nat.reduceAdd, Nat.reduceMul, Nat.reduceSub, Int.reduceToNat, reduceCtorEq, branch_decide, branch_not, branch_beq, branch_bne]
  · simp only [push_cast, ↓branch_true, ↓branch_false, Nat.reduceBEq, Nat.reduceAdd, Nat.reduceMul, Nat.reduceSub, Int.reduceToNat, reduceCtorEq, branch_decide, branch_not, branch_beq, branch_bne]
  rintro _ _ ⟨rfl, rfl⟩
  simp only [push_cast, ↓branch_true, ↓branch_false, Nat.reduceBEq, Nat.reduceAdd, Nat.reduceMul, Nat.reduceSub, Int.reduceToNat, reduceCtorEq, branch_decide, branch_not, branch_beq, branch_bne]
  refine sp_at example_sp [] rfl ?_ ?_ ?_
  · simp only [push_cast, ↓branch_true, ↓branch_false, Nat.reduceBEq, Nat.reduceAdd, Nat.reduceMul, Nat.reduceSub, Int.reduceToNat, reduceCtorEq, branch_decide, branch_not, branch_beq, branch_bne]
  · simp only [push_cast, ↓branch_true, ↓branch_false, Nat.reduceBEq, Nat.reduceAdd, Nat.reduceMul, Nat.reduceSub, Int.reduceToNat, reduceCtorEq, branch_decide, branch_not, branch_beq, branch_bne]
  rintro _ _ ⟨rfl, rfl⟩
  simp only [push_cast, ↓branch_true, ↓branch_false, Nat.reduceBEq, Nat.reduceAdd, Nat.reduceMul, Nat.reduceSub, Int.reduceToNat, reduceCtorEq, branch_decide, branch_not, branch_beq, branch_bne]
  have hk := patL_ok (Q := fun _ => True) (o := lstB 1000 exL) fun _ _ => trivial
  rw [ex_lstB] at hk
  have hlen : (lstR 1000 exL).length ≤ 3 := hk.len
  have hps : ∀ k, k < (lstR 1000 exL).length → (ix (lstR 1000 exL) k).ps.length ≤ 9223372036854775806 := fun k hk2 => by
    obtain ⟨b, hb, _, e⟩ := pat_mem _ (ix_mem hk2)
    show (ix (patL (lstB 1000 exL)) k).ps.length ≤ _
    rw [← e, ((lst_good ex_lstE (by rw [ex_cnt]; decide)).1.bar b hb).1.ps]
    decide
  have hc := check_pu exS exL (lstR 1000 exL) cp2 (big + 2) 1 3 oc2 (fmP (lstR 1000 exL)) (by decide) (by decide) (by omega) (fun _ _ => rfl) hps (by omega)
  rw [ex_st, ex_order, ex_right] at hc
  refine sp_call hc rfl [7, 8, 5, 6] rfl ?_ ?_ ?_
  · simp only [push_cast, ↓branch_true, ↓branch_false, Nat.reduceBEq, Nat.reduceAdd, Nat.reduceMul, Nat.reduceSub, Int.reduceToNat, reduceCtorEq, branch_decide, branch_not, branch_beq, branch_bne]
    exact ⟨rfl, rfl⟩
  · simp only [push_cast, ↓branch_true, ↓branch_false, Nat.reduceBEq, Nat.reduceAdd, Nat.reduceMul, Nat.reduceSub, Int.reduceToNat, reduceCtorEq, branch_decide, branch_not, branch_beq, branch_bne]
    exact ⟨fun _ _ => ⟨Nat.le_refl _, fun _ _ => ⟨rfl, rfl⟩⟩, fun _ _ => Nat.le_refl _⟩
  simp only [push_cast, ↓branch_true, ↓branch_false, Nat.reduceBEq, Nat.reduceAdd, Nat.reduceMul, Nat.reduceSub, Int.reduceToNat, reduceCtorEq, branch_decide, branch_not, branch_beq, branch_bne]
  refine Or.inl ⟨by omega, Or.inr ⟨by omega, 9, ?_⟩⟩
  simp only [push_cast, ↓branch_true, ↓branch_false, Nat.reduceBEq, Nat.reduceAdd, Nat.reduceMul, Nat.reduceSub, Int.reduceToNat, reduceCtorEq, branch_decide, branch_not, branch_beq, branch_bne]
  refine Or.inl ⟨by omega, ?_⟩
  have hsm := same_pu exPl exPl cp (fun k => k) (fun _ => 3) (big + 2) 2 oc 2 (fmP exPl) (fmP exPl) (by decide) (fun k hk => ⟨by have : k < 2 := hk; omega, rfl, by
      have : k < 2 := hk
      rcases (by omega : k = 0 ∨ k = 1) with rfl | rfl <;> decide⟩) (fun k hk => ⟨hk, rfl, by
      have : k < 2 := hk
      rcases (by omega : k = 0 ∨ k = 1) with rfl | rfl <;> decide⟩)
  rw [sameB_self] at hsm
  refine sp_call hsm rfl [2, 3, 10, 9] rfl ?_ ?_ ?_
  · simp only [push_cast, ↓branch_true, ↓branch_false, Nat.reduceBEq, Nat.reduceAdd, Nat.reduceMul, Nat.reduceSub, Int.reduceToNat, reduceCtorEq, branch_decide, branch_not, branch_beq, branch_bne]
    exact rfl
  · simp only [push_cast, ↓branch_true, ↓branch_false, Nat.reduceBEq, Nat.reduceAdd, Nat.reduceMul, Nat.reduceSub, Int.reduceToNat, reduceCtorEq, branch_decide, branch_not, branch_beq, branch_bne]
    refine ⟨fun x hx => ⟨Nat.le_refl _, fun k hk => ?_⟩, fun x hx => ⟨?_, fun k hk => ?_⟩⟩
    · have : k < 2 := hk
      rcases (by omega : k = 0 ∨ k = 1) with rfl | rfl
      all_goals
        (simp only [push_cast, ↓branch_true, ↓branch_false, Nat.reduceBEq, Nat.reduceAdd, Nat.reduceMul, Nat.reduceSub, Int.reduceToNat, reduceCtorEq, branch_decide, branch_not, branch_beq, branch_bne])
        repeat' (first | with_reducible apply And.intro | rfl | trivial | exact Or.inr ⟨rfl, rfl, rfl, rfl⟩)
    · rcases (by omega : x = 0 ∨ x = 1) with rfl | rfl <;> exact Nat.le_refl _
    · rcases (by omega : x = 0 ∨ x = 1) with rfl | rfl
      all_goals
        have : k < 3 := hk
        rcases (by omega : k = 0 ∨ k = 1 ∨ k = 2) with rfl | rfl | rfl
      all_goals
        (simp only [push_cast, ↓branch_true, ↓branch_false, Nat.reduceBEq, Nat.reduceAdd, Nat.reduceMul, Nat.reduceSub, Int.reduceToNat, reduceCtorEq, branch_decide, branch_not, branch_beq, branch_bne])
        repeat' (first | with_reducible apply And.intro | rfl | trivial)
  simp only [push_cast, ↓branch_true, ↓branch_false, Nat.reduceBEq, Nat.reduceAdd, Nat.reduceMul, Nat.reduceSub, Int.reduceToNat, reduceCtorEq, branch_decide, branch_not, branch_beq, branch_bne]
  refine ⟨fun _ => ⟨_, _, [], ?_, by kernel_rfl, ?_, rfl, rfl⟩, fun h => absurd rfl h⟩ <;> (simp only [push_cast, ↓branch_true, ↓branch_false, Nat.reduceBEq, Nat.reduceAdd, Nat.reduceMul, Nat.reduceSub, Int.reduceToNat, reduceCtorEq, branch_decide, branch_not, branch_beq, branch_bne])
end Go.Proofs.Ythlpfjcjfhdmaaa
