/- The example of the chapter holds. -/
import Derived.Test.YtdinkpefoljigaaU
set_option maxRecDepth 100000
set_option linter.unusedSimpArgs false
set_option linter.unusedVariables false
namespace Go.Proofs.Ytdinkpefoljigaa
open Go.RowKit
def exG : List (List Int) := [[0, 3], [1, 2], [4, 5, 6, 7]]
theorem ex_valid : vB exL = true := by decide +kernel
theorem ex_err : errG exL 1000 = 0 := by decide +kernel
theorem ex_ord : heavO exL = [0, 1, 2, 3, 4, 5, 6, 7] := by
  refine sort_one ((sortK_perm _ _).trans (by decide +kernel)) (fun x hx y hy e => ?_) (sortK_up _ _) (by decide +kernel)
  exact kH_inj (l := exL) (by decide) (heavO_mem hx) (heavO_mem hy) e
theorem ex_greedy : gRes exL 1000 = exG := by
  rw [gRes, if_pos ex_err, greedyL, ex_ord]
  decide +kernel
theorem ex_bound : boundR exL 1000 = (3, 0) := by decide +kernel
theorem ex_right : Right exL 1000 exG := ⟨by decide +kernel, by decide +kernel, by decide +kernel, by decide +kernel⟩
theorem ex_check : checkR exL 1000 exG = (true, 0) := by
  rw [checkR, if_neg (by rw [ex_valid]; simp), if_neg (by omega), decide_eq_true ex_right]
theorem ex_str : strOk exL := by
  intro b hb
  have : ∀ b ∈ exL, b.tag.size ≤ 20 ∧ b.mark.size ≤ 20 := by decide +kernel
  have := this b hb
  omega
def lit1 (a b : Int) : Ob := ⟨3, false, .row 1 1 (fun _ => 2) (fun _ => 2) (fun _ => rowF [.v (.int .i64 a), .v (.int .i64 b)] 1)⟩
def lit2 (a b c d : Int) : Ob := ⟨3, false, .row 1 1 (fun _ => 4) (fun _ => 4) (fun _ => rowF [.v (.int .i64 a), .v (.int .i64 b), .v (.int .i64 c), .v (.int .i64 d)] 1)⟩
def litO (x y z : Nat) : Ob := ⟨36, false, .row 1 1 (fun _ => 3) (fun _ => 3) (fun _ => rowF [.s x 0 0 2 2 1, .s y 0 0 2 2 1, .s z 0 0 4 4 1] 1)⟩
attribute [push_cast] lit1 lit2 litO
theorem ex_out {i : Nat} (h : 3 ≤ i) : ix exG i = [] := by
  unfold ix
  rw [List.getD_eq_getElem?_getD, List.getElem?_eq_none h]; rfl
set_option maxHeartbeats 1000000 in
theorem lit_wk (oc : Nat) (cp : Nat → Nat) : Wk (α := List Value) 0 (fun β u => OkL β [.s 0 0 0 exG.length oc 1, .s 5 0 0 3 3 1] u) (fun β u => OkL β [.s 0 0 0 exG.length oc 1, .s 2 0 0 exG.length 3 1] u)
    [rOut 1 exG cp, rFa (big + 2) exG, lit1 0 3, lit1 1 2, lit2 4 5 6 7, litO 2 3 4] [rOut 1 exG cp, rFa (big + 2) exG, rOut 3 exG (fun k => (ix exG k).length), rFa (big + 2) exG] := by
  have hbig := big_eq
  refine (lwk_mt (l' := [.s 0 0 0 exG.length oc 1, .s 5 0 0 3 3 1]) (H' := [rOut 1 exG cp, rFa (big + 2) exG, lit1 0 3, lit1 1 2, lit2 4 5 6 7, litO 2 3 4, ⟨3, false, .row 1 (big + 2) (fun _ => 0) (fun _ => 0) (fun _ _ => [])⟩]) [0, 1, 2, 3, 4, 5, 6] ?_ (by kernel_rfl) ?_).trans
    ((lwk_place 6 0 2 (by omega) (by omega) (by omega) ?_).trans ((lwk_place 6 1 3 (by omega) (by omega) (by omega) ?_).trans ((lwk_place 6 2 4 (by omega) (by omega) (by omega) ?_).trans (lwk_mt [0, 1, 5, 6] ?_ (by kernel_rfl) ?_))))
  · simp only [push_cast, ↓branch_true, ↓branch_false, Nat.reduceBEq, Nat.reduceAdd, Nat.reduceMul, Nat.reduceSub, Int.reduceToNat, reduceCtorEq, branch_decide, branch_not, branch_beq, branch_bne]
  · simp only [push_cast, ↓branch_true, ↓branch_false, Nat.reduceBEq, Nat.reduceAdd, Nat.reduceMul, Nat.reduceSub, Int.reduceToNat, reduceCtorEq, branch_decide, branch_not, branch_beq, branch_bne]
    refine ⟨fun _ _ k hk => ?_, fun _ _ k hk => ?_, fun _ _ k hk => ?_, fun _ _ k hk => ?_⟩
    · rcases (by omega : k = 0 ∨ k = 1) with rfl | rfl <;> exact ⟨rfl, trivial⟩
    · rcases (by omega : k = 0 ∨ k = 1) with rfl | rfl <;> exact ⟨rfl, trivial⟩
    · rcases (by omega : k = 0 ∨ k = 1 ∨ k = 2 ∨ k = 3) with rfl | rfl | rfl | rfl <;> exact ⟨rfl, trivial⟩
    · rcases (by omega : k = 0 ∨ k = 1 ∨ k = 2) with rfl | rfl | rfl <;> (simp only [push_cast, ↓branch_true, ↓branch_false, Nat.reduceBEq, Nat.reduceAdd, Nat.reduceMul, Nat.reduceSub, Int.reduceToNat, reduceCtorEq, branch_decide, branch_not, branch_beq, branch_bne])
  · simp only [push_cast, ↓branch_true, ↓branch_false, Nat.reduceBEq, Nat.reduceAdd, Nat.reduceMul, Nat.reduceSub, Int.reduceToNat, reduceCtorEq, branch_decide, branch_not, branch_beq, branch_bne]
    omega
  · simp only [push_cast, ↓branch_true, ↓branch_false, Nat.reduceBEq, Nat.reduceAdd, Nat.reduceMul, Nat.reduceSub, Int.reduceToNat, reduceCtorEq, branch_decide, branch_not, branch_beq, branch_bne]
    omega
  · simp only [push_cast, ↓branch_true, ↓branch_false, Nat.reduceBEq, Nat.reduceAdd, Nat.reduceMul, Nat.reduceSub, Int.reduceToNat, reduceCtorEq, branch_decide, branch_not, branch_beq, branch_bne]
    omega
  · simp only [push_cast, ↓branch_true, ↓branch_false, Nat.reduceBEq, Nat.reduceAdd, Nat.reduceMul, Nat.reduceSub, Int.reduceToNat, reduceCtorEq, branch_decide, branch_not, branch_beq, branch_bne]
    rfl
  · simp only [push_cast, ↓branch_true, ↓branch_false, Nat.reduceBEq, Nat.reduceAdd, Nat.reduceMul, Nat.reduceSub, Int.reduceToNat, reduceCtorEq, branch_decide, branch_not, branch_beq, branch_bne]
    have h3 : exG.length = 3 := rfl
    refine ⟨fun _ _ => ⟨by omega, fun k hk => ?_⟩, fun i hi => ?_⟩
    · rcases (by omega : k = 0 ∨ k = 1 ∨ k = 2) with rfl | rfl | rfl <;> ((simp only [push_cast, ↓branch_true, ↓branch_false, Nat.reduceBEq, Nat.reduceAdd, Nat.reduceMul, Nat.reduceSub, Int.reduceToNat, reduceCtorEq, branch_decide, branch_not, branch_beq, branch_bne]); exact ⟨rfl, rfl⟩)
    · rcases (by omega : i = 0 ∨ i = 1 ∨ i = 2 ∨ 3 ≤ i) with rfl | rfl | rfl | h
      · refine ⟨Nat.le_refl 2, fun k hk => ?_⟩
        have hk : k < 2 := hk
        rcases (by omega : k = 0 ∨ k = 1) with rfl | rfl <;> exact ⟨rfl, trivial⟩
      · refine ⟨Nat.le_refl 2, fun k hk => ?_⟩
        have hk : k < 2 := hk
        rcases (by omega : k = 0 ∨ k = 1) with rfl | rfl <;> exact ⟨rfl, trivial⟩
      · refine ⟨Nat.le_refl 4, fun k hk => ?_⟩
        have hk : k < 4 := hk
        rcases (by omega : k = 0 ∨ k = 1 ∨ k = 2 ∨ k = 3) with rfl | rfl | rfl | rfl <;> exact ⟨rfl, trivial⟩
      · rw [ex_out h]
        exact ⟨Nat.zero_le _, fun k hk => absurd hk (Nat.not_lt_zero _)⟩
set_option maxHeartbeats 2000000 in
theorem awake_sp : Sp Try.prog 10 [] [] (fun r H => r = .v (.bool true) ∧ H = []) := by
  refine sp_weak ?_
  refine sp_of_ex true [] mixed Try.call10 Try.func10 rfl Try.ntmps10 Try.results10 (by decide +kernel) rfl ?_
  simp only [push_cast, ↓branch_true, ↓branch_false, Nat.reduceBEq, Nat.reduceAdd, Nat.reduceMul, Nat.reduceSub, Int.reduceToNat, reduceCtorEq, branch_decide, branch_not, branch_beq, branch_bne]
  refine sp_at example_sp [] rfl ?_ ?_ ?_
  · simp only [push_cast, ↓branch_true, ↓branch_false, Nat.reduceBEq, Nat.reduceAdd, Nat.reduceMul, Nat.reduceSub, Int.reduceToNat, reduceCtorEq, branch_decide, branch_not, branch_beq, branch_bne]
  · simp only [push_cast, ↓branch_true, ↓branch_false, Nat.reduceBEq, Nat.reduceAdd, Nat.reduceMul, Nat.reduceSub, Int.reduceToNat, reduceCtorEq, branch_decide, branch_not, branch_beq, branch_bne]
  rintro _ _ ⟨c0, hc0, rfl, rfl⟩
  simp only [push_cast, ↓branch_true, ↓branch_false, Nat.reduceBEq, Nat.reduceAdd, Nat.reduceMul, Nat.reduceSub, Int.reduceToNat, reduceCtorEq, branch_decide, branch_not, branch_beq, branch_bne]
  refine sp_at (greedy_sp exL 1000 c0 ex_str (by decide)) [0] rfl ?_ ?_ ?_
  · simp only [push_cast, ↓branch_true, ↓branch_false, Nat.reduceBEq, Nat.reduceAdd, Nat.reduceMul, Nat.reduceSub, Int.reduceToNat, reduceCtorEq, branch_decide, branch_not, branch_beq, branch_bne]
  · simp only [push_cast, ↓branch_true, ↓branch_false, Nat.reduceBEq, Nat.reduceAdd, Nat.reduceMul, Nat.reduceSub, Int.reduceToNat, reduceCtorEq, branch_decide, branch_not, branch_beq, branch_bne]
  rintro _ _ ⟨oc, cp, hoc, rfl, rfl⟩
  rw [ex_greedy, ex_err] at *
  simp only [push_cast, ↓branch_true, ↓branch_false, Nat.reduceBEq, Nat.reduceAdd, Nat.reduceMul, Nat.reduceSub, Int.reduceToNat, reduceCtorEq, branch_decide, branch_not, branch_beq, branch_bne]
  refine sp_at example_sp [] rfl ?_ ?_ ?_
  · simp only [push_cast, ↓branch_true, ↓branch_false, Nat.reduceBEq, Nat.reduceAdd, Nat.reduceMul, Nat.reduceSub, Int.reduceToNat, reduceCtorEq, branch_decide, branch_not, branch_beq, branch_bne]
  · simp only [push_cast, ↓branch_true, ↓branch_false, Nat.reduceBEq, Nat.reduceAdd, Nat.reduceMul, Nat.reduceSub, Int.reduceToNat, reduceCtorEq, branch_decide, branch_not, branch_beq, branch_bne]
  rintro _ _ ⟨c1, hc1, rfl, rfl⟩
  simp only [push_cast, ↓branch_true, ↓branch_false, Nat.reduceBEq, Nat.reduceAdd, Nat.reduceMul, Nat.reduceSub, Int.reduceToNat, reduceCtorEq, branch_decide, branch_not, branch_beq, branch_bne]
  have hb := bound_pu exL 1000 c1 ex_str (by decide)
  rw [ex_bound] at hb
  refine sp_call hb rfl [3] rfl ?_ ?_ ?_
  · simp only [push_cast, ↓branch_true, ↓branch_false, Nat.reduceBEq, Nat.reduceAdd, Nat.reduceMul, Nat.reduceSub, Int.reduceToNat, reduceCtorEq, branch_decide, branch_not, branch_beq, branch_bne]
  · simp only [push_cast, ↓branch_true, ↓branch_false, Nat.reduceBEq, Nat.reduceAdd, Nat.reduceMul, Nat.reduceSub, Int.reduceToNat, reduceCtorEq, branch_decide, branch_not, branch_beq, branch_bne]
  simp only [push_cast, ↓branch_true, ↓branch_false, Nat.reduceBEq, Nat.reduceAdd, Nat.reduceMul, Nat.reduceSub, Int.reduceToNat, reduceCtorEq, branch_decide, branch_not, branch_beq, branch_bne]
  refine sp_at example_sp [] rfl ?_ ?_ ?_
  · simp only [push_cast, ↓branch_true, ↓branch_false, Nat.reduceBEq, Nat.reduceAdd, Nat.reduceMul, Nat.reduceSub, Int.reduceToNat, reduceCtorEq, branch_decide, branch_not, branch_beq, branch_bne]
  · simp only [push_cast, ↓branch_true, ↓branch_false, Nat.reduceBEq, Nat.reduceAdd, Nat.reduceMul, Nat.reduceSub, Int.reduceToNat, reduceCtorEq, branch_decide, branch_not, branch_beq, branch_bne]
  rintro _ _ ⟨c2, hc2, rfl, rfl⟩
  simp only [push_cast, ↓branch_true, ↓branch_false, Nat.reduceBEq, Nat.reduceAdd, Nat.reduceMul, Nat.reduceSub, Int.reduceToNat, reduceCtorEq, branch_decide, branch_not, branch_beq, branch_bne]
  have hc := check_pu exL 1000 exG c2 oc (big + 2) cp ex_str (by decide) (by rw [big_eq]; decide) (by decide) (by decide)
  rw [ex_check] at hc
  refine sp_call hc rfl [4, 1, 2] rfl ?_ ?_ ?_
  · simp only [push_cast, ↓branch_true, ↓branch_false, Nat.reduceBEq, Nat.reduceAdd, Nat.reduceMul, Nat.reduceSub, Int.reduceToNat, reduceCtorEq, branch_decide, branch_not, branch_beq, branch_bne]
  · simp only [push_cast, ↓branch_true, ↓branch_false, Nat.reduceBEq, Nat.reduceAdd, Nat.reduceMul, Nat.reduceSub, Int.reduceToNat, reduceCtorEq, branch_decide, branch_not, branch_beq, branch_bne]
  simp only [push_cast, ↓branch_true, ↓branch_false, Nat.reduceBEq, Nat.reduceAdd, Nat.reduceMul, Nat.reduceSub, Int.reduceToNat, reduceCtorEq, branch_decide, branch_not, branch_beq, branch_bne]
  repeat (with_reducible refine And.intro (by omega) ?_)
  have hbig := big_eq
  have h3 : exG.length = 3 := rfl
  refine sp_pu (pu_pre ((lwk_mt [1, 2, 5, 6, 7, 8] ?_ (by kernel_rfl) ?_).trans (lit_wk oc cp)) rfl (same_pu exG exG oc 3 (big + 2) (big + 2) cp _ (by omega) (by omega) (by omega) (by omega) (by decide))) ?_
  · simp only [push_cast, ↓branch_true, ↓branch_false, Nat.reduceBEq, Nat.reduceAdd, Nat.reduceMul, Nat.reduceSub, Int.reduceToNat, reduceCtorEq, branch_decide, branch_not, branch_beq, branch_bne]
  · simp only [push_cast, ↓branch_true, ↓branch_false, Nat.reduceBEq, Nat.reduceAdd, Nat.reduceMul, Nat.reduceSub, Int.reduceToNat, reduceCtorEq, branch_decide, branch_not, branch_beq, branch_bne]
    refine ⟨fun _ _ k hk => ?_, fun _ _ k hk => ?_, fun _ _ k hk => ?_, fun _ _ k hk => ?_⟩
    · rcases (by omega : k = 0 ∨ k = 1) with rfl | rfl <;> exact ⟨rfl, trivial⟩
    · rcases (by omega : k = 0 ∨ k = 1) with rfl | rfl <;> exact ⟨rfl, trivial⟩
    · rcases (by omega : k = 0 ∨ k = 1 ∨ k = 2 ∨ k = 3) with rfl | rfl | rfl | rfl <;> exact ⟨rfl, trivial⟩
    · rcases (by omega : k = 0 ∨ k = 1 ∨ k = 2) with rfl | rfl | rfl <;> (simp only [push_cast, ↓branch_true, ↓branch_false, Nat.reduceBEq, Nat.reduceAdd, Nat.reduceMul, Nat.reduceSub, Int.reduceToNat, reduceCtorEq, branch_decide, branch_not, branch_beq, branch_bne])
  have e : decide (exG = exG) = true := by simp
  rw [e]
  simp only [push_cast, ↓branch_true, ↓branch_false, Nat.reduceBEq, Nat.reduceAdd, Nat.reduceMul, Nat.reduceSub, Int.reduceToNat, reduceCtorEq, branch_decide, branch_not, branch_beq, branch_bne]
  refine ⟨_, _, [], ?_, by kernel_rfl, ?_, rfl, rfl⟩ <;> (simp only [push_cast, ↓branch_true, ↓branch_false, Nat.reduceBEq, Nat.reduceAdd, Nat.reduceMul, Nat.reduceSub, Int.reduceToNat, reduceCtorEq, branch_decide, branch_not, branch_beq, branch_bne])
end Go.Proofs.Ytdinkpefoljigaa
