/- Contracts: the example. -/
import Derived.Test.YtapbhppfecfobaaDoorU
set_option maxRecDepth 100000
set_option linter.unusedSimpArgs false
set_option linter.unusedVariables false
namespace Go.Proofs.YtapbhppfecfobaaDoor
open Go.RowKit
def ex1 : List Int := [3, -1]
def ex2 : List Int := [5, -2, -3, 4, -4]
theorem ex1_giv : givE ex1 = 0 := by decide +kernel
theorem ex2_giv : givE ex2 = 0 := by decide +kernel
theorem ex1_sums : sumsR ex1 = [-1, 0, 2, 3] := by
  rw [sumsR, if_neg (by rw [ex1_giv]; simp), ← sums_rsm]
  decide +kernel
theorem ex2_first : firstO ex2 0 1 = some 24 := by decide +kernel
theorem ex2_zero : findE ex2 0 1 = 0 ∧ findL ex2 0 1 = [3, 4] := by
  refine ⟨by rw [findE, if_neg (by rw [ex2_giv]; simp), ex2_first]; rfl, by rw [findL, if_neg (by rw [ex2_giv]; simp), ex2_first]; decide +kernel⟩
theorem ex2_parts : partsE ex2 = 0 ∧ partsL ex2 = [[0, 1, 2], [3, 4]] := by
  have h : partsE ex2 = 0 := by decide +kernel
  refine ⟨h, ?_⟩
  rw [partsL, if_neg (by rw [h]; simp)]
  decide +kernel
theorem lit_row (l : List Int) (L : List SV) (h : L = l.map fun x => .v (.int .i64 x)) (rl : List Nat) (k : Nat) (hk : k < l.length) : mtL rl [.v (.int .i64 (ix l k))] (List.take 1 (List.drop (k * 1) L)) := by
  subst h
  have e : List.take 1 (List.drop (k * 1) (l.map fun x => SV.v (.int .i64 x))) = [.v (.int .i64 (ix l k))] := by
    rw [Nat.mul_one, ← List.map_drop, ← List.map_take, List.drop_eq_getElem_cons hk, ix_eq hk]
    rfl
  rw [e]
  simp only [push_cast, ↓branch_true, ↓branch_false, Nat.reduceBEq, Nat.reduceAdd, Nat.reduceMul, Nat.reduceSub, Int.reduceToNat, reduceCtorEq, branch_decide, branch_not, branch_beq, branch_bne]
def pexL : List (List Int) := [[0, 1, 2], [3, 4]]
def lit2 (a b : Int) : Ob := ⟨3, false, .row 1 1 (fun _ => 2) (fun _ => 2) (fun _ => rowF [.v (.int .i64 a), .v (.int .i64 b)] 1)⟩
def lit3 (a b c : Int) : Ob := ⟨3, false, .row 1 1 (fun _ => 3) (fun _ => 3) (fun _ => rowF [.v (.int .i64 a), .v (.int .i64 b), .v (.int .i64 c)] 1)⟩
def litO (x y : Nat) : Ob := ⟨22, false, .row 1 1 (fun _ => 2) (fun _ => 2) (fun _ => rowF [.s x 0 0 3 3 1, .s y 0 0 2 2 1] 1)⟩
attribute [push_cast] lit2 lit3 litO
theorem ex_out {i : Nat} (h : 2 ≤ i) : ix pexL i = [] := by
  unfold ix
  rw [List.getD_eq_getElem?_getD, List.getElem?_eq_none h]; rfl
set_option maxHeartbeats 1000000 in
theorem lit_wk (oc : Nat) (cp : Nat → Nat) : Wk (α := List Value) 0 (fun β u => OkL β [.s 0 0 0 pexL.length oc 1, .s 4 0 0 2 2 1] u) (fun β u => OkL β [.s 0 0 0 pexL.length oc 1, .s 2 0 0 pexL.length 2 1] u)
    [oOut 1 pexL cp oc, oFa pexL cp, lit3 0 1 2, lit2 3 4, litO 2 3] [oLi 1 pexL cp, oLf pexL, oLi 3 pexL (fun k => (ix pexL k).length), oLf pexL] := by
  have hbig := big_eq
  refine (lwk_mt (l' := [.s 0 0 0 pexL.length oc 1, .s 4 0 0 2 2 1]) (H' := [oOut 1 pexL cp oc, oFa pexL cp, lit3 0 1 2, lit2 3 4, litO 2 3, ⟨3, false, .row 1 (big + 2) (fun _ => 0) (fun _ => 0) (fun _ _ => [])⟩]) [0, 1, 2, 3, 4, 5] ?_ (by kernel_rfl) ?_).trans
    ((lwk_place 5 0 2 (by omega) (by omega) (by omega) ?_).trans ((lwk_place 5 1 3 (by omega) (by omega) (by omega) ?_).trans (lwk_mt [0, 1, 4, 5] ?_ (by kernel_rfl) ?_)))
  · simp only [push_cast, ↓branch_true, ↓branch_false, Nat.reduceBEq, Nat.reduceAdd, Nat.reduceMul, Nat.reduceSub, Int.reduceToNat, reduceCtorEq, branch_decide, branch_not, branch_beq, branch_bne]
  · simp only [push_cast, ↓branch_true, ↓branch_false, Nat.reduceBEq, Nat.reduceAdd, Nat.reduceMul, Nat.reduceSub, Int.reduceToNat, reduceCtorEq, branch_decide, branch_not, branch_beq, branch_bne]
    refine ⟨fun _ _ k hk => ?_, fun _ _ k hk => ?_, fun _ _ k hk => ?_⟩
    · rcases (by omega : k = 0 ∨ k = 1 ∨ k = 2) with rfl | rfl | rfl <;> exact ⟨rfl, trivial⟩
    · rcases (by omega : k = 0 ∨ k = 1) with rfl | rfl <;> exact ⟨rfl, trivial⟩
    · rcases (by omega : k = 0 ∨ k = 1) with rfl | rfl <;> (simp only [push_cast, ↓branch_true, ↓branch_false, Nat.reduceBEq, Nat.reduceAdd, Nat.reduceMul, Nat.reduceSub, Int.reduceToNat, reduceCtorEq, branch_decide, branch_not, branch_beq, branch_bne])
  · simp only [push_cast, ↓branch_true, ↓branch_false, Nat.reduceBEq, Nat.reduceAdd, Nat.reduceMul, Nat.reduceSub, Int.reduceToNat, reduceCtorEq, branch_decide, branch_not, branch_beq, branch_bne]
    omega
  · simp only [push_cast, ↓branch_true, ↓branch_false, Nat.reduceBEq, Nat.reduceAdd, Nat.reduceMul, Nat.reduceSub, Int.reduceToNat, reduceCtorEq, branch_decide, branch_not, branch_beq, branch_bne]
    omega
  · simp only [push_cast, ↓branch_true, ↓branch_false, Nat.reduceBEq, Nat.reduceAdd, Nat.reduceMul, Nat.reduceSub, Int.reduceToNat, reduceCtorEq, branch_decide, branch_not, branch_beq, branch_bne]
    rfl
  · simp only [push_cast, ↓branch_true, ↓branch_false, Nat.reduceBEq, Nat.reduceAdd, Nat.reduceMul, Nat.reduceSub, Int.reduceToNat, reduceCtorEq, branch_decide, branch_not, branch_beq, branch_bne]
    have h3 : pexL.length = 2 := rfl
    refine ⟨fun _ _ => ⟨by omega, fun k hk => ?_⟩, fun i hi => ?_⟩
    · rcases (by omega : k = 0 ∨ k = 1) with rfl | rfl <;> ((simp only [push_cast, ↓branch_true, ↓branch_false, Nat.reduceBEq, Nat.reduceAdd, Nat.reduceMul, Nat.reduceSub, Int.reduceToNat, reduceCtorEq, branch_decide, branch_not, branch_beq, branch_bne]); exact ⟨rfl, rfl⟩)
    · rcases (by omega : i = 0 ∨ i = 1 ∨ 2 ≤ i) with rfl | rfl | h
      · refine ⟨Nat.le_refl 3, fun k hk => ?_⟩
        have hk : k < 3 := hk
        rcases (by omega : k = 0 ∨ k = 1 ∨ k = 2) with rfl | rfl | rfl <;> exact ⟨rfl, trivial⟩
      · refine ⟨Nat.le_refl 2, fun k hk => ?_⟩
        have hk : k < 2 := hk
        rcases (by omega : k = 0 ∨ k = 1) with rfl | rfl <;> exact ⟨rfl, trivial⟩
      · rw [ex_out h]
        exact ⟨Nat.zero_le _, fun k hk => absurd hk (Nat.not_lt_zero _)⟩
theorem pexL_len (k : Nat) : (ix pexL k).length ≤ 100000 := by
  rcases (by omega : k = 0 ∨ k = 1 ∨ 2 ≤ k) with rfl | rfl | h
  · decide
  · decide
  · rw [ex_out h]; decide
theorem ex_same (oc : Nat) (cp : Nat → Nat) : Pu Tryd.prog 22 [.s 0 0 0 pexL.length oc 1, .s 2 0 0 pexL.length 2 1] [oLi 1 pexL cp, oLf pexL, oLi 3 pexL (fun k => (ix pexL k).length), oLf pexL] (.v (.bool true)) := by
  have h := same_pu pexL pexL oc 2 cp (fun k => (ix pexL k).length) (by decide) (by decide) pexL_len pexL_len
  rw [decide_eq_true rfl] at h
  exact h
set_option maxHeartbeats 1000000 in
theorem awake_sp : Sp Tryd.prog 9 [] [] (fun r H => r = .v (.bool true) ∧ H = []) := by
  have hbig := big_eq
  refine sp_weak ?_
  refine sp_of_ex true [] mixed Tryd.call9 Tryd.func9 rfl Tryd.ntmps9 Tryd.results9 (by decide +kernel) rfl ?_
  simp only [push_cast, ↓branch_true, ↓branch_false, Nat.reduceBEq, Nat.reduceAdd, Nat.reduceMul, Nat.reduceSub, Int.reduceToNat, reduceCtorEq, branch_decide, branch_not, branch_beq, branch_bne]
  repeat (with_reducible refine And.intro (by omega) ?_)
  refine sp_at (Sums_sp ex1 2 (by decide)) [0] rfl ?_ ?_ ?_
  · simp only [push_cast, ↓branch_true, ↓branch_false, Nat.reduceBEq, Nat.reduceAdd, Nat.reduceMul, Nat.reduceSub, Int.reduceToNat, reduceCtorEq, branch_decide, branch_not, branch_beq, branch_bne]
    rfl
  · simp only [push_cast, ↓branch_true, ↓branch_false, Nat.reduceBEq, Nat.reduceAdd, Nat.reduceMul, Nat.reduceSub, Int.reduceToNat, reduceCtorEq, branch_decide, branch_not, branch_beq, branch_bne]
    exact fun _ _ => ⟨Nat.le_refl _, fun k hk => lit_row ex1 _ rfl _ k hk⟩
  rintro _ _ ⟨cap, hcap, rfl, rfl⟩
  rw [ex1_sums, ex1_giv] at *
  simp only [push_cast, ↓branch_true, ↓branch_false, Nat.reduceBEq, Nat.reduceAdd, Nat.reduceMul, Nat.reduceSub, Int.reduceToNat, reduceCtorEq, branch_decide, branch_not, branch_beq, branch_bne]
  repeat (with_reducible refine And.intro (by omega) ?_)
  refine sp_at (Zero_sp ex2 5 (by decide)) [2] rfl ?_ ?_ ?_
  · simp only [push_cast, ↓branch_true, ↓branch_false, Nat.reduceBEq, Nat.reduceAdd, Nat.reduceMul, Nat.reduceSub, Int.reduceToNat, reduceCtorEq, branch_decide, branch_not, branch_beq, branch_bne]
    rfl
  · simp only [push_cast, ↓branch_true, ↓branch_false, Nat.reduceBEq, Nat.reduceAdd, Nat.reduceMul, Nat.reduceSub, Int.reduceToNat, reduceCtorEq, branch_decide, branch_not, branch_beq, branch_bne]
    exact fun _ _ => ⟨Nat.le_refl _, fun k hk => lit_row ex2 _ rfl _ k hk⟩
  rintro _ _ ⟨cap2, hcap2, rfl, rfl⟩
  rw [ex2_zero.1, ex2_zero.2] at *
  simp only [push_cast, ↓branch_true, ↓branch_false, Nat.reduceBEq, Nat.reduceAdd, Nat.reduceMul, Nat.reduceSub, Int.reduceToNat, reduceCtorEq, branch_decide, branch_not, branch_beq, branch_bne]
  refine sp_at (Parts_sp ex2 5 (by decide)) [2] rfl ?_ ?_ ?_
  · simp only [push_cast, ↓branch_true, ↓branch_false, Nat.reduceBEq, Nat.reduceAdd, Nat.reduceMul, Nat.reduceSub, Int.reduceToNat, reduceCtorEq, branch_decide, branch_not, branch_beq, branch_bne]
    rfl
  · simp only [push_cast, ↓branch_true, ↓branch_false, Nat.reduceBEq, Nat.reduceAdd, Nat.reduceMul, Nat.reduceSub, Int.reduceToNat, reduceCtorEq, branch_decide, branch_not, branch_beq, branch_bne]
  rintro _ _ ⟨oc, cp, hoc, rfl, rfl⟩
  rw [ex2_parts.1, ex2_parts.2] at *
  simp only [push_cast, ↓branch_true, ↓branch_false, Nat.reduceBEq, Nat.reduceAdd, Nat.reduceMul, Nat.reduceSub, Int.reduceToNat, reduceCtorEq, branch_decide, branch_not, branch_beq, branch_bne]
  repeat (with_reducible refine And.intro (by omega) ?_)
  refine sp_call (equal_pu [-1, 0, 2, 3] [-1, 0, 2, 3] cap 4 (by decide) (by decide)) rfl [1, 6] rfl ?_ ?_ ?_
  · simp only [push_cast, ↓branch_true, ↓branch_false, Nat.reduceBEq, Nat.reduceAdd, Nat.reduceMul, Nat.reduceSub, Int.reduceToNat, reduceCtorEq, branch_decide, branch_not, branch_beq, branch_bne]
  · simp only [push_cast, ↓branch_true, ↓branch_false, Nat.reduceBEq, Nat.reduceAdd, Nat.reduceMul, Nat.reduceSub, Int.reduceToNat, reduceCtorEq, branch_decide, branch_not, branch_beq, branch_bne]
    exact fun _ _ k hk => lit_row [-1, 0, 2, 3] _ rfl _ k hk
  rw [decide_eq_true rfl]
  simp only [push_cast, ↓branch_true, ↓branch_false, Nat.reduceBEq, Nat.reduceAdd, Nat.reduceMul, Nat.reduceSub, Int.reduceToNat, reduceCtorEq, branch_decide, branch_not, branch_beq, branch_bne]
  repeat (with_reducible refine And.intro (by omega) ?_)
  refine sp_call (equal_pu [3, 4] [3, 4] cap2 2 (by decide) (by decide)) rfl [3, 7] rfl ?_ ?_ ?_
  · simp only [push_cast, ↓branch_true, ↓branch_false, Nat.reduceBEq, Nat.reduceAdd, Nat.reduceMul, Nat.reduceSub, Int.reduceToNat, reduceCtorEq, branch_decide, branch_not, branch_beq, branch_bne]
  · simp only [push_cast, ↓branch_true, ↓branch_false, Nat.reduceBEq, Nat.reduceAdd, Nat.reduceMul, Nat.reduceSub, Int.reduceToNat, reduceCtorEq, branch_decide, branch_not, branch_beq, branch_bne]
    exact fun _ _ k hk => lit_row [3, 4] _ rfl _ k hk
  rw [decide_eq_true rfl]
  simp only [push_cast, ↓branch_true, ↓branch_false, Nat.reduceBEq, Nat.reduceAdd, Nat.reduceMul, Nat.reduceSub, Int.reduceToNat, reduceCtorEq, branch_decide, branch_not, branch_beq, branch_bne]
  repeat (with_reducible refine And.intro (by omega) ?_)
  refine sp_pu (pu_pre ((lwk_mt [4, 5, 8, 9, 10] ?_ (by kernel_rfl) ?_).trans (lit_wk oc cp)) rfl (ex_same oc cp)) ?_
  · simp only [push_cast, ↓branch_true, ↓branch_false, Nat.reduceBEq, Nat.reduceAdd, Nat.reduceMul, Nat.reduceSub, Int.reduceToNat, reduceCtorEq, branch_decide, branch_not, branch_beq, branch_bne]
    rfl
  · simp only [push_cast, ↓branch_true, ↓branch_false, Nat.reduceBEq, Nat.reduceAdd, Nat.reduceMul, Nat.reduceSub, Int.reduceToNat, reduceCtorEq, branch_decide, branch_not, branch_beq, branch_bne]
    refine ⟨fun _ _ => ⟨by decide, fun _ _ => rfl⟩, fun _ _ => ⟨Nat.le_refl _, fun _ _ => rfl⟩, fun _ _ k hk => ?_, fun _ _ k hk => ?_, fun _ _ k hk => ?_⟩
    · rcases (by omega : k = 0 ∨ k = 1 ∨ k = 2) with rfl | rfl | rfl <;> exact ⟨rfl, trivial⟩
    · rcases (by omega : k = 0 ∨ k = 1) with rfl | rfl <;> exact ⟨rfl, trivial⟩
    · rcases (by omega : k = 0 ∨ k = 1) with rfl | rfl <;> (simp only [push_cast, ↓branch_true, ↓branch_false, Nat.reduceBEq, Nat.reduceAdd, Nat.reduceMul, Nat.reduceSub, Int.reduceToNat, reduceCtorEq, branch_decide, branch_not, branch_beq, branch_bne])
  simp only [push_cast, ↓branch_true, ↓branch_false, Nat.reduceBEq, Nat.reduceAdd, Nat.reduceMul, Nat.reduceSub, Int.reduceToNat, reduceCtorEq, branch_decide, branch_not, branch_beq, branch_bne]
  refine ⟨_, _, [], ?_, by kernel_rfl, ?_, rfl, rfl⟩
  · simp only [push_cast, ↓branch_true, ↓branch_false, Nat.reduceBEq, Nat.reduceAdd, Nat.reduceMul, Nat.reduceSub, Int.reduceToNat, reduceCtorEq, branch_decide, branch_not, branch_beq, branch_bne]
  · simp only [push_cast, ↓branch_true, ↓branch_false, Nat.reduceBEq, Nat.reduceAdd, Nat.reduceMul, Nat.reduceSub, Int.reduceToNat, reduceCtorEq, branch_decide, branch_not, branch_beq, branch_bne]
end Go.Proofs.YtapbhppfecfobaaDoor
