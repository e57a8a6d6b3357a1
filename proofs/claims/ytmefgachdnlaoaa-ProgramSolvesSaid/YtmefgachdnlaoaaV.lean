/- Contracts: the examples. -/
import Derived.Test.YtmefgachdnlaoaaSB
set_option maxRecDepth 100000
set_option linter.unusedSimpArgs false
set_option linter.unusedVariables false
namespace Go.Proofs.Ytmefgachdnlaoaa
open Go.RowKit Lp
/-- The first example. -/
def p0P : Pm := ⟨2, 2, fun _ => -1, 2, 2, fun t k => bif t == 0 then (bif k == 0 then 1 else 2) else (bif k == 0 then 3 else 1), fun _ => 2, fun _ => 2, fun _ => 1, fun t => bif t == 0 then 4 else 6, 2, by decide⟩
theorem example_sp : Sp Try.prog 40 [] [] (fun r H => r = svP p0P ∧ H = obP p0P) := by
  refine sp_weak ?_
  refine sp_of_exa true true [] mixed Try.call40 Try.func40 rfl Try.ntmps40 Try.results40 (by decide +kernel) rfl ?_
  simp only [push_cast, ↓branch_true, ↓branch_false, Nat.reduceBEq, Nat.reduceAdd, Nat.reduceMul, Nat.reduceSub, Int.reduceToNat, reduceCtorEq, Int.reduceAdd, Int.reduceEq, Int.reduceLE, Int.reduceLT, Nat.reduceLT, Nat.reduceLeDiff]
  refine Or.inl (Or.inl (Or.inr ⟨2, ?_⟩))
  simp only [push_cast, ↓branch_true, ↓branch_false, Nat.reduceBEq, Nat.reduceAdd, Nat.reduceMul, Nat.reduceSub, Int.reduceToNat, reduceCtorEq, Int.reduceAdd, Int.reduceEq, Int.reduceLE, Int.reduceLT, Nat.reduceLT, Nat.reduceLeDiff]
  refine Or.inl ⟨_, _, [1, 3, 2], ?_, by kernel_rfl, ?_, rfl, rfl⟩
  · simp only [push_cast, ↓branch_true, ↓branch_false, Nat.reduceBEq, Nat.reduceAdd, Nat.reduceMul, Nat.reduceSub, Int.reduceToNat, reduceCtorEq, Int.reduceAdd, Int.reduceEq, Int.reduceLE, Int.reduceLT, Nat.reduceLT, Nat.reduceLeDiff, p0P]
  · simp only [push_cast, ↓branch_true, ↓branch_false, Nat.reduceBEq, Nat.reduceAdd, Nat.reduceMul, Nat.reduceSub, Int.reduceToNat, reduceCtorEq, Int.reduceAdd, Int.reduceEq, Int.reduceLE, Int.reduceLT, Nat.reduceLT, Nat.reduceLeDiff, p0P]
    refine ⟨fun i _ k hk => ?_, fun i _ k hk => ?_, fun i hi => ⟨?_, fun k hk => ?_⟩⟩
    · rcases (by omega : k = 0 ∨ k = 1) with rfl | rfl <;> exact ⟨rfl, trivial⟩
    · rcases (by omega : k = 0 ∨ k = 1) with rfl | rfl
      · exact ⟨(by (simp only [push_cast, ↓branch_true, ↓branch_false, Nat.reduceBEq, Nat.reduceAdd, Nat.reduceMul, Nat.reduceSub, Int.reduceToNat, reduceCtorEq, Int.reduceAdd, Int.reduceEq, Int.reduceLE, Int.reduceLT, Nat.reduceLT, Nat.reduceLeDiff]) : mt [1, 3, 2] (.s 2 0 0 2 2 1) (.s 2 0 0 2 2 1)), rfl, rfl, trivial⟩
      · exact ⟨(by (simp only [push_cast, ↓branch_true, ↓branch_false, Nat.reduceBEq, Nat.reduceAdd, Nat.reduceMul, Nat.reduceSub, Int.reduceToNat, reduceCtorEq, Int.reduceAdd, Int.reduceEq, Int.reduceLE, Int.reduceLT, Nat.reduceLT, Nat.reduceLeDiff]) : mt [1, 3, 2] (.s 2 1 0 2 2 1) (.s 2 1 0 2 2 1)), rfl, rfl, trivial⟩
    · cases i == 1 <;> exact Nat.le_refl _
    · rcases (by omega : i = 0 ∨ i = 1) with rfl | rfl <;> rcases (by omega : k = 0 ∨ k = 1) with rfl | rfl <;> exact ⟨rfl, trivial⟩
theorem p0_v : vPm p0P = true := by
  rw [vPm_iff]
  refine ⟨⟨by decide, by decide, by decide, fun j hj => by show far 1048576 (-1) = false; decide⟩, fun t ht => ?_⟩
  have ht : t < 2 := ht
  rw [badR_iff]
  rcases (by omega : t = 0 ∨ t = 1) with rfl | rfl
  · exact ⟨rfl, fun k hk => by show -1048576 ≤ (bif k == 0 then 1 else 2 : Int) ∧ (bif k == 0 then 1 else 2 : Int) ≤ 1048576; cases k == 0 <;> decide, by decide, by decide⟩
  · exact ⟨rfl, fun k hk => by show -1048576 ≤ (bif k == 0 then 3 else 1 : Int) ∧ (bif k == 0 then 3 else 1 : Int) ≤ 1048576; cases k == 0 <;> decide, by decide, by decide⟩
theorem p0_ok : PmOk p0P := pmok_of (by decide) (by decide) p0_v
theorem p0_fit : fitB p0P = true := by decide +kernel
def p0X (j : Nat) : Int := bif j == 0 then 8 else 6
def p0Y (t : Nat) : Int := bif t == 0 then -2 else -1
theorem p0_prim : Prim (lpP p0P) p0X 5 := by
  refine ⟨by decide, fun j _ => by unfold p0X; cases j == 0 <;> decide, fun t ht => ?_⟩
  have ht : t < 2 := ht
  rcases (by omega : t = 0 ∨ t = 1) with rfl | rfl
  · show (20 : Int) ≤ 20; decide
  · show (30 : Int) ≤ 30; decide
theorem p0_dual : Dual (lpP p0P) (fun j => p0P.co j * 5) p0Y := by
  refine ⟨fun j hj => ?_, fun t ht => ?_⟩
  · have hj : j < 2 := hj
    rcases (by omega : j = 0 ∨ j = 1) with rfl | rfl
    · show (-5 : Int) ≤ -5; decide
    · show (-5 : Int) ≤ -5; decide
  · have ht : t < 2 := ht
    rcases (by omega : t = 0 ∨ t = 1) with rfl | rfl
    · show (-2 : Int) ≤ 0; decide
    · show (-1 : Int) ≤ 0; decide
theorem p0_sol {r : SV} {H : List Ob} (h : SolR p0P r H) : ∃ s cx cy, r = .t [.a [.v (.int .i64 (-14)), .v (.int .i64 5), .s 3 0 0 2 cx 2, .s 4 0 0 2 cy 2], .v (.int .i64 0)] ∧
    H = obP p0P ++ [oFr 2 cx (xvF p0P.R s 2) s.d.toNat, oFr 2 cy (mulP p0P s) s.d.toNat] := by
  cases h with
  | ok s cx cy _ _ hL hx hy =>
    have hs := last_pos hL
    have hv := val_uniq p0_ok hL p0_prim (by decide : (0 : Int) < 5) p0_dual (v := -14) (by decide) (by decide)
    obtain ⟨e1, e2⟩ := r_same (N := valP p0P s) (D := s.d.toNat) (N' := -14) (D' := 5) (by omega) (by decide) (by rw [show ((s.d.toNat : Nat) : Int) = s.d by omega]; exact hv)
    refine ⟨s, cx, cy, ?_, rfl⟩
    rw [e1, e2]
    rfl
  | bad e h =>
    exfalso
    rcases h with ⟨h, _⟩ | ⟨_, h, _⟩ | ⟨_, _, ⟨_, Y, hG⟩ | ⟨_, _, W, hW⟩⟩
    · rw [p0_v] at h; cases h
    · rw [p0_fit] at h; cases h
    · exact farkas_no p0_prim hG.1 hG.2
    · exact ray_no hW (by decide : (0 : Int) < 5) p0_dual
theorem p0_chk {b : Bool} {e : Int} (h : ChkR p0P (-14) 5 2 p0X (fun _ => 5) 2 p0Y (fun _ => 5) b e) : b = true ∧ e = 0 := by
  cases h with
  | arg h =>
    exfalso
    rcases h with h | h | h | h
    · rw [p0_v] at h; cases h
    · exact absurd h (by decide +kernel)
    · exact absurd h (by decide +kernel)
    · exact absurd h (by decide +kernel)
  | size _ _ _ _ h => exact absurd h (by decide)
  | ok => exact ⟨by decide +kernel, by decide +kernel⟩
/-- The second example, which has no feasible points. -/
def p1P : Pm := ⟨1, 1, fun _ => 0, 2, 2, fun _ _ => 1, fun _ => 1, fun _ => 1, fun t => bif t == 0 then 2 else 1, fun t => bif t == 0 then 3 else 2, 2, by decide⟩
def p1Y (t : Nat) : Int := bif t == 0 then 1 else -1
theorem p1_v : vPm p1P = true := by decide +kernel
theorem p1_ok : PmOk p1P := pmok_of (by decide) (by decide) p1_v
theorem p1_ref {b : Bool} {e : Int} (h : RefR p1P 2 p1Y (fun _ => 1) b e) : b = true ∧ e = 0 := by
  cases h with
  | arg h =>
    exfalso
    rcases h with h | h
    · rw [p1_v] at h; cases h
    · exact absurd h (by decide +kernel)
  | size _ _ h => exact absurd h (by decide)
  | ok => exact ⟨by decide +kernel, by decide +kernel⟩
set_option maxHeartbeats 16000000 in
theorem awake_sp : Sp Try.prog 11 [] [] (fun r H => r = .v (.bool true) ∧ H = []) := by
  refine sp_weak ?_
  refine sp_of_exa true true [] mixed Try.call11 Try.func11 rfl Try.ntmps11 Try.results11 (by decide +kernel) rfl ?_
  simp only [push_cast, ↓branch_true, ↓branch_false, Nat.reduceBEq, Nat.reduceAdd, Nat.reduceMul, Nat.reduceSub, Int.reduceToNat, reduceCtorEq, Int.reduceAdd, Int.reduceEq, Int.reduceLE, Int.reduceLT, Nat.reduceLT, Nat.reduceLeDiff]
  refine Or.inl (sp_at example_sp [] rfl ?_ ?_ ?_)
  · simp only [push_cast, ↓branch_true, ↓branch_false, Nat.reduceBEq, Nat.reduceAdd, Nat.reduceMul, Nat.reduceSub, Int.reduceToNat, reduceCtorEq, Int.reduceAdd, Int.reduceEq, Int.reduceLE, Int.reduceLT, Nat.reduceLT, Nat.reduceLeDiff]
  · simp only [push_cast, ↓branch_true, ↓branch_false, Nat.reduceBEq, Nat.reduceAdd, Nat.reduceMul, Nat.reduceSub, Int.reduceToNat, reduceCtorEq, Int.reduceAdd, Int.reduceEq, Int.reduceLE, Int.reduceLT, Nat.reduceLT, Nat.reduceLeDiff]
  rintro _ _ ⟨rfl, rfl⟩
  simp only [push_cast, ↓branch_true, ↓branch_false, Nat.reduceBEq, Nat.reduceAdd, Nat.reduceMul, Nat.reduceSub, Int.reduceToNat, reduceCtorEq, Int.reduceAdd, Int.reduceEq, Int.reduceLE, Int.reduceLT, Nat.reduceLT, Nat.reduceLeDiff]
  refine Or.inl (sp_at (solve_sp p0P (fun _ => p0_ok) (fun _ _ => by show 2 ≤ 1000000; decide) (by decide) (by decide)) [0, 1, 2] rfl ?_ ?_ ?_)
  · simp only [push_cast, ↓branch_true, ↓branch_false, Nat.reduceBEq, Nat.reduceAdd, Nat.reduceMul, Nat.reduceSub, Int.reduceToNat, reduceCtorEq, Int.reduceAdd, Int.reduceEq, Int.reduceLE, Int.reduceLT, Nat.reduceLT, Nat.reduceLeDiff]
  · simp only [push_cast, ↓branch_true, ↓branch_false, Nat.reduceBEq, Nat.reduceAdd, Nat.reduceMul, Nat.reduceSub, Int.reduceToNat, reduceCtorEq, Int.reduceAdd, Int.reduceEq, Int.reduceLE, Int.reduceLT, Nat.reduceLT, Nat.reduceLeDiff]
  intro r0 H0 hS
  obtain ⟨s, cx, cy, rfl, rfl⟩ := p0_sol hS
  simp only [push_cast, ↓branch_true, ↓branch_false, Nat.reduceBEq, Nat.reduceAdd, Nat.reduceMul, Nat.reduceSub, Int.reduceToNat, reduceCtorEq, Int.reduceAdd, Int.reduceEq, Int.reduceLE, Int.reduceLT, Nat.reduceLT, Nat.reduceLeDiff]
  refine Or.inl (sp_at example_sp [] rfl ?_ ?_ ?_)
  · simp only [push_cast, ↓branch_true, ↓branch_false, Nat.reduceBEq, Nat.reduceAdd, Nat.reduceMul, Nat.reduceSub, Int.reduceToNat, reduceCtorEq, Int.reduceAdd, Int.reduceEq, Int.reduceLE, Int.reduceLT, Nat.reduceLT, Nat.reduceLeDiff]
  · simp only [push_cast, ↓branch_true, ↓branch_false, Nat.reduceBEq, Nat.reduceAdd, Nat.reduceMul, Nat.reduceSub, Int.reduceToNat, reduceCtorEq, Int.reduceAdd, Int.reduceEq, Int.reduceLE, Int.reduceLT, Nat.reduceLT, Nat.reduceLeDiff]
  rintro _ _ ⟨rfl, rfl⟩
  simp only [push_cast, ↓branch_true, ↓branch_false, Nat.reduceBEq, Nat.reduceAdd, Nat.reduceMul, Nat.reduceSub, Int.reduceToNat, reduceCtorEq, Int.reduceAdd, Int.reduceEq, Int.reduceLE, Int.reduceLT, Nat.reduceLT, Nat.reduceLeDiff]
  iterate 3 refine Or.inl ?_
  refine sp_at (check_sp p0P (fun _ => p0_ok) (fun _ _ => by show 2 ≤ 1000000; decide) (by decide) (by decide) (-14) 5 2 2 p0X (fun _ => 5) 2 2 p0Y (fun _ => 5) (by decide) (by decide) (by decide) (by decide) (fun k hk => ?_) (fun k hk => ?_)) [6, 7, 8, 9, 10] rfl ?_ ?_ ?_
  · unfold p0X; cases k == 0 <;> decide
  · unfold p0Y; cases k == 0 <;> decide
  · simp only [push_cast, ↓branch_true, ↓branch_false, Nat.reduceBEq, Nat.reduceAdd, Nat.reduceMul, Nat.reduceSub, Int.reduceToNat, reduceCtorEq, Int.reduceAdd, Int.reduceEq, Int.reduceLE, Int.reduceLT, Nat.reduceLT, Nat.reduceLeDiff]
  · simp only [push_cast, ↓branch_true, ↓branch_false, Nat.reduceBEq, Nat.reduceAdd, Nat.reduceMul, Nat.reduceSub, Int.reduceToNat, reduceCtorEq, Int.reduceAdd, Int.reduceEq, Int.reduceLE, Int.reduceLT, Nat.reduceLT, Nat.reduceLeDiff]
    refine ⟨fun i _ k hk => ?_, fun i _ k hk => ?_⟩
    · rcases (by omega : k = 0 ∨ k = 1) with rfl | rfl <;> exact ⟨rfl, rfl, trivial⟩
    · rcases (by omega : k = 0 ∨ k = 1) with rfl | rfl <;> exact ⟨rfl, rfl, trivial⟩
  rintro _ _ ⟨b, e, rfl, hC, rfl⟩
  obtain ⟨rfl, rfl⟩ := p0_chk hC
  simp only [push_cast, ↓branch_true, ↓branch_false, Nat.reduceBEq, Nat.reduceAdd, Nat.reduceMul, Nat.reduceSub, Int.reduceToNat, reduceCtorEq, Int.reduceAdd, Int.reduceEq, Int.reduceLE, Int.reduceLT, Nat.reduceLT, Nat.reduceLeDiff]
  refine Or.inl (Or.inl (Or.inr ⟨12, ?_⟩))
  simp only [push_cast, ↓branch_true, ↓branch_false, Nat.reduceBEq, Nat.reduceAdd, Nat.reduceMul, Nat.reduceSub, Int.reduceToNat, reduceCtorEq, Int.reduceAdd, Int.reduceEq, Int.reduceLE, Int.reduceLT, Nat.reduceLT, Nat.reduceLeDiff]
  iterate 3 refine Or.inl ?_
  refine sp_at (refutes_sp p1P (fun _ => p1_ok) (fun _ _ => by show 1 ≤ 1000000; decide) (by decide) (by decide) 2 2 p1Y (fun _ => 1) (by decide) (fun k hk => ?_)) [11, 13, 12, 15] rfl ?_ ?_ ?_
  · unfold p1Y; cases k == 0 <;> decide
  · simp only [push_cast, ↓branch_true, ↓branch_false, Nat.reduceBEq, Nat.reduceAdd, Nat.reduceMul, Nat.reduceSub, Int.reduceToNat, reduceCtorEq, Int.reduceAdd, Int.reduceEq, Int.reduceLE, Int.reduceLT, Nat.reduceLT, Nat.reduceLeDiff, p1P]
  · simp only [push_cast, ↓branch_true, ↓branch_false, Nat.reduceBEq, Nat.reduceAdd, Nat.reduceMul, Nat.reduceSub, Int.reduceToNat, reduceCtorEq, Int.reduceAdd, Int.reduceEq, Int.reduceLE, Int.reduceLT, Nat.reduceLT, Nat.reduceLeDiff, p1P]
    refine ⟨fun i _ k hk => ?_, fun i _ k hk => ?_, fun i hi => ⟨?_, fun k hk => ?_⟩, fun i _ k hk => ?_⟩
    · obtain rfl : k = 0 := by omega
      exact ⟨rfl, trivial⟩
    · rcases (by omega : k = 0 ∨ k = 1) with rfl | rfl
      · exact ⟨(by (simp only [push_cast, ↓branch_true, ↓branch_false, Nat.reduceBEq, Nat.reduceAdd, Nat.reduceMul, Nat.reduceSub, Int.reduceToNat, reduceCtorEq, Int.reduceAdd, Int.reduceEq, Int.reduceLE, Int.reduceLT, Nat.reduceLT, Nat.reduceLeDiff]) : mt [11, 13, 12, 15] (.s 2 0 0 1 1 1) (.s 12 0 0 1 1 1)), rfl, rfl, trivial⟩
      · exact ⟨(by (simp only [push_cast, ↓branch_true, ↓branch_false, Nat.reduceBEq, Nat.reduceAdd, Nat.reduceMul, Nat.reduceSub, Int.reduceToNat, reduceCtorEq, Int.reduceAdd, Int.reduceEq, Int.reduceLE, Int.reduceLT, Nat.reduceLT, Nat.reduceLeDiff]) : mt [11, 13, 12, 15] (.s 2 1 0 1 1 1) (.s 12 1 0 1 1 1)), rfl, rfl, trivial⟩
    · cases i == 1 <;> exact Nat.le_refl _
    · obtain rfl : k = 0 := by omega
      rcases (by omega : i = 0 ∨ i = 1) with rfl | rfl <;> exact ⟨rfl, trivial⟩
    · rcases (by omega : k = 0 ∨ k = 1) with rfl | rfl <;> exact ⟨rfl, rfl, trivial⟩
  rintro _ _ ⟨b, e, rfl, hR, rfl⟩
  obtain ⟨rfl, rfl⟩ := p1_ref hR
  simp only [push_cast, ↓branch_true, ↓branch_false, Nat.reduceBEq, Nat.reduceAdd, Nat.reduceMul, Nat.reduceSub, Int.reduceToNat, reduceCtorEq, Int.reduceAdd, Int.reduceEq, Int.reduceLE, Int.reduceLT, Nat.reduceLT, Nat.reduceLeDiff]
  refine ⟨agg27 _ _ _ _, _, _, [], ?_, by kernel_rfl, ?_, rfl, rfl⟩
  · simp only [push_cast, ↓branch_true, ↓branch_false, Nat.reduceBEq, Nat.reduceAdd, Nat.reduceMul, Nat.reduceSub, Int.reduceToNat, reduceCtorEq, Int.reduceAdd, Int.reduceEq, Int.reduceLE, Int.reduceLT, Nat.reduceLT, Nat.reduceLeDiff]
  · simp only [push_cast, ↓branch_true, ↓branch_false, Nat.reduceBEq, Nat.reduceAdd, Nat.reduceMul, Nat.reduceSub, Int.reduceToNat, reduceCtorEq, Int.reduceAdd, Int.reduceEq, Int.reduceLE, Int.reduceLT, Nat.reduceLT, Nat.reduceLeDiff]
end Go.Proofs.Ytmefgachdnlaoaa
