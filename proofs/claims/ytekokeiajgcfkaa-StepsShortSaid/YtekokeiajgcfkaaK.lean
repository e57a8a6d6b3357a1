/- Contracts: Pulse; the reference's Pulse, Below. -/
import Derived.Test.YtekokeiajgcfkaaJ
set_option maxRecDepth 100000
set_option linter.unusedSimpArgs false
set_option linter.unusedVariables false
namespace Go.Proofs.Ytekokeiajgcfkaa
open Go.RowKit
def pulL (lo hi v : Int) : List Stp := [⟨lo, v⟩, ⟨hi, 0⟩]
def pulB (lo hi v : Int) : Bool := placeB lo && (placeB hi && (decide (lo < hi) && (decide (0 ≤ v) && decide (v ≤ 1099511627776))))
def pulR (lo hi v : Int) : List Stp := if pulB lo hi v = true then shortL 0 (pulL lo hi v) else []
def pulE (lo hi v : Int) : Int := if pulB lo hi v = true then 0 else 2
theorem row2 {lo hi v w : Int} {rl : List Nat} {k : Nat} (hk : k < 2) : mtL rl [.v (.int .i64 (ix [(⟨lo, v⟩ : Stp), ⟨hi, w⟩] k).x), .v (.int .i64 (ix [(⟨lo, v⟩ : Stp), ⟨hi, w⟩] k).v)] (rowF [.v (.int .i64 lo), .v (.int .i64 v), .v (.int .i64 hi), .v (.int .i64 w)] 2 k) := by
  have : k = 0 ∨ k = 1 := by omega
  rcases this with rfl | rfl <;> (simp only [push_cast, ↓branch_true, ↓branch_false, Nat.reduceBEq, Nat.reduceAdd, Nat.reduceMul, Nat.reduceSub, Int.reduceToNat, reduceCtorEq, branch_decide, branch_not, branch_beq, branch_bne]) <;> exact ⟨rfl, rfl⟩
theorem pulse_sp (lo hi v : Int) : Sp Try.prog 24 [.v (.int .i64 lo), .v (.int .i64 hi), .v (.int .i64 v)] [] (fun r H => ∃ cap, (pulR lo hi v).length ≤ cap ∧ r = .t [.s 0 0 0 (pulR lo hi v).length cap 2, .v (.int .i64 (pulE lo hi v))] ∧ H = [rSO (pulR lo hi v) cap]) := by
  refine sp_weak ?_
  refine sp_of_ex true [] mixed Try.call24 Try.func24 rfl Try.ntmps24 Try.results24 (by decide +kernel) rfl ?_
  simp only [push_cast, ↓branch_true, ↓branch_false, Nat.reduceBEq, Nat.reduceAdd, Nat.reduceMul, Nat.reduceSub, Int.reduceToNat, reduceCtorEq, branch_decide, branch_not, branch_beq, branch_bne]
  have bad : pulB lo hi v = false → pulR lo hi v = [] ∧ pulE lo hi v = 2 := fun h => by simp [pulR, pulE, h]
  refine sp_call (place_pu lo) rfl [] rfl (by simp only [push_cast, ↓branch_true, ↓branch_false, Nat.reduceBEq, Nat.reduceAdd, Nat.reduceMul, Nat.reduceSub, Int.reduceToNat, reduceCtorEq, branch_decide, branch_not, branch_beq, branch_bne]) (by simp only [push_cast, ↓branch_true, ↓branch_false, Nat.reduceBEq, Nat.reduceAdd, Nat.reduceMul, Nat.reduceSub, Int.reduceToNat, reduceCtorEq, branch_decide, branch_not, branch_beq, branch_bne]) ?_
  simp only [push_cast, ↓branch_true, ↓branch_false, Nat.reduceBEq, Nat.reduceAdd, Nat.reduceMul, Nat.reduceSub, Int.reduceToNat, reduceCtorEq, branch_decide, branch_not, branch_beq, branch_bne]
  cases hp1 : placeB lo with
  | false =>
    simp only [push_cast, ↓branch_true, ↓branch_false, Nat.reduceBEq, Nat.reduceAdd, Nat.reduceMul, Nat.reduceSub, Int.reduceToNat, reduceCtorEq, branch_decide, branch_not, branch_beq, branch_bne]
    obtain ⟨e1, e2⟩ := bad (by simp [pulB, hp1])
    rw [e1, e2]
    refine ⟨_, _, [0], ?_, by kernel_rfl, ?_, 0, Nat.le_refl _, rfl, rfl⟩ <;> (simp only [push_cast, ↓branch_true, ↓branch_false, Nat.reduceBEq, Nat.reduceAdd, Nat.reduceMul, Nat.reduceSub, Int.reduceToNat, reduceCtorEq, branch_decide, branch_not, branch_beq, branch_bne])
  | true =>
  simp only [push_cast, ↓branch_true, ↓branch_false, Nat.reduceBEq, Nat.reduceAdd, Nat.reduceMul, Nat.reduceSub, Int.reduceToNat, reduceCtorEq, branch_decide, branch_not, branch_beq, branch_bne]
  refine sp_call (place_pu hi) rfl [] rfl (by simp only [push_cast, ↓branch_true, ↓branch_false, Nat.reduceBEq, Nat.reduceAdd, Nat.reduceMul, Nat.reduceSub, Int.reduceToNat, reduceCtorEq, branch_decide, branch_not, branch_beq, branch_bne]) (by simp only [push_cast, ↓branch_true, ↓branch_false, Nat.reduceBEq, Nat.reduceAdd, Nat.reduceMul, Nat.reduceSub, Int.reduceToNat, reduceCtorEq, branch_decide, branch_not, branch_beq, branch_bne]) ?_
  simp only [push_cast, ↓branch_true, ↓branch_false, Nat.reduceBEq, Nat.reduceAdd, Nat.reduceMul, Nat.reduceSub, Int.reduceToNat, reduceCtorEq, branch_decide, branch_not, branch_beq, branch_bne]
  cases hp2 : placeB hi with
  | false =>
    simp only [push_cast, ↓branch_true, ↓branch_false, Nat.reduceBEq, Nat.reduceAdd, Nat.reduceMul, Nat.reduceSub, Int.reduceToNat, reduceCtorEq, branch_decide, branch_not, branch_beq, branch_bne]
    obtain ⟨e1, e2⟩ := bad (by simp [pulB, hp2])
    rw [e1, e2]
    refine ⟨_, _, [0], ?_, by kernel_rfl, ?_, 0, Nat.le_refl _, rfl, rfl⟩ <;> (simp only [push_cast, ↓branch_true, ↓branch_false, Nat.reduceBEq, Nat.reduceAdd, Nat.reduceMul, Nat.reduceSub, Int.reduceToNat, reduceCtorEq, branch_decide, branch_not, branch_beq, branch_bne])
  | true =>
  simp only [push_cast, ↓branch_true, ↓branch_false, Nat.reduceBEq, Nat.reduceAdd, Nat.reduceMul, Nat.reduceSub, Int.reduceToNat, reduceCtorEq, branch_decide, branch_not, branch_beq, branch_bne]
  refine ⟨fun h1 => ?_, fun h1 => ⟨fun h2 => ?_, fun h2 => ⟨fun h3 => ?_, fun h3 => ?_⟩⟩⟩
  · obtain ⟨e1, e2⟩ := bad (by simp [pulB]; omega)
    rw [e1, e2]
    refine ⟨_, _, [0], ?_, by kernel_rfl, ?_, 0, Nat.le_refl _, rfl, rfl⟩ <;> (simp only [push_cast, ↓branch_true, ↓branch_false, Nat.reduceBEq, Nat.reduceAdd, Nat.reduceMul, Nat.reduceSub, Int.reduceToNat, reduceCtorEq, branch_decide, branch_not, branch_beq, branch_bne])
  · obtain ⟨e1, e2⟩ := bad (by simp [pulB]; omega)
    rw [e1, e2]
    refine ⟨_, _, [0], ?_, by kernel_rfl, ?_, 0, Nat.le_refl _, rfl, rfl⟩ <;> (simp only [push_cast, ↓branch_true, ↓branch_false, Nat.reduceBEq, Nat.reduceAdd, Nat.reduceMul, Nat.reduceSub, Int.reduceToNat, reduceCtorEq, branch_decide, branch_not, branch_beq, branch_bne])
  · obtain ⟨e1, e2⟩ := bad (by simp [pulB]; omega)
    rw [e1, e2]
    refine ⟨_, _, [0], ?_, by kernel_rfl, ?_, 0, Nat.le_refl _, rfl, rfl⟩ <;> (simp only [push_cast, ↓branch_true, ↓branch_false, Nat.reduceBEq, Nat.reduceAdd, Nat.reduceMul, Nat.reduceSub, Int.reduceToNat, reduceCtorEq, branch_decide, branch_not, branch_beq, branch_bne])
  have ok : pulB lo hi v = true := by
    simp [pulB, hp1, hp2]
    omega
  have e1 : pulR lo hi v = shortL 0 (pulL lo hi v) := by rw [pulR, if_pos ok]
  have e2 : pulE lo hi v = 0 := by rw [pulE, if_pos ok]
  rw [e1, e2]
  repeat (with_reducible refine And.intro (by omega) ?_)
  refine sp_at (short_sp (pulL lo hi v) 2 (by simp [pulL])) [0] rfl ?_ ?_ ?_
  · simp only [push_cast, ↓branch_true, ↓branch_false, Nat.reduceBEq, Nat.reduceAdd, Nat.reduceMul, Nat.reduceSub, Int.reduceToNat, reduceCtorEq, branch_decide, branch_not, branch_beq, branch_bne]
    rfl
  · simp only [push_cast, ↓branch_true, ↓branch_false, Nat.reduceBEq, Nat.reduceAdd, Nat.reduceMul, Nat.reduceSub, Int.reduceToNat, reduceCtorEq, branch_decide, branch_not, branch_beq, branch_bne]
    exact fun i hi => ⟨Nat.le_refl _, fun k hk => row2 hk⟩
  rintro _ _ ⟨cap, hcap, rfl, rfl⟩
  simp only [push_cast, ↓branch_true, ↓branch_false, Nat.reduceBEq, Nat.reduceAdd, Nat.reduceMul, Nat.reduceSub, Int.reduceToNat, reduceCtorEq, branch_decide, branch_not, branch_beq, branch_bne]
  refine ⟨_, _, [1], ?_, by kernel_rfl, ?_, cap, hcap, rfl, rfl⟩ <;> (simp only [push_cast, ↓branch_true, ↓branch_false, Nat.reduceBEq, Nat.reduceAdd, Nat.reduceMul, Nat.reduceSub, Int.reduceToNat, reduceCtorEq, branch_decide, branch_not, branch_beq, branch_bne])
theorem rpulse_sp (lo hi v : Int) : Sp Try.prog 25 [.v (.int .i64 lo), .v (.int .i64 hi), .v (.int .i64 v)] [] (fun r H => ∃ cap, (pulR lo hi v).length ≤ cap ∧ r = .t [.s 0 0 0 (pulR lo hi v).length cap 2, .v (.int .i64 (pulE lo hi v))] ∧ H = [rSO (pulR lo hi v) cap]) := by
  refine sp_weak ?_
  refine sp_of_ex true [] mixed Try.call25 Try.func25 rfl Try.ntmps25 Try.results25 (by decide +kernel) rfl ?_
  simp only [push_cast, ↓branch_true, ↓branch_false, Nat.reduceBEq, Nat.reduceAdd, Nat.reduceMul, Nat.reduceSub, Int.reduceToNat, reduceCtorEq, branch_decide, branch_not, branch_beq, branch_bne]
  have bad : pulB lo hi v = false → pulR lo hi v = [] ∧ pulE lo hi v = 2 := fun h => by simp [pulR, pulE, h]
  refine sp_call (rplace_pu lo) rfl [] rfl (by simp only [push_cast, ↓branch_true, ↓branch_false, Nat.reduceBEq, Nat.reduceAdd, Nat.reduceMul, Nat.reduceSub, Int.reduceToNat, reduceCtorEq, branch_decide, branch_not, branch_beq, branch_bne]) (by simp only [push_cast, ↓branch_true, ↓branch_false, Nat.reduceBEq, Nat.reduceAdd, Nat.reduceMul, Nat.reduceSub, Int.reduceToNat, reduceCtorEq, branch_decide, branch_not, branch_beq, branch_bne]) ?_
  simp only [push_cast, ↓branch_true, ↓branch_false, Nat.reduceBEq, Nat.reduceAdd, Nat.reduceMul, Nat.reduceSub, Int.reduceToNat, reduceCtorEq, branch_decide, branch_not, branch_beq, branch_bne]
  cases hp1 : placeB lo with
  | false =>
    simp only [push_cast, ↓branch_true, ↓branch_false, Nat.reduceBEq, Nat.reduceAdd, Nat.reduceMul, Nat.reduceSub, Int.reduceToNat, reduceCtorEq, branch_decide, branch_not, branch_beq, branch_bne]
    obtain ⟨e1, e2⟩ := bad (by simp [pulB, hp1])
    rw [e1, e2]
    refine ⟨_, _, [0], ?_, by kernel_rfl, ?_, 0, Nat.le_refl _, rfl, rfl⟩ <;> (simp only [push_cast, ↓branch_true, ↓branch_false, Nat.reduceBEq, Nat.reduceAdd, Nat.reduceMul, Nat.reduceSub, Int.reduceToNat, reduceCtorEq, branch_decide, branch_not, branch_beq, branch_bne])
  | true =>
  simp only [push_cast, ↓branch_true, ↓branch_false, Nat.reduceBEq, Nat.reduceAdd, Nat.reduceMul, Nat.reduceSub, Int.reduceToNat, reduceCtorEq, branch_decide, branch_not, branch_beq, branch_bne]
  refine sp_call (rplace_pu hi) rfl [] rfl (by simp only [push_cast, ↓branch_true, ↓branch_false, Nat.reduceBEq, Nat.reduceAdd, Nat.reduceMul, Nat.reduceSub, Int.reduceToNat, reduceCtorEq, branch_decide, branch_not, branch_beq, branch_bne]) (by simp only [push_cast, ↓branch_true, ↓branch_false, Nat.reduceBEq, Nat.reduceAdd, Nat.reduceMul, Nat.reduceSub, Int.reduceToNat, reduceCtorEq, branch_decide, branch_not, branch_beq, branch_bne]) ?_
  simp only [push_cast, ↓branch_true, ↓branch_false, Nat.reduceBEq, Nat.reduceAdd, Nat.reduceMul, Nat.reduceSub, Int.reduceToNat, reduceCtorEq, branch_decide, branch_not, branch_beq, branch_bne]
  cases hp2 : placeB hi with
  | false =>
    simp only [push_cast, ↓branch_true, ↓branch_false, Nat.reduceBEq, Nat.reduceAdd, Nat.reduceMul, Nat.reduceSub, Int.reduceToNat, reduceCtorEq, branch_decide, branch_not, branch_beq, branch_bne]
    obtain ⟨e1, e2⟩ := bad (by simp [pulB, hp2])
    rw [e1, e2]
    refine ⟨_, _, [0], ?_, by kernel_rfl, ?_, 0, Nat.le_refl _, rfl, rfl⟩ <;> (simp only [push_cast, ↓branch_true, ↓branch_false, Nat.reduceBEq, Nat.reduceAdd, Nat.reduceMul, Nat.reduceSub, Int.reduceToNat, reduceCtorEq, branch_decide, branch_not, branch_beq, branch_bne])
  | true =>
  simp only [push_cast, ↓branch_true, ↓branch_false, Nat.reduceBEq, Nat.reduceAdd, Nat.reduceMul, Nat.reduceSub, Int.reduceToNat, reduceCtorEq, branch_decide, branch_not, branch_beq, branch_bne]
  refine ⟨fun h1 => ?_, fun h1 => ?_⟩
  · obtain ⟨e1, e2⟩ := bad (by simp [pulB]; omega)
    rw [e1, e2]
    refine ⟨_, _, [0], ?_, by kernel_rfl, ?_, 0, Nat.le_refl _, rfl, rfl⟩ <;> (simp only [push_cast, ↓branch_true, ↓branch_false, Nat.reduceBEq, Nat.reduceAdd, Nat.reduceMul, Nat.reduceSub, Int.reduceToNat, reduceCtorEq, branch_decide, branch_not, branch_beq, branch_bne])
  refine sp_call (between_pu v 0 1099511627776) rfl [] rfl (by simp only [push_cast, ↓branch_true, ↓branch_false, Nat.reduceBEq, Nat.reduceAdd, Nat.reduceMul, Nat.reduceSub, Int.reduceToNat, reduceCtorEq, branch_decide, branch_not, branch_beq, branch_bne]) (by simp only [push_cast, ↓branch_true, ↓branch_false, Nat.reduceBEq, Nat.reduceAdd, Nat.reduceMul, Nat.reduceSub, Int.reduceToNat, reduceCtorEq, branch_decide, branch_not, branch_beq, branch_bne]) ?_
  simp only [push_cast, ↓branch_true, ↓branch_false, Nat.reduceBEq, Nat.reduceAdd, Nat.reduceMul, Nat.reduceSub, Int.reduceToNat, reduceCtorEq, branch_decide, branch_not, branch_beq, branch_bne]
  cases hb : (decide ((0 : Int) ≤ v) && decide (v ≤ 1099511627776)) with
  | false =>
    simp only [push_cast, ↓branch_true, ↓branch_false, Nat.reduceBEq, Nat.reduceAdd, Nat.reduceMul, Nat.reduceSub, Int.reduceToNat, reduceCtorEq, branch_decide, branch_not, branch_beq, branch_bne]
    obtain ⟨e1, e2⟩ := bad (by simp only [pulB, hb]; simp)
    rw [e1, e2]
    refine ⟨_, _, [0], ?_, by kernel_rfl, ?_, 0, Nat.le_refl _, rfl, rfl⟩ <;> (simp only [push_cast, ↓branch_true, ↓branch_false, Nat.reduceBEq, Nat.reduceAdd, Nat.reduceMul, Nat.reduceSub, Int.reduceToNat, reduceCtorEq, branch_decide, branch_not, branch_beq, branch_bne])
  | true =>
  simp only [push_cast, ↓branch_true, ↓branch_false, Nat.reduceBEq, Nat.reduceAdd, Nat.reduceMul, Nat.reduceSub, Int.reduceToNat, reduceCtorEq, branch_decide, branch_not, branch_beq, branch_bne]
  simp only [Bool.and_eq_true, decide_eq_true_eq] at hb
  have ok : pulB lo hi v = true := by
    simp [pulB, hp1, hp2]
    omega
  have e1 : pulR lo hi v = shortL 0 (pulL lo hi v) := by rw [pulR, if_pos ok]
  have e2 : pulE lo hi v = 0 := by rw [pulE, if_pos ok]
  rw [e1, e2]
  repeat (with_reducible refine And.intro (by omega) ?_)
  refine sp_at (rshort_sp (pulL lo hi v) 2 (by simp [pulL])) [0] rfl ?_ ?_ ?_
  · simp only [push_cast, ↓branch_true, ↓branch_false, Nat.reduceBEq, Nat.reduceAdd, Nat.reduceMul, Nat.reduceSub, Int.reduceToNat, reduceCtorEq, branch_decide, branch_not, branch_beq, branch_bne]
    rfl
  · simp only [push_cast, ↓branch_true, ↓branch_false, Nat.reduceBEq, Nat.reduceAdd, Nat.reduceMul, Nat.reduceSub, Int.reduceToNat, reduceCtorEq, branch_decide, branch_not, branch_beq, branch_bne]
    exact fun i hi => ⟨Nat.le_refl _, fun k hk => row2 hk⟩
  rintro _ _ ⟨cap, hcap, rfl, rfl⟩
  simp only [push_cast, ↓branch_true, ↓branch_false, Nat.reduceBEq, Nat.reduceAdd, Nat.reduceMul, Nat.reduceSub, Int.reduceToNat, reduceCtorEq, branch_decide, branch_not, branch_beq, branch_bne]
  refine ⟨_, _, [1], ?_, by kernel_rfl, ?_, cap, hcap, rfl, rfl⟩ <;> (simp only [push_cast, ↓branch_true, ↓branch_false, Nat.reduceBEq, Nat.reduceAdd, Nat.reduceMul, Nat.reduceSub, Int.reduceToNat, reduceCtorEq, branch_decide, branch_not, branch_beq, branch_bne])
end Go.Proofs.Ytekokeiajgcfkaa
