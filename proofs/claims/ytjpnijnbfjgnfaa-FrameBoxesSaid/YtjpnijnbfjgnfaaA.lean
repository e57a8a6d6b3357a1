/- Contracts of the package frame: what each call returns, and that it leaves what was there as it was: axis, Valid, unit, cross. -/
import Derived.Test.YtjpnijnbfjgnfaaRows
import Derived.WalkKit
import Derived.WalkSpells
import Derived.WalkLawsBesides
import Derived.Handy
import Derived.Deep.QuietTactic
import Derived.BigQuiet
namespace Go.Proofs.Ytjpnijnbfjgnfaa
open Go.RowKit

def axB (n : Int) : Bool := decide (n ≠ 0 ∧ -3 ≤ n ∧ n ≤ 3)
theorem axB_iff (n : Int) : axB n = true ↔ (n = 1 ∨ n = 2 ∨ n = 3 ∨ n = -1 ∨ n = -2 ∨ n = -3) := by unfold axB; simp; omega

theorem ret_bool {a b : Bool} (h : a = b) : Ending.returned (.bool a) = .returned (.bool b) := by rw [h]
theorem ret_int {k : IntKind} {a b : Int} (h : a = b) : Ending.returned (.int k a) = .returned (.int k b) := by rw [h]

set_option maxHeartbeats 400000 in
theorem axis_any (n : Int) (w : World) :
    Calls Try.prog 35 #[.int .i64 n] w fun e w' => e = .returned (.bool (axB n)) ∧ w = w' := by
  go_enter Try.func35, Try.ntmps35
  go_wp2
  all_goals (go_ret; exact ⟨ret_bool (by unfold axB; first | (subst_vars; rfl) | (rw [Bool.eq_iff_iff]; simp; omega)), rfl⟩)
set_option maxHeartbeats 400000 in
theorem raxis_any (n : Int) (w : World) :
    Calls Try.prog 36 #[.int .i64 n] w fun e w' => e = .returned (.bool (axB n)) ∧ w = w' := by
  go_enter Try.func36, Try.ntmps36
  go_wp2
  all_goals (go_ret; exact ⟨ret_bool (by unfold axB; first | (subst_vars; rfl) | (rw [Bool.eq_iff_iff]; simp; omega)), rfl⟩)

def vldB (x y : Int) : Bool := axB x && (axB y && (x != y && x != -y))
theorem axB_neg {y : Int} (h : axB y = true) : wrap64 (-y) = -y := by
  rcases (axB_iff y).1 h with rfl | rfl | rfl | rfl | rfl | rfl <;> exact IntWalk.wrap64_in _ (by omega)
set_option maxHeartbeats 400000 in
theorem valid_any (x y : Int) (w : World) :
    Calls Try.prog 11 #[.agg #[.int .i64 x, .int .i64 y]] w fun e w' => e = .returned (.bool (vldB x y)) ∧ Below w.heap.size w w' := by
  go_enter Try.func11, Try.ntmps11
  go_wp2_with (go_at_call 35; refine (axis_any _ _).mono ?_; rintro e w' ⟨rfl, rfl⟩)
  all_goals (go_ret; refine ⟨ret_bool ?_, by go_grown⟩)
  all_goals (unfold vldB; first | (rw [axB_neg ‹axB y = true›]; simp [*]) | simp [*])
set_option maxHeartbeats 400000 in
theorem rvalid_any (x y : Int) (w : World) :
    Calls Try.prog 12 #[.agg #[.int .i64 x, .int .i64 y]] w fun e w' => e = .returned (.bool (vldB x y)) ∧ Below w.heap.size w w' := by
  go_enter Try.func12, Try.ntmps12
  go_wp2_with (go_at_call 36; refine (raxis_any _ _).mono ?_; rintro e w' ⟨rfl, rfl⟩)
  all_goals (go_ret; refine ⟨ret_bool ?_, by go_grown⟩)
  all_goals (unfold vldB; first | (rw [axB_neg ‹axB y = true›]; simp [*]) | simp [*])

def u0 (n : Int) : Int := if n = 1 then 1 else if n = -1 then -1 else 0
def u1 (n : Int) : Int := if n = 2 then 1 else if n = -2 then -1 else 0
def u2 (n : Int) : Int := if n = 3 then 1 else if n = -3 then -1 else 0
abbrev A3 (a b c : Int) : Value := .agg #[.int .i64 a, .int .i64 b, .int .i64 c]
set_option maxHeartbeats 400000 in
theorem unit_any (n : Int) (w : World) (h : axB n = true) :
    Calls Try.prog 54 #[.int .i64 n] w fun e w' => e = .returned (A3 (u0 n) (u1 n) (u2 n)) ∧ Below w.heap.size w w' := by
  rcases (axB_iff n).1 h with rfl | rfl | rfl | rfl | rfl | rfl
  all_goals
    clear h
    go_enter Try.func54, Try.ntmps54
    go_wp2
    go_returns
    exact ⟨rfl, by go_grown⟩

set_option maxHeartbeats 400000 in
theorem cross_any (a0 a1 a2 b0 b1 b2 : Int) (w : World) :
    Calls Try.prog 67 #[A3 a0 a1 a2, A3 b0 b1 b2] w fun e w' => e = .returned (A3 (wrap64 (wrap64 (a1*b2) - wrap64 (a2*b1))) (wrap64 (wrap64 (a2*b0) - wrap64 (a0*b2))) (wrap64 (wrap64 (a0*b1) - wrap64 (a1*b0)))) ∧ Below w.heap.size w w' := by
  go_enter Try.func67, Try.ntmps67
  go_wp2
  go_returns
  exact ⟨rfl, by go_grown⟩
end Go.Proofs.Ytjpnijnbfjgnfaa
