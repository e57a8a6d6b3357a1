/- Contracts of the package frame: what each call returns, and that it leaves what was there as it was: name, direction, the reference s Unit, cross, Plus, times, Near. -/
import Derived.Test.YtjpnijnbfjgnfaaC
namespace Go.Proofs.Ytjpnijnbfjgnfaa
open Go.RowKit BigFrame
def nm (a b c : Int) : Int := wrap64 (wrap64 (a + wrap64 (2 * b)) + wrap64 (3 * c))
set_option maxHeartbeats 400000 in
theorem name_any (a b c : Int) (w : World) : Calls Try.prog 37 #[A3 a b c] w fun e w' => e = .returned (.int .i64 (nm a b c)) ∧ Below w.heap.size w w' := by
  go_enter Try.func37, Try.ntmps37
  go_wp2
  go_ret
  exact ⟨rfl, by go_grown⟩
set_option maxHeartbeats 400000 in
theorem number_any (a b c : Int) (w : World) : Calls Try.prog 40 #[A3 a b c] w fun e w' => e = .returned (.int .i64 (nm a b c)) ∧ Below w.heap.size w w' := by
  go_enter Try.func40, Try.ntmps40
  go_wp2
  go_ret
  exact ⟨rfl, by go_grown⟩
set_option maxHeartbeats 400000 in
theorem direction_any (n : Int) (w : World) (h : axB n = true) : Calls Try.prog 39 #[.int .i64 n] w fun e w' => e = .returned (A3 (u0 n) (u1 n) (u2 n)) ∧ Below w.heap.size w w' := by
  have H := Lib.hid h; clear h
  go_enter Try.func39, Try.ntmps39
  go_wp2_with fail
  obtain ⟨W, e, b0, hS, hlt⟩ := one_new w 37 (R3 0 0 0)
  rw [e]; clear e
  refine (unit_any n _ H.out).mono ?_
  rintro e w1 ⟨rfl, hb⟩
  have b0 := b0.ext hb
  have hS := hS.trans (hb.mono hS.size)
  have hlt := Nat.lt_of_lt_of_le hlt hb.size
  clear hb
  obtain ⟨c0, f0⟩ := b0.cells
  go_wp2_with fail
  obtain ⟨W2, e, b2, t⟩ := set_row3 b0 (.int .i64 (u0 n)) (.int .i64 (u1 n)) (.int .i64 (u2 n))
  rw [e]
  have hS2 := Turned.below hS t (Nat.le_refl _)
  exact bodyPost_ret (results_cell_row Try.results39 _ _ w.heap.size 37 _ (0, 0) _ rfl (b2.alloc _) Try.underlying37 rfl (by kernel_rfl)) rfl ⟨rfl, hS2.alloc hS2.size _⟩
theorem A3_congr {a b c a' b' c' : Int} (h0 : a = a') (h1 : b = b') (h2 : c = c') : Ending.returned (A3 a b c) = Ending.returned (A3 a' b' c') := by rw [h0, h1, h2]
theorem u_bd (n : Int) : (-1 ≤ u0 n ∧ u0 n ≤ 1) ∧ (-1 ≤ u1 n ∧ u1 n ≤ 1) ∧ (-1 ≤ u2 n ∧ u2 n ≤ 1) := by
  unfold u0 u1 u2
  refine ⟨?_, ?_, ?_⟩ <;> (repeat' split) <;> omega
theorem neg_u0 (n : Int) (h : 1 ≤ n) : wrap64 (-u0 n) = u0 (-n) := by
  rw [IntWalk.wrap64_in _ (by have := u_bd n; omega)]; unfold u0; repeat' split <;> omega
theorem neg_u1 (n : Int) (h : 1 ≤ n) : wrap64 (-u1 n) = u1 (-n) := by
  rw [IntWalk.wrap64_in _ (by have := u_bd n; omega)]; unfold u1; repeat' split <;> omega
theorem neg_u2 (n : Int) (h : 1 ≤ n) : wrap64 (-u2 n) = u2 (-n) := by
  rw [IntWalk.wrap64_in _ (by have := u_bd n; omega)]; unfold u2; repeat' split <;> omega
set_option maxHeartbeats 400000 in
theorem runit_any (n : Int) (w : World) (h : axB n = true) : Calls Try.prog 41 #[.int .i64 n] w fun e w' => e = .returned (A3 (u0 n) (u1 n) (u2 n)) ∧ Below w.heap.size w w' := by
  have pos : ∀ (n : Int) (w : World), (n = 1 ∨ n = 2 ∨ n = 3) → Calls Try.prog 41 #[.int .i64 n] w fun e w' => e = .returned (A3 (u0 n) (u1 n) (u2 n)) ∧ Below w.heap.size w w' := by
    intro n w h
    rcases h with rfl | rfl | rfl
    all_goals
      go_enter Try.func41, Try.ntmps41
      go_wp2_with fail
      go_returns
      exact ⟨rfl, by go_grown⟩
  rcases (axB_iff n).1 h with rfl | rfl | rfl | rfl | rfl | rfl
  · exact pos _ _ (by omega)
  · exact pos _ _ (by omega)
  · exact pos _ _ (by omega)
  all_goals
    clear h
    have Hp := Lib.hid pos; clear pos
    go_enter Try.func41, Try.ntmps41
    go_wp2_with fail
    refine (Hp.out _ _ (by omega)).mono ?_
    rintro e w1 ⟨rfl, hb⟩
    have b0 := (Blk.new w 37 (R3 0 0 0)).ext hb
    have hS : Below w.heap.size w w1 := ((Below.refl _ w).alloc (Nat.le_refl _) _).trans (hb.mono (by simp))
    have hlt : w.heap.size < w1.heap.size := by have := hb.size; simp at this; omega
    clear hb Hp
    obtain ⟨c0, f0⟩ := b0.cells
    go_wp2_with fail
    first
      | (obtain ⟨W2, e, b2, t⟩ := set_row3 b0 (.int .i64 (wrap64 (-u0 1))) (.int .i64 (wrap64 (-u1 1))) (.int .i64 (wrap64 (-u2 1))); rw [e])
      | (obtain ⟨W2, e, b2, t⟩ := set_row3 b0 (.int .i64 (wrap64 (-u0 2))) (.int .i64 (wrap64 (-u1 2))) (.int .i64 (wrap64 (-u2 2))); rw [e])
      | (obtain ⟨W2, e, b2, t⟩ := set_row3 b0 (.int .i64 (wrap64 (-u0 3))) (.int .i64 (wrap64 (-u1 3))) (.int .i64 (wrap64 (-u2 3))); rw [e])
    have hS2 := Turned.below hS t (Nat.le_refl _)
    exact bodyPost_ret (results_cell_row Try.results41 _ _ w.heap.size 37 _ (0, 0) _ rfl (b2.alloc _) Try.underlying37 rfl (by kernel_rfl)) rfl ⟨A3_congr (neg_u0 _ (by decide)) (neg_u1 _ (by decide)) (neg_u2 _ (by decide)), hS2.alloc hS2.size _⟩
set_option maxHeartbeats 400000 in
theorem rcross_any (a0 a1 a2 b0 b1 b2 : Int) (w : World) :
    Calls Try.prog 50 #[A3 a0 a1 a2, A3 b0 b1 b2] w fun e w' => e = .returned (A3 (wrap64 (wrap64 (a1*b2) - wrap64 (a2*b1))) (wrap64 (wrap64 (a2*b0) - wrap64 (a0*b2))) (wrap64 (wrap64 (a0*b1) - wrap64 (a1*b0)))) ∧ Below w.heap.size w w' := by
  go_enter Try.func50, Try.ntmps50
  go_wp2
  go_returns
  exact ⟨rfl, by go_grown⟩
set_option maxHeartbeats 400000 in
theorem plus_any (a0 a1 a2 b0 b1 b2 : Int) (w : World) :
    Calls Try.prog 48 #[A3 a0 a1 a2, A3 b0 b1 b2] w fun e w' => e = .returned (A3 (wrap64 (a0 + b0)) (wrap64 (a1 + b1)) (wrap64 (a2 + b2))) ∧ Below w.heap.size w w' := by
  go_enter Try.func48, Try.ntmps48
  go_wp2
  go_returns
  exact ⟨rfl, by go_grown⟩
set_option maxHeartbeats 400000 in
theorem times_any (n a0 a1 a2 : Int) (w : World) :
    Calls Try.prog 49 #[.int .i64 n, A3 a0 a1 a2] w fun e w' => e = .returned (A3 (wrap64 (n * a0)) (wrap64 (n * a1)) (wrap64 (n * a2))) ∧ Below w.heap.size w w' := by
  go_enter Try.func49, Try.ntmps49
  go_wp2
  go_returns
  exact ⟨rfl, by go_grown⟩
def wiB (n : Int) : Bool := decide (-1048576 ≤ n ∧ n ≤ 1048576)
set_option maxHeartbeats 400000 in
theorem within_any (n : Int) (w : World) :
    Calls Try.prog 45 #[.int .i64 n] w fun e w' => e = .returned (.bool (wiB n)) ∧ w = w' := by
  go_enter Try.func45, Try.ntmps45
  go_wp2
  all_goals (go_ret; exact ⟨ret_bool (by unfold wiB; rw [Bool.eq_iff_iff]; simp; omega), rfl⟩)
def neB (a b c : Int) : Bool := wiB a && (wiB b && wiB c)
set_option maxHeartbeats 400000 in
theorem rnear_any (a b c : Int) (w : World) :
    Calls Try.prog 22 #[A3 a b c] w fun e w' => e = .returned (.bool (neB a b c)) ∧ Below w.heap.size w w' := by
  go_enter Try.func22, Try.ntmps22
  go_wp2_with (go_at_call 45; refine (within_any _ _).mono ?_; rintro e w' ⟨rfl, rfl⟩)
  all_goals (go_ret; refine ⟨ret_bool ?_, by go_grown⟩)
  all_goals (unfold neB; simp [*])
end Go.Proofs.Ytjpnijnbfjgnfaa
