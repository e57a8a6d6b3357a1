/- Contracts of the package frame: what each call returns, and that it leaves what was there as it was: the example of the chapter (awake), and closed facts. -/
import Derived.Test.YtjpnijnbfjgnfaaK
namespace Go.Proofs.Ytjpnijnbfjgnfaa
open Go.RowKit BigFrame
theorem vldB_mem {x y : Int} (h : vldB x y = true) : (x, y) ∈ allL := by
  obtain ⟨hx, hy⟩ := vldB_ax h
  have key : ∀ a ∈ [(-3 : Int), -2, -1, 1, 2, 3], ∀ b ∈ [(-3 : Int), -2, -1, 1, 2, 3], vldB a b = true → (a, b) ∈ allL := by decide
  have mem : ∀ n : Int, axB n = true → n ∈ [(-3 : Int), -2, -1, 1, 2, 3] := fun n hn => by
    rcases (axB_iff n).1 hn with rfl | rfl | rfl | rfl | rfl | rfl <;> decide
  exact key x (mem x hx) y (mem y hy) h
theorem allL_vld : ∀ p ∈ allL, vldB p.1 p.2 = true := by decide
theorem back_facts : ∀ p ∈ allL, allL.find? (bk p.1 p.2) = allL.find? (rbk p.1 p.2) ∧ (allL.find? (bk p.1 p.2)).isSome = true := by decide +kernel
theorem then_facts : ∀ p ∈ allL, ∀ n ∈ [(-3 : Int), -2, -1, 1, 2, 3], thX p.1 p.2 n = rthX p.1 p.2 n := by decide +kernel
theorem ax_mem {n : Int} (hn : axB n = true) : n ∈ [(-3 : Int), -2, -1, 1, 2, 3] := by
  rcases (axB_iff n).1 hn with rfl | rfl | rfl | rfl | rfl | rfl <;> decide
theorem ap_ex (w : World) : Calls Try.prog 21 #[T2 2 (-1), A3 1 2 3] w fun e w' => e = .returned (.tuple #[A3 (-2) 1 3, .int .i64 0]) ∧ Below w.heap.size w w' := by
  have := apply_ok 2 (-1) 1 2 3 w (by decide) (by decide)
  rwa [show Cx0 2 (-1) 1 2 3 = -2 by decide +kernel, show Cx1 2 (-1) 1 2 3 = 1 by decide +kernel, show Cx2 2 (-1) 1 2 3 = 3 by decide +kernel] at this
theorem bk_ex (w : World) : Calls Try.prog 17 #[T2 2 (-1)] w fun e w' => e = .returned (.tuple #[T2 (-2) 1, .int .i64 0]) ∧ Below w.heap.size w w' := by
  have := back_ok 2 (-1) w (by decide)
  rwa [show allL.find? (bk 2 (-1)) = some (-2, 1) by decide +kernel] at this
theorem th_ex (w : World) : Calls Try.prog 16 #[T2 2 (-1), T2 2 (-1)] w fun e w' => e = .returned (.tuple #[T2 (-1) (-2), .int .i64 0]) ∧ Below w.heap.size w w' := by
  have := then_ok 2 (-1) 2 (-1) w (by decide) (by decide)
  rwa [show thX 2 (-1) 2 = -1 by decide +kernel, show thX 2 (-1) (-1) = -2 by decide +kernel] at this
theorem vd_ex (w : World) : Calls Try.prog 11 #[T2 2 (-1)] w fun e w' => e = .returned (.bool true) ∧ Below w.heap.size w w' := valid_any 2 (-1) w
set_option maxHeartbeats 2000000 in
theorem awake_any (w : World) : Calls Try.prog 10 #[] w fun e w' => e = .returned (.bool true) ∧ Below w.heap.size w w' := by
  have e23 := eql23
  have g23 := eqg23
  have e37 := eql37
  have g37 := eqg37
  go_enter Try.func10, Try.ntmps10
  go_wp2_with fail
  obtain ⟨W1, e, b1, hS, hlt⟩ := one_new w 23 #[.int .i64 2, .int .i64 (-1)]
  rw [e]; clear e hlt
  refine (ap_ex _).mono ?_
  rintro e v2 ⟨rfl, hb⟩
  replace b1 := b1.ext hb
  replace hS := hS.trans (hb.mono hS.size)
  clear hb
  have c_b1 := b1.cell
  have l_b1 := b1.lt
  go_wp2_with fail
  clear c_b1 l_b1
  obtain ⟨W3, e, b2, hb, hlt⟩ := one_new v2 37 (R3 (-2) 1 3)
  rw [e]; clear e hlt
  replace b1 := b1.ext hb
  replace hS := hS.trans (hb.mono hS.size)
  clear hb
  refine (bk_ex _).mono ?_
  rintro e v4 ⟨rfl, hb⟩
  replace b1 := b1.ext hb
  replace b2 := b2.ext hb
  replace hS := hS.trans (hb.mono hS.size)
  clear hb
  have c_b1 := b1.cell
  have l_b1 := b1.lt
  go_wp2_with fail
  clear c_b1 l_b1
  obtain ⟨W5, e, b3, hb, hlt⟩ := one_new v4 23 #[.int .i64 (-2), .int .i64 1]
  rw [e]; clear e hlt
  replace b1 := b1.ext hb
  replace b2 := b2.ext hb
  replace hS := hS.trans (hb.mono hS.size)
  clear hb
  refine (th_ex _).mono ?_
  rintro e v6 ⟨rfl, hb⟩
  replace b1 := b1.ext hb
  replace b2 := b2.ext hb
  replace b3 := b3.ext hb
  replace hS := hS.trans (hb.mono hS.size)
  clear hb
  have c_b1 := b1.cell
  have l_b1 := b1.lt
  go_wp2_with fail
  clear c_b1 l_b1
  obtain ⟨W7, e, b4, hb, hlt⟩ := one_new v6 23 #[.int .i64 (-1), .int .i64 (-2)]
  rw [e]; clear e hlt
  replace b1 := b1.ext hb
  replace b2 := b2.ext hb
  replace b3 := b3.ext hb
  replace hS := hS.trans (hb.mono hS.size)
  clear hb
  refine (vd_ex _).mono ?_
  rintro e v8 ⟨rfl, hb⟩
  replace b1 := b1.ext hb
  replace b2 := b2.ext hb
  replace b3 := b3.ext hb
  replace b4 := b4.ext hb
  replace hS := hS.trans (hb.mono hS.size)
  clear hb
  have c_b2 := b2.cell
  have l_b2 := b2.lt
  have c_b3 := b3.cell
  have l_b3 := b3.lt
  have c_b4 := b4.cell
  have l_b4 := b4.lt
  go_wp2_with fail
  go_ret
  exact ⟨rfl, hS⟩
end Go.Proofs.Ytjpnijnbfjgnfaa
