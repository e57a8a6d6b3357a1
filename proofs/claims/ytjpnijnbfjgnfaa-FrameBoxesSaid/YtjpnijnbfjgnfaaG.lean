/- Contracts of the package frame: what each call returns, and that it leaves what was there as it was: Apply. -/
import Derived.Test.YtjpnijnbfjgnfaaF
namespace Go.Proofs.Ytjpnijnbfjgnfaa
open Go.RowKit BigFrame
theorem ptsAt1 (w : World) (p q r : Int) : PtsAt (w.alloc (.cells (R3 p q r) 37)) (some ⟨w.heap.size, 0, none⟩) [⟨p, q, r⟩] := by
  intro _
  refine ⟨_, _, rfl, by simp, fun i hi => ?_⟩
  have hb := Blk.new w 37 (R3 p q r)
  have : i = 0 := by simpa using hi
  subst this
  simp [hb.cell]
set_option maxHeartbeats 1000000 in
theorem apply_ok (a b p q r : Int) (w : World) (hv : vldB a b = true) (hn : neB p q r = true) :
    Calls Try.prog 21 #[T2 a b, A3 p q r] w fun e w' => e = .returned (.tuple #[A3 (Cx0 a b p q r) (Cx1 a b p q r) (Cx2 a b p q r), .int .i64 0]) ∧ Below w.heap.size w w' := by
  have Ha := Lib.hid (vldB_ax hv).1
  have Hb := Lib.hid (vldB_ax hv).2
  have Hv := Lib.hid hv; clear hv
  have Hn := Lib.hid hn; clear hn
  go_enter Try.func21, Try.ntmps21
  go_wp2_with fail
  obtain ⟨W, e, b0, b1, b2, hS, hlt⟩ := three_new w 23 37 37 #[.int .i64 a, .int .i64 b] (R3 p q r) (R3 0 0 0)
  rw [e]; clear e
  have d0 := b0.cellsP
  have d1 := b1.cellsP
  obtain ⟨d2, f2⟩ := b2.bothP
  refine (calm_of (Below.refl _ _) (valid_any a b _)).mono ?_
  rw [Hv.out]
  rintro e w1 ⟨rfl, x1, rfl⟩
  go_wp2_with fail
  refine (calm_of (W := W) (below_plus.alloc (by rw [size_plus]; omega) _) (near_any _ _ [⟨p, q, r⟩] _ (by simp) (ptsAt1 _ p q r))).mono ?_
  rw [show ([⟨p, q, r⟩] : List Pt).all neP = true by simp [neP, Hn.out]]
  rintro e w1 ⟨rfl, x2, rfl⟩
  go_wp2_with (go_at_call 38; refine (calm_of (W := W) below_plus (image_any a b p q r _ Ha.out Hb.out)).mono ?_; rintro e w1 ⟨rfl, x3, rfl⟩)
  replace b2 := b2.plus x3
  replace hS := hS.trans ((below_plus (w := W) (xx := x3)).mono hS.size)
  obtain ⟨W2, e, b2, t⟩ := set_row3 b2 (.int .i64 (Cx0 a b p q r)) (.int .i64 (Cx1 a b p q r)) (.int .i64 (Cx2 a b p q r))
  rw [e]
  exact bodyPost_ret (results_cell_row_tmp Try.results21 _ _ (w.heap.size + 1 + 1) 37 _ (0, 0) _ rfl b2 Try.underlying37 rfl (by kernel_rfl)) rfl ⟨rfl, Turned.below hS t (by omega)⟩
set_option maxHeartbeats 1000000 in
theorem apply_bad (a b p q r : Int) (w : World) (hv : vldB a b = false) :
    Calls Try.prog 21 #[T2 a b, A3 p q r] w fun e w' => e = .returned (.tuple #[A3 0 0 0, .int .i64 1]) ∧ Below w.heap.size w w' := by
  have Hv := Lib.hid hv; clear hv
  go_enter Try.func21, Try.ntmps21
  go_wp2_with fail
  obtain ⟨W, e, b0, b1, b2, hS, hlt⟩ := three_new w 23 37 37 #[.int .i64 a, .int .i64 b] (R3 p q r) (R3 0 0 0)
  rw [e]; clear e
  have d0 := b0.cellsP
  have d1 := b1.cellsP
  obtain ⟨d2, f2⟩ := b2.bothP
  refine (calm_of (Below.refl _ _) (valid_any a b _)).mono ?_
  rw [Hv.out]
  rintro e w1 ⟨rfl, x3, rfl⟩
  go_wp2_with fail
  replace b2 := b2.plus x3
  replace hS := hS.trans ((below_plus (w := W) (xx := x3)).mono hS.size)
  obtain ⟨W2, e, b2, t⟩ := set_row3 b2 (.int .i64 0) (.int .i64 0) (.int .i64 0)
  rw [e]
  exact bodyPost_ret (results_cell_row_tmp Try.results21 _ _ (w.heap.size + 1 + 1) 37 _ (0, 0) _ rfl b2 Try.underlying37 rfl (by kernel_rfl)) rfl ⟨rfl, Turned.below hS t (by omega)⟩
set_option maxHeartbeats 1000000 in
theorem apply_far (a b p q r : Int) (w : World) (hv : vldB a b = true) (hn : neB p q r = false) :
    Calls Try.prog 21 #[T2 a b, A3 p q r] w fun e w' => e = .returned (.tuple #[A3 0 0 0, .int .i64 2]) ∧ Below w.heap.size w w' := by
  have Hv := Lib.hid hv; clear hv
  have Hn := Lib.hid hn; clear hn
  go_enter Try.func21, Try.ntmps21
  go_wp2_with fail
  obtain ⟨W, e, b0, b1, b2, hS, hlt⟩ := three_new w 23 37 37 #[.int .i64 a, .int .i64 b] (R3 p q r) (R3 0 0 0)
  rw [e]; clear e
  have d0 := b0.cellsP
  have d1 := b1.cellsP
  obtain ⟨d2, f2⟩ := b2.bothP
  refine (calm_of (Below.refl _ _) (valid_any a b _)).mono ?_
  rw [Hv.out]
  rintro e w1 ⟨rfl, x1, rfl⟩
  go_wp2_with fail
  refine (calm_of (W := W) (below_plus.alloc (by rw [size_plus]; omega) _) (near_any _ _ [⟨p, q, r⟩] _ (by simp) (ptsAt1 _ p q r))).mono ?_
  rw [show ([⟨p, q, r⟩] : List Pt).all neP = false by simp [neP, Hn.out]]
  rintro e w1 ⟨rfl, x3, rfl⟩
  go_wp2_with fail
  replace b2 := b2.plus x3
  replace hS := hS.trans ((below_plus (w := W) (xx := x3)).mono hS.size)
  obtain ⟨W2, e, b2, t⟩ := set_row3 b2 (.int .i64 0) (.int .i64 0) (.int .i64 0)
  rw [e]
  exact bodyPost_ret (results_cell_row_tmp Try.results21 _ _ (w.heap.size + 1 + 1) 37 _ (0, 0) _ rfl b2 Try.underlying37 rfl (by kernel_rfl)) rfl ⟨rfl, Turned.below hS t (by omega)⟩
end Go.Proofs.Ytjpnijnbfjgnfaa
