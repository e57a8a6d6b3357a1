/- Contracts of the package frame: what each call returns, and that it leaves what was there as it was: the reference s Image and Then, and Then. -/
import Derived.Test.YtjpnijnbfjgnfaaD
namespace Go.Proofs.Ytjpnijnbfjgnfaa
open Go.RowKit BigFrame
def rm (a b c p q r : Int) : Int := wrap64 (wrap64 (p * a) + wrap64 (wrap64 (q * b) + wrap64 (r * c)))
def Rx0 (x y p q r : Int) : Int := rm (u0 x) (u0 y) (k0 x y) p q r
def Rx1 (x y p q r : Int) : Int := rm (u1 x) (u1 y) (k1 x y) p q r
def Rx2 (x y p q r : Int) : Int := rm (u2 x) (u2 y) (k2 x y) p q r
set_option maxHeartbeats 1000000 in
theorem rimage_any (x y p q r : Int) (w : World) (hx : axB x = true) (hy : axB y = true) :
    Calls Try.prog 28 #[.agg #[.int .i64 x, .int .i64 y], A3 p q r] w fun e w' => e = .returned (A3 (Rx0 x y p q r) (Rx1 x y p q r) (Rx2 x y p q r)) ∧ Below w.heap.size w w' := by
  have Hx := Lib.hid hx; clear hx
  have Hy := Lib.hid hy; clear hy
  go_enter Try.func28, Try.ntmps28
  go_wp2_with fail
  obtain ⟨W, e, b0, b1, b2, hS, hlt⟩ := three_new w 23 37 37 #[.int .i64 x, .int .i64 y] (R3 p q r) (R3 0 0 0)
  rw [e]; clear e
  refine (runit_any x _ Hx.out).mono ?_
  rintro e w1 ⟨rfl, hb⟩
  replace b0 := b0.ext hb
  replace b1 := b1.ext hb
  replace b2 := b2.ext hb
  replace hS := hS.trans (hb.mono hS.size)
  replace hlt := Nat.lt_of_lt_of_le hlt hb.size
  clear hb W
  have c0 := b0.cell
  have l0 := b0.lt
  go_wp2_with fail
  clear c0 l0
  obtain ⟨W, e, b3, hb, hlt3⟩ := one_new w1 37 (R3 (u0 x) (u1 x) (u2 x))
  rw [e]; clear e
  replace b0 := b0.ext hb
  replace b1 := b1.ext hb
  replace b2 := b2.ext hb
  replace hS := hS.trans (hb.mono hS.size)
  clear hb
  refine (runit_any y _ Hy.out).mono ?_
  rintro e w2 ⟨rfl, hb⟩
  replace b0 := b0.ext hb
  replace b1 := b1.ext hb
  replace b2 := b2.ext hb
  replace b3 := b3.ext hb
  replace hS := hS.trans (hb.mono hS.size)
  replace hlt3 := Nat.lt_of_lt_of_le hlt3 hb.size
  clear hb W
  go_wp2_with fail
  obtain ⟨W, e, b4, hb, hlt5⟩ := one_new w2 37 (R3 (u0 y) (u1 y) (u2 y))
  rw [e]; clear e
  replace b1 := b1.ext hb
  replace b2 := b2.ext hb
  replace b3 := b3.ext hb
  replace hS := hS.trans (hb.mono hS.size)
  clear hb
  have d1 := b1.cellsP
  have d3 := b3.cellsP
  have d4 := b4.cellsP
  refine wp_region_loose_tail 16 (by kernel_rfl) (by kernel_rfl) (by kernel_rfl) ?_
  simp only [List.take_succ_cons, List.take_zero, List.drop_succ_cons, List.drop_zero]
  repeat (refine loose_quiet rfl rfl rfl ?_; intro K hK; go_big_quiet_op; go_big_quiet_on)
  (refine loose_call _ _ _ rfl rfl (fun w => by kernel_rfl) (fun w' _ => times_any p (u0 x) (u1 x) (u2 x) w') ?_; simp only [Act.put, List.setIfInBounds_toArray, List.set_cons_zero, List.set_cons_succ])
  repeat (refine loose_quiet rfl rfl rfl ?_; intro K hK; go_big_quiet_op; go_big_quiet_on)
  (refine loose_call _ _ _ rfl rfl (fun w => by kernel_rfl) (fun w' _ => times_any q (u0 y) (u1 y) (u2 y) w') ?_; simp only [Act.put, List.setIfInBounds_toArray, List.set_cons_zero, List.set_cons_succ])
  repeat (refine loose_quiet rfl rfl rfl ?_; intro K hK; go_big_quiet_op; go_big_quiet_on)
  (refine loose_call _ _ _ rfl rfl (fun w => by kernel_rfl) (fun w' _ => rcross_any (u0 x) (u1 x) (u2 x) (u0 y) (u1 y) (u2 y) w') ?_; simp only [Act.put, List.setIfInBounds_toArray, List.set_cons_zero, List.set_cons_succ])
  repeat (refine loose_quiet rfl rfl rfl ?_; intro K hK; go_big_quiet_op; go_big_quiet_on)
  (refine loose_call _ _ _ rfl rfl (fun w => by kernel_rfl) (fun w' _ => times_any r (k0 x y) (k1 x y) (k2 x y) w') ?_; simp only [Act.put, List.setIfInBounds_toArray, List.set_cons_zero, List.set_cons_succ])
  repeat (refine loose_quiet rfl rfl rfl ?_; intro K hK; go_big_quiet_op; go_big_quiet_on)
  (refine loose_call _ _ _ rfl rfl (fun w => by kernel_rfl) (fun w' _ => plus_any (wrap64 (q * u0 y)) (wrap64 (q * u1 y)) (wrap64 (q * u2 y)) (wrap64 (r * k0 x y)) (wrap64 (r * k1 x y)) (wrap64 (r * k2 x y)) w') ?_; simp only [Act.put, List.setIfInBounds_toArray, List.set_cons_zero, List.set_cons_succ])
  (refine loose_call _ _ _ rfl rfl (fun w => by kernel_rfl) (fun w' _ => plus_any (wrap64 (p * u0 x)) (wrap64 (p * u1 x)) (wrap64 (p * u2 x)) (wrap64 (wrap64 (q * u0 y) + wrap64 (r * k0 x y))) (wrap64 (wrap64 (q * u1 y) + wrap64 (r * k1 x y))) (wrap64 (wrap64 (q * u2 y) + wrap64 (r * k2 x y))) w') ?_; simp only [Act.put, List.setIfInBounds_toArray, List.set_cons_zero, List.set_cons_succ])
  refine loose_nil' ?_
  intro W1 hb
  replace b2 := b2.ext hb
  replace hS := hS.trans (hb.mono hS.size)
  clear hb d1 d3 d4
  obtain ⟨c2, f2⟩ := b2.cells
  go_wp2_with fail
  obtain ⟨W2, e, b2, t⟩ := set_row3 b2 (.int .i64 (Rx0 x y p q r)) (.int .i64 (Rx1 x y p q r)) (.int .i64 (Rx2 x y p q r))
  have hS2 := Turned.below hS t (by omega)
  show bodyPost _ _ _ _ _ (((W1.setCell _ (.int .i64 (Rx0 x y p q r))).setCell _ (.int .i64 (Rx1 x y p q r))).setCell _ (.int .i64 (Rx2 x y p q r)))
  rw [e]
  exact bodyPost_ret (results_cell_row Try.results28 _ _ (w.heap.size + 1 + 1) 37 _ (0, 0) _ rfl b2 Try.underlying37 rfl (by kernel_rfl)) rfl ⟨rfl, hS2⟩

def rthX (x y n : Int) : Int := nm (Rx0 x y (u0 n) (u1 n) (u2 n)) (Rx1 x y (u0 n) (u1 n) (u2 n)) (Rx2 x y (u0 n) (u1 n) (u2 n))
def thX (x y n : Int) : Int := nm (Cx0 x y (u0 n) (u1 n) (u2 n)) (Cx1 x y (u0 n) (u1 n) (u2 n)) (Cx2 x y (u0 n) (u1 n) (u2 n))
set_option maxHeartbeats 1000000 in
theorem rthen_any (a b x y : Int) (w : World) (ha : axB a = true) (hb : axB b = true) (hx : axB x = true) (hy : axB y = true) :
    Calls Try.prog 19 #[.agg #[.int .i64 a, .int .i64 b], .agg #[.int .i64 x, .int .i64 y]] w fun e w' => e = .returned (.agg #[.int .i64 (rthX x y a), .int .i64 (rthX x y b)]) ∧ Below w.heap.size w w' := by
  have Hx := Lib.hid hx; clear hx
  have Hy := Lib.hid hy; clear hy
  have Ha := Lib.hid ha; clear ha
  have Hb := Lib.hid hb; clear hb
  go_enter Try.func19, Try.ntmps19
  go_wp2_with fail
  obtain ⟨W, e, b0, b1, b2, hS, hlt⟩ := three_new w 23 23 23 #[.int .i64 a, .int .i64 b] #[.int .i64 x, .int .i64 y] #[.int .i64 0, .int .i64 0]
  rw [e]; clear e
  have d0 := b0.cellsP
  have d1 := b1.cellsP
  refine wp_region_loose_tail 13 (by kernel_rfl) (by kernel_rfl) (by kernel_rfl) ?_
  simp only [List.take_succ_cons, List.take_zero, List.drop_succ_cons, List.drop_zero]
  repeat (refine loose_quiet rfl rfl rfl ?_; intro K hK; go_big_quiet_op; go_big_quiet_on)
  (refine loose_call _ _ _ rfl rfl (fun w => by kernel_rfl) (fun w' _ => runit_any a w' Ha.out) ?_; simp only [Act.put, List.setIfInBounds_toArray, List.set_cons_zero, List.set_cons_succ])
  (refine loose_call _ _ _ rfl rfl (fun w => by kernel_rfl) (fun w' _ => rimage_any x y (u0 a) (u1 a) (u2 a) w' Hx.out Hy.out) ?_; simp only [Act.put, List.setIfInBounds_toArray, List.set_cons_zero, List.set_cons_succ])
  (refine loose_call _ _ _ rfl rfl (fun w => by kernel_rfl) (fun w' _ => number_any (Rx0 x y (u0 a) (u1 a) (u2 a)) (Rx1 x y (u0 a) (u1 a) (u2 a)) (Rx2 x y (u0 a) (u1 a) (u2 a)) w') ?_; simp only [Act.put, List.setIfInBounds_toArray, List.set_cons_zero, List.set_cons_succ])
  repeat (refine loose_quiet rfl rfl rfl ?_; intro K hK; go_big_quiet_op; go_big_quiet_on)
  (refine loose_call _ _ _ rfl rfl (fun w => by kernel_rfl) (fun w' _ => runit_any b w' Hb.out) ?_; simp only [Act.put, List.setIfInBounds_toArray, List.set_cons_zero, List.set_cons_succ])
  (refine loose_call _ _ _ rfl rfl (fun w => by kernel_rfl) (fun w' _ => rimage_any x y (u0 b) (u1 b) (u2 b) w' Hx.out Hy.out) ?_; simp only [Act.put, List.setIfInBounds_toArray, List.set_cons_zero, List.set_cons_succ])
  (refine loose_call _ _ _ rfl rfl (fun w => by kernel_rfl) (fun w' _ => number_any (Rx0 x y (u0 b) (u1 b) (u2 b)) (Rx1 x y (u0 b) (u1 b) (u2 b)) (Rx2 x y (u0 b) (u1 b) (u2 b)) w') ?_; simp only [Act.put, List.setIfInBounds_toArray, List.set_cons_zero, List.set_cons_succ])
  repeat (refine loose_quiet rfl rfl rfl ?_; intro K hK; go_big_quiet_op; go_big_quiet_on)
  refine loose_nil' ?_
  intro W1 hb
  replace b2 := b2.ext hb
  replace hS := hS.trans (hb.mono hS.size)
  clear hb d0 d1
  obtain ⟨c2, f2⟩ := b2.cells
  go_wp2_with fail
  obtain ⟨W2, e, b2, t⟩ := set_row2 b2 (.int .i64 (rthX x y a)) (.int .i64 (rthX x y b))
  have hS2 := Turned.below hS t (by omega)
  show bodyPost _ _ _ _ _ ((W1.setCell _ (.int .i64 (rthX x y a))).setCell _ (.int .i64 (rthX x y b)))
  rw [e]
  exact bodyPost_ret (results_cell_row Try.results19 _ _ (w.heap.size + 1 + 1) 23 _ (0, 0) _ rfl b2 Try.underlying23 rfl (by kernel_rfl)) rfl ⟨rfl, hS2⟩

abbrev T2 (a b : Int) : Value := .agg #[.int .i64 a, .int .i64 b]
theorem vldB_ax {x y : Int} (h : vldB x y = true) : axB x = true ∧ axB y = true := by
  unfold vldB at h; simp only [Bool.and_eq_true] at h; exact ⟨h.1, h.2.1⟩
set_option maxHeartbeats 1000000 in
theorem then_ok (a b x y : Int) (w : World) (hv : vldB a b = true) (hu : vldB x y = true) :
    Calls Try.prog 16 #[T2 a b, T2 x y] w fun e w' => e = .returned (.tuple #[T2 (thX x y a) (thX x y b), .int .i64 0]) ∧ Below w.heap.size w w' := by
  have Ha := Lib.hid (vldB_ax hv).1
  have Hb := Lib.hid (vldB_ax hv).2
  have Hx := Lib.hid (vldB_ax hu).1
  have Hy := Lib.hid (vldB_ax hu).2
  have Hv := Lib.hid hv; clear hv
  have Hu := Lib.hid hu; clear hu
  go_enter Try.func16, Try.ntmps16
  go_wp2_with fail
  obtain ⟨W, e, b0, b1, b2, hS, hlt⟩ := three_new w 23 23 23 #[.int .i64 a, .int .i64 b] #[.int .i64 x, .int .i64 y] #[.int .i64 0, .int .i64 0]
  rw [e]; clear e
  refine (valid_any a b _).mono ?_
  rw [Hv.out]
  rintro e w1 ⟨rfl, hb⟩
  replace b0 := b0.ext hb
  replace b1 := b1.ext hb
  replace b2 := b2.ext hb
  replace hS := hS.trans (hb.mono hS.size)
  clear hb
  have c1 := b1.cell
  go_wp2_with fail
  refine (valid_any x y _).mono ?_
  rw [Hu.out]
  rintro e w2 ⟨rfl, hb⟩
  clear c1
  replace b0 := b0.ext hb
  replace b1 := b1.ext hb
  replace b2 := b2.ext hb
  replace hS := hS.trans (hb.mono hS.size)
  clear hb
  go_wp2_with fail
  have d0 := b0.cellsP
  have d1 := b1.cellsP
  refine wp_region_loose_tail 13 (by kernel_rfl) (by kernel_rfl) (by kernel_rfl) ?_
  simp only [List.take_succ_cons, List.take_zero, List.drop_succ_cons, List.drop_zero]
  repeat (refine loose_quiet rfl rfl rfl ?_; intro K hK; go_big_quiet_op; go_big_quiet_on)
  (refine loose_call _ _ _ rfl rfl (fun w => by kernel_rfl) (fun w' _ => direction_any a w' Ha.out) ?_; simp only [Act.put, List.setIfInBounds_toArray, List.set_cons_zero, List.set_cons_succ])
  (refine loose_call _ _ _ rfl rfl (fun w => by kernel_rfl) (fun w' _ => image_any x y (u0 a) (u1 a) (u2 a) w' Hx.out Hy.out) ?_; simp only [Act.put, List.setIfInBounds_toArray, List.set_cons_zero, List.set_cons_succ])
  (refine loose_call _ _ _ rfl rfl (fun w => by kernel_rfl) (fun w' _ => name_any (Cx0 x y (u0 a) (u1 a) (u2 a)) (Cx1 x y (u0 a) (u1 a) (u2 a)) (Cx2 x y (u0 a) (u1 a) (u2 a)) w') ?_; simp only [Act.put, List.setIfInBounds_toArray, List.set_cons_zero, List.set_cons_succ])
  repeat (refine loose_quiet rfl rfl rfl ?_; intro K hK; go_big_quiet_op; go_big_quiet_on)
  (refine loose_call _ _ _ rfl rfl (fun w => by kernel_rfl) (fun w' _ => direction_any b w' Hb.out) ?_; simp only [Act.put, List.setIfInBounds_toArray, List.set_cons_zero, List.set_cons_succ])
  (refine loose_call _ _ _ rfl rfl (fun w => by kernel_rfl) (fun w' _ => image_any x y (u0 b) (u1 b) (u2 b) w' Hx.out Hy.out) ?_; simp only [Act.put, List.setIfInBounds_toArray, List.set_cons_zero, List.set_cons_succ])
  (refine loose_call _ _ _ rfl rfl (fun w => by kernel_rfl) (fun w' _ => name_any (Cx0 x y (u0 b) (u1 b) (u2 b)) (Cx1 x y (u0 b) (u1 b) (u2 b)) (Cx2 x y (u0 b) (u1 b) (u2 b)) w') ?_; simp only [Act.put, List.setIfInBounds_toArray, List.set_cons_zero, List.set_cons_succ])
  repeat (refine loose_quiet rfl rfl rfl ?_; intro K hK; go_big_quiet_op; go_big_quiet_on)
  refine loose_nil' ?_
  intro W1 hb
  replace b2 := b2.ext hb
  replace hS := hS.trans (hb.mono hS.size)
  clear hb d0 d1
  obtain ⟨c2, f2⟩ := b2.cells
  go_wp2_with fail
  obtain ⟨W2, e, b2, t⟩ := set_row2 b2 (.int .i64 (thX x y a)) (.int .i64 (thX x y b))
  have hS2 := Turned.below hS t (by omega)
  show bodyPost _ _ _ _ _ ((W1.setCell _ (.int .i64 (thX x y a))).setCell _ (.int .i64 (thX x y b)))
  rw [e]
  exact bodyPost_ret (results_cell_row_tmp Try.results16 _ _ (w.heap.size + 1 + 1) 23 _ (0, 0) _ rfl b2 Try.underlying23 rfl (by kernel_rfl)) rfl ⟨rfl, hS2⟩
end Go.Proofs.Ytjpnijnbfjgnfaa
