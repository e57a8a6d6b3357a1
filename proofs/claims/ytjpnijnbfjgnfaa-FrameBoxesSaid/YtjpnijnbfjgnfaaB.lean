/- Contracts of the package frame: what each call returns, and that it leaves what was there as it was: columns. -/
import Derived.Test.YtjpnijnbfjgnfaaA
import Derived.Test.YtjpnijnbfjgnfaaLoose
import Derived.Deep.DeepCutAuto
import Derived.Deep.RegionWith
import Derived.BigRegion
namespace Go.Proofs.Ytjpnijnbfjgnfaa
open Go.RowKit BigFrame
theorem bcell {W w1 : World} (hb : Below W.heap.size W w1) : (∀ b o, b < W.heap.size → w1.cell? ⟨b, o, none⟩ = W.cell? ⟨b, o, none⟩) ∧ (∀ b o, b < W.heap.size → w1.frozen? ⟨b, o, none⟩ = W.frozen? ⟨b, o, none⟩) :=
  ⟨fun b o h => hb.cell (p := ⟨b, o, none⟩) h, fun b o h => hb.frozen (p := ⟨b, o, none⟩) h⟩
abbrev A9 (a b c d e f g h i : Int) : Value := .agg #[.int .i64 a, .int .i64 b, .int .i64 c, .int .i64 d, .int .i64 e, .int .i64 f, .int .i64 g, .int .i64 h, .int .i64 i]
def k0 (x y : Int) : Int := wrap64 (wrap64 (u1 x * u2 y) - wrap64 (u2 x * u1 y))
def k1 (x y : Int) : Int := wrap64 (wrap64 (u2 x * u0 y) - wrap64 (u0 x * u2 y))
def k2 (x y : Int) : Int := wrap64 (wrap64 (u0 x * u1 y) - wrap64 (u1 x * u0 y))
set_option maxHeartbeats 1000000 in
theorem columns_any (x y : Int) (w : World) (hx : axB x = true) (hy : axB y = true) :
    Calls Try.prog 53 #[.agg #[.int .i64 x, .int .i64 y]] w fun e w' => e = .returned (A9 (u0 x) (u1 x) (u2 x) (u0 y) (u1 y) (u2 y) (k0 x y) (k1 x y) (k2 x y)) ∧ Below w.heap.size w w' := by
  have Hx := Lib.hid hx; clear hx
  have Hy := Lib.hid hy; clear hy
  go_enter Try.func53, Try.ntmps53
  go_wp2_with fail
  obtain ⟨W, e, B0, B1, hS, hlt⟩ := two_new w 23 81 #[.int .i64 x, .int .i64 y] #[.int .i64 0, .int .i64 0, .int .i64 0, .int .i64 0, .int .i64 0, .int .i64 0, .int .i64 0, .int .i64 0, .int .i64 0]
  rw [e]; clear e
  have d0 := B0.cellsP
  refine wp_region_loose_tail 8 (by kernel_rfl) (by kernel_rfl) (by kernel_rfl) ?_
  simp only [List.take_succ_cons, List.take_zero, List.drop_succ_cons, List.drop_zero]
  repeat (refine loose_quiet rfl rfl rfl ?_; intro K hK; go_big_quiet_op; go_big_quiet_on)
  (refine loose_call 54 #[.int .i64 x] (A3 (u0 x) (u1 x) (u2 x)) rfl rfl (fun w => by kernel_rfl) (fun w' _ => unit_any x w' Hx.out) ?_; simp only [Act.put, List.setIfInBounds_toArray, List.set_cons_zero, List.set_cons_succ])
  repeat (refine loose_quiet rfl rfl rfl ?_; intro K hK; go_big_quiet_op; go_big_quiet_on)
  (refine loose_call 54 #[.int .i64 y] (A3 (u0 y) (u1 y) (u2 y)) rfl rfl (fun w => by kernel_rfl) (fun w' _ => unit_any y w' Hy.out) ?_; simp only [Act.put, List.setIfInBounds_toArray, List.set_cons_zero, List.set_cons_succ])
  refine loose_new 80 #[.int .i64 0, .int .i64 0, .int .i64 0] (fun g => .pointer (some ⟨g, 0, none⟩)) (fun _ => rfl) rfl rfl (fun w => by kernel_rfl) ?_
  refine loose_new 80 #[.int .i64 0, .int .i64 0, .int .i64 0] (fun g => .pointer (some ⟨g, 0, none⟩)) (fun _ => rfl) rfl rfl (fun w => by kernel_rfl) ?_
  refine loose_nil ?_
  intro vals xx hk hap
  obtain ⟨h, e4, hh1, hh2, hh3⟩ := hk _ (.head _)
  obtain ⟨g, e3, hg1, hg2, hg3⟩ := hk _ (.tail _ (.head _))
  have hne := hap _ (.head _) _ (.tail _ (.head _)) rfl rfl (fun e => nomatch e)
  simp only at e3 e4 hne
  simp only [putK, List.foldr_cons, List.foldr_nil, e3, e4, Act.put, List.setIfInBounds_toArray, List.set_cons_zero, List.set_cons_succ]
  rw [e3, e4] at hne
  have hgh : h ≠ g := fun e => hne (by rw [e])
  clear hne hk hap e3 e4 d0
  have C1 := B1.plus xx
  have hS1 := hS.trans ((below_plus (w := W) (xx := xx)).mono hS.size)
  clear B0 B1 hS
  generalize pls W xx = W1 at *
  obtain ⟨g0, g1⟩ := Blk.cells (blk_new hg3)
  obtain ⟨h0, h1⟩ := Blk.cells (blk_new hh3)
  go_wp2_with fail
  clear g0 g1 h0 h1
  obtain ⟨W2, e, hg3, t2⟩ := set_row3 (blk_new hg3) (.int .i64 (u0 x)) (.int .i64 (u1 x)) (.int .i64 (u2 x))
  rw [e]; clear e
  obtain ⟨W3, e, hh3, t3⟩ := set_row3 (Blk.turned (blk_new hh3) t2 hgh) (.int .i64 (u0 y)) (.int .i64 (u1 y)) (.int .i64 (u2 y))
  rw [e]; clear e
  have hg3 := hg3.turned t3 (Ne.symm hgh)
  have C1 := (C1.turned t2 (by omega)).turned t3 (by omega)
  have hS1 := Turned.below (Turned.below hS1 t2 (by omega)) t3 (by omega)
  clear t2 t3 hg2 hh2
  have g0 := hg3.cellsP
  have h0 := hh3.cellsP
  refine wp_region_loose_tail 6 (by kernel_rfl) (by kernel_rfl) (by kernel_rfl) ?_
  simp only [List.take_succ_cons, List.take_zero, List.drop_succ_cons, List.drop_zero]
  repeat (refine loose_quiet rfl rfl rfl ?_; intro K hK; go_big_quiet_op; go_big_quiet_on)
  (refine loose_call 67 #[A3 (u0 x) (u1 x) (u2 x), A3 (u0 y) (u1 y) (u2 y)] (A3 (k0 x y) (k1 x y) (k2 x y)) rfl rfl (fun w => by kernel_rfl) (fun w' _ => cross_any _ _ _ _ _ _ w') ?_; simp only [Act.put, List.setIfInBounds_toArray, List.set_cons_zero, List.set_cons_succ])
  repeat (refine loose_quiet rfl rfl rfl ?_; intro K hK; go_big_quiet_op; go_big_quiet_on)
  refine loose_nil' ?_
  intro W4 hb
  have hS4 := hS1.trans (hb.mono hS1.size)
  have C4 := C1.ext hb
  clear hb C1 hS1 g0 h0 hg3 hh3 hh1 hg1 hgh
  obtain ⟨c4, f4⟩ := C4.cells
  go_wp2_with fail
  obtain ⟨W5, e, C5, t5⟩ := set_row9 C4 (.int .i64 (u0 x)) (.int .i64 (u1 x)) (.int .i64 (u2 x)) (.int .i64 (u0 y)) (.int .i64 (u1 y)) (.int .i64 (u2 y)) (.int .i64 (k0 x y)) (.int .i64 (k1 x y)) (.int .i64 (k2 x y))
  rw [e]; clear e
  have c5 := C5.cell
  exact bodyPost_ret (results_cell_row Try.results53 _ _ (w.heap.size + 1) 81 _ (0, 0) _ rfl C5 Try.underlying81 rfl (by kernel_rfl)) rfl ⟨rfl, Turned.below hS4 t5 (by omega)⟩
end Go.Proofs.Ytjpnijnbfjgnfaa
