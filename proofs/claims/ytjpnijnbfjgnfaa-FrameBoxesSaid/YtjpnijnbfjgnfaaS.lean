/- Contracts: Box and the reference's Box. -/
import Derived.Test.YtjpnijnbfjgnfaaR
import Derived.Deep.DeepCutAuto
namespace Go.Proofs.Ytjpnijnbfjgnfaa
open Go.RowKit BigFrame
def near3 (a b c l0 l1 l2 h0 h1 h2 : Int) : Bool := neB a b c && (neB l0 l1 l2 && neB h0 h1 h2)
set_option maxHeartbeats 1000000 in
theorem box_rng (x y a b c l0 l1 l2 h0 h1 h2 : Int) (w : World) (hv : vldB x y = true) (hb : boxOK l0 l1 l2 h0 h1 h2 = true) (hn : near3 a b c l0 l1 l2 h0 h1 h2 = false) :
    Calls Try.prog 26 #[T2 x y, A3 a b c, A6 l0 l1 l2 h0 h1 h2] w fun e w' => e = .returned (.tuple #[A6 0 0 0 0 0 0, .int .i64 2]) ∧ Below w.heap.size w w' := by
  obtain ⟨q1, q2, q3⟩ := of_decide_eq_true hb
  clear hb
  have hn' : ([⟨a, b, c⟩, ⟨l0, l1, l2⟩, ⟨h0, h1, h2⟩] : List Pt).all neP = false := by
    rw [← hn]
    unfold near3
    simp only [List.all_cons, List.all_nil, neP, Bool.and_true]
  have Hn := Lib.hid hn'; clear hn' hn
  have Hv := Lib.hid hv; clear hv
  go_enter Try.func26, Try.ntmps26
  go_wp2_with fail
  obtain ⟨W1, e, b1, b2, b3, b4, hS, hlt⟩ := four_new w 23 37 50 50 #[.int .i64 x, .int .i64 y] (R3 a b c) (R6 l0 l1 l2 h0 h1 h2) (R6 0 0 0 0 0 0)
  rw [e]; clear e hlt
  refine ((by have := valid_any x y W1; rwa [Hv.out] at this : Calls Try.prog 11 #[T2 x y] W1 fun e w' => e = .returned (.bool true) ∧ Below W1.heap.size W1 w')).mono ?_
  rintro e v2 ⟨rfl, hb⟩
  replace b1 := b1.ext hb
  replace b2 := b2.ext hb
  replace b3 := b3.ext hb
  replace b4 := b4.ext hb
  replace hS := hS.trans (hb.mono hS.size)
  clear hb
  have c_b2 := b2.cell
  have l_b2 := b2.lt
  have c_b3 := b3.cell
  have l_b3 := b3.lt
  go_wp2_with fail
  clear c_b2 l_b2 c_b3 l_b3
  obtain ⟨W3, e, b5, hb, hlt⟩ := one_new v2 37 #[.int .i64 a, .int .i64 b, .int .i64 c, .int .i64 l0, .int .i64 l1, .int .i64 l2, .int .i64 h0, .int .i64 h1, .int .i64 h2]
  rw [e]; clear e hlt
  replace b1 := b1.ext hb
  replace b2 := b2.ext hb
  replace b3 := b3.ext hb
  replace b4 := b4.ext hb
  replace hS := hS.trans (hb.mono hS.size)
  clear hb
  refine ((by have := near_any (some ⟨v2.heap.size, 0, none⟩) 3 [⟨a, b, c⟩, ⟨l0, l1, l2⟩, ⟨h0, h1, h2⟩] W3 (by simp) (ptsAt3_blk b5); rwa [Hn.out] at this : Calls Try.prog 44 #[.slice (some ⟨v2.heap.size, 0, none⟩) 3 3] W3 fun e w' => e = .returned (.bool false) ∧ Below W3.heap.size W3 w')).mono ?_
  rintro e v4 ⟨rfl, hb⟩
  replace b1 := b1.ext hb
  replace b2 := b2.ext hb
  replace b3 := b3.ext hb
  replace b4 := b4.ext hb
  replace b5 := b5.ext hb
  replace hS := hS.trans (hb.mono hS.size)
  clear hb
  obtain ⟨c_b4, f_b4⟩ := b4.cells
  have l_b4 := b4.lt
  go_wp2_with fail
  obtain ⟨W, e, b4, t⟩ := set_row6 b4 (.int .i64 0) (.int .i64 0) (.int .i64 0) (.int .i64 0) (.int .i64 0) (.int .i64 0)
  rw [e]
  exact bodyPost_ret (results_cell_row_tmp Try.results26 _ _ (w.heap.size + 1 + 1 + 1) 50 _ (0, 0) _ rfl b4 Try.underlying50 rfl (by kernel_rfl)) rfl ⟨rfl, Turned.below hS t (by omega)⟩
/-- The lesser, and the greater, of two numbers, closed to the walk. -/
def mn (a b : Int) : Int := if b < a then b else a
def mx (a b : Int) : Int := if a < b then b else a
theorem run_mn (P : Program) (w : World) (ts : Array TypeId) (t : TypeId) (x y : Int) : (Builtin.min_ ts t #[.int .i64 x, .int .i64 y]).run P w = .ok (.int .i64 (mn x y)) w := run_min_int2 w ts t .i64 .i64 x y
theorem run_mx (P : Program) (w : World) (ts : Array TypeId) (t : TypeId) (x y : Int) : (Builtin.max_ ts t #[.int .i64 x, .int .i64 y]).run P w = .ok (.int .i64 (mx x y)) w := run_max_int2 w ts t .i64 .i64 x y
attribute [local go_sem high] run_mn run_mx
def pl (x y a p q r : Int) (C : Int → Int → Int → Int → Int → Int) : Int := wrap64 (a + C x y p q r)
set_option maxHeartbeats 1000000 in
theorem box_ok (x y a b c l0 l1 l2 h0 h1 h2 : Int) (w : World) (hv : vldB x y = true) (hb : boxOK l0 l1 l2 h0 h1 h2 = true) (hn : near3 a b c l0 l1 l2 h0 h1 h2 = true) :
    Calls Try.prog 26 #[T2 x y, A3 a b c, A6 l0 l1 l2 h0 h1 h2] w fun e w' => e = .returned (.tuple #[A6 (mn (pl x y a l0 l1 l2 Cx0) (pl x y a h0 h1 h2 Cx0)) (mn (pl x y b l0 l1 l2 Cx1) (pl x y b h0 h1 h2 Cx1)) (mn (pl x y c l0 l1 l2 Cx2) (pl x y c h0 h1 h2 Cx2)) (mx (pl x y a l0 l1 l2 Cx0) (pl x y a h0 h1 h2 Cx0)) (mx (pl x y b l0 l1 l2 Cx1) (pl x y b h0 h1 h2 Cx1)) (mx (pl x y c l0 l1 l2 Cx2) (pl x y c h0 h1 h2 Cx2)), .int .i64 0]) ∧ Below w.heap.size w w' := by
  obtain ⟨q1, q2, q3⟩ := of_decide_eq_true hb
  clear hb
  have hn' : ([⟨a, b, c⟩, ⟨l0, l1, l2⟩, ⟨h0, h1, h2⟩] : List Pt).all neP = true := by
    rw [← hn]
    unfold near3
    simp only [List.all_cons, List.all_nil, neP, Bool.and_true]
  have Hn := Lib.hid hn'; clear hn' hn
  have Hax := Lib.hid (vldB_ax hv)
  have Hv := Lib.hid hv; clear hv
  have Hl := Lib.hid (fun w => placed_any x y a b c l0 l1 l2 w Hax.out.1 Hax.out.2)
  have Hh := Lib.hid (fun w => placed_any x y a b c h0 h1 h2 w Hax.out.1 Hax.out.2)
  unfold pl
  generalize wrap64 (a + Cx0 x y l0 l1 l2) = m0 at *
  generalize wrap64 (a + Cx0 x y h0 h1 h2) = n0 at *
  generalize wrap64 (b + Cx1 x y l0 l1 l2) = m1 at *
  generalize wrap64 (b + Cx1 x y h0 h1 h2) = n1 at *
  generalize wrap64 (c + Cx2 x y l0 l1 l2) = m2 at *
  generalize wrap64 (c + Cx2 x y h0 h1 h2) = n2 at *
  go_enter Try.func26, Try.ntmps26
  go_wp2_with fail
  obtain ⟨W1, e, b1, b2, b3, b4, hS, hlt⟩ := four_new w 23 37 50 50 #[.int .i64 x, .int .i64 y] (R3 a b c) (R6 l0 l1 l2 h0 h1 h2) (R6 0 0 0 0 0 0)
  rw [e]; clear e hlt
  refine ((by have := valid_any x y W1; rwa [Hv.out] at this : Calls Try.prog 11 #[T2 x y] W1 fun e w' => e = .returned (.bool true) ∧ Below W1.heap.size W1 w')).mono ?_
  rintro e v2 ⟨rfl, hb⟩
  replace b1 := b1.ext hb
  replace b2 := b2.ext hb
  replace b3 := b3.ext hb
  replace b4 := b4.ext hb
  replace hS := hS.trans (hb.mono hS.size)
  clear hb
  have c_b2 := b2.cell
  have l_b2 := b2.lt
  have c_b3 := b3.cell
  have l_b3 := b3.lt
  go_wp2_with fail
  clear c_b2 l_b2 c_b3 l_b3
  obtain ⟨W3, e, b5, hb, hlt⟩ := one_new v2 37 #[.int .i64 a, .int .i64 b, .int .i64 c, .int .i64 l0, .int .i64 l1, .int .i64 l2, .int .i64 h0, .int .i64 h1, .int .i64 h2]
  rw [e]; clear e hlt
  replace b1 := b1.ext hb
  replace b2 := b2.ext hb
  replace b3 := b3.ext hb
  replace b4 := b4.ext hb
  replace hS := hS.trans (hb.mono hS.size)
  clear hb
  refine ((by have := near_any (some ⟨v2.heap.size, 0, none⟩) 3 [⟨a, b, c⟩, ⟨l0, l1, l2⟩, ⟨h0, h1, h2⟩] W3 (by simp) (ptsAt3_blk b5); rwa [Hn.out] at this : Calls Try.prog 44 #[.slice (some ⟨v2.heap.size, 0, none⟩) 3 3] W3 fun e w' => e = .returned (.bool true) ∧ Below W3.heap.size W3 w')).mono ?_
  rintro e v4 ⟨rfl, hb⟩
  replace b1 := b1.ext hb
  replace b2 := b2.ext hb
  replace b3 := b3.ext hb
  replace b4 := b4.ext hb
  replace b5 := b5.ext hb
  replace hS := hS.trans (hb.mono hS.size)
  clear hb
  clear b5
  go_wp2_with fail
  have d_b1 := b1.cellsP
  have d_b2 := b2.cellsP
  have d_b3 := b3.cellsP
  refine wp_region_loose_tail 12 (by kernel_rfl) (by kernel_rfl) (by kernel_rfl) ?_
  simp only [List.take_succ_cons, List.take_zero, List.drop_succ_cons, List.drop_zero]
  repeat (refine loose_quiet rfl rfl rfl ?_; intro K hK; go_big_quiet_op; go_big_quiet_on)
  (refine loose_call _ _ _ rfl rfl (fun w => by kernel_rfl) (fun w' _ => Hl.out w') ?_; simp only [Act.put, List.setIfInBounds_toArray, List.set_cons_zero, List.set_cons_succ])
  repeat (refine loose_quiet rfl rfl rfl ?_; intro K hK; go_big_quiet_op; go_big_quiet_on)
  (refine loose_call _ _ _ rfl rfl (fun w => by kernel_rfl) (fun w' _ => Hh.out w') ?_; simp only [Act.put, List.setIfInBounds_toArray, List.set_cons_zero, List.set_cons_succ])
  repeat (refine loose_quiet rfl rfl rfl ?_; intro K hK; go_big_quiet_op; go_big_quiet_on)
  refine loose_new 37 (R3 0 0 0) (fun g => .pointer (some ⟨g, 0, none⟩)) (fun _ => rfl) rfl rfl (fun w => by kernel_rfl) ?_
  refine loose_new 37 (R3 0 0 0) (fun g => .pointer (some ⟨g, 0, none⟩)) (fun _ => rfl) rfl rfl (fun w => by kernel_rfl) ?_
  refine loose_nil ?_
  intro vals xx hk hap
  obtain ⟨h, e9, hh1, hh2, hh3⟩ := hk _ (.head _)
  obtain ⟨g, e8, hg1, hg2, hg3⟩ := hk _ (.tail _ (.head _))
  have hne := hap _ (.head _) _ (.tail _ (.head _)) rfl rfl (fun e => nomatch e)
  simp only at e8 e9 hne
  simp only [putK, List.foldr_cons, List.foldr_nil, e8, e9, Act.put, List.setIfInBounds_toArray, List.set_cons_zero, List.set_cons_succ]
  rw [e8, e9] at hne
  have hgh : h ≠ g := fun e => hne (by rw [e])
  clear hne hk hap e8 e9
  clear d_b1 d_b2 d_b3
  have n4 := b4.lt
  replace b4 := b4.plus xx
  replace hS := hS.trans ((below_plus (w := v4) (xx := xx)).mono hS.size)
  clear b1 b2 b3
  generalize pls v4 xx = V1 at *
  replace hg3 := blk_new hg3
  replace hh3 := blk_new hh3
  obtain ⟨g0, g1⟩ := hg3.cells
  obtain ⟨z0, z1⟩ := hh3.cells
  go_upto_region 6 with fail
  clear g0 g1 z0 z1
  obtain ⟨W2, e, hg3, t2⟩ := set_row3 hg3 (.int .i64 m0) (.int .i64 m1) (.int .i64 m2)
  rw [e]; clear e
  obtain ⟨W3, e, hh3, t3⟩ := set_row3 (hh3.turned t2 hgh) (.int .i64 n0) (.int .i64 n1) (.int .i64 n2)
  rw [e]; clear e
  replace hg3 := hg3.turned t3 (Ne.symm hgh)
  replace b4 := (b4.turned t2 (by omega)).turned t3 (by omega)
  replace hS := Turned.below (Turned.below hS t2 (by omega)) t3 (by omega)
  clear t2 t3 hg2 hh2 hgh hh1 hg1
  have g0 := hg3.cell
  have z0 := hh3.cell
  obtain ⟨c_b4, f_b4⟩ := b4.cells
  have l_b4 := b4.lt
  go_wp2_with fail
  obtain ⟨W, e, b4, t⟩ := set_row6 b4 (.int .i64 (mn m0 n0)) (.int .i64 (mn m1 n1)) (.int .i64 (mn m2 n2)) (.int .i64 (mx m0 n0)) (.int .i64 (mx m1 n1)) (.int .i64 (mx m2 n2))
  rw [e]
  exact bodyPost_ret (results_cell_row_tmp Try.results26 _ _ (w.heap.size + 1 + 1 + 1) 50 _ (0, 0) _ rfl b4 Try.underlying50 rfl (by kernel_rfl)) rfl ⟨rfl, Turned.below hS t (by omega)⟩
set_option maxHeartbeats 400000 in
theorem order_any (a b c d e f : Int) (w : World) : Calls Try.prog 47 #[A3 a b c, A3 d e f] w fun r w' => r = .returned (A6 (mn a d) (mn b e) (mn c f) (mx a d) (mx b e) (mx c f)) ∧ Below w.heap.size w w' := by
  go_enter Try.func47, Try.ntmps47
  go_wp2
  go_returns
  exact ⟨rfl, by go_grown⟩
set_option maxHeartbeats 1000000 in
theorem rbox_arg (x y a b c l0 l1 l2 h0 h1 h2 : Int) (w : World) (hv : vldB x y = false ∨ boxOK l0 l1 l2 h0 h1 h2 = false) :
    Calls Try.prog 27 #[T2 x y, A3 a b c, A6 l0 l1 l2 h0 h1 h2] w fun e w' => e = .returned (.tuple #[A6 0 0 0 0 0 0, .int .i64 1]) ∧ Below w.heap.size w w' := by
  have Hv := Lib.hid hv; clear hv
  go_enter Try.func27, Try.ntmps27
  go_wp2_with fail
  obtain ⟨W1, e, b1, b2, b3, b4, hS, hlt⟩ := four_new w 23 37 50 50 #[.int .i64 x, .int .i64 y] (R3 a b c) (R6 l0 l1 l2 h0 h1 h2) (R6 0 0 0 0 0 0)
  rw [e]; clear e hlt
  cases hv : vldB x y with
  | false =>
    refine ((by have := rvalid_any x y W1; rwa [hv] at this : Calls Try.prog 12 #[T2 x y] W1 fun e w' => e = .returned (.bool false) ∧ Below W1.heap.size W1 w')).mono ?_
    rintro e v1 ⟨rfl, hb⟩
    replace b1 := b1.ext hb
    replace b2 := b2.ext hb
    replace b3 := b3.ext hb
    replace b4 := b4.ext hb
    replace hS := hS.trans (hb.mono hS.size)
    clear hb
    clear hv
    obtain ⟨c_b4, f_b4⟩ := b4.cells
    have l_b4 := b4.lt
    go_wp2_with fail
    obtain ⟨W, e, b4, t⟩ := set_row6 b4 (.int .i64 0) (.int .i64 0) (.int .i64 0) (.int .i64 0) (.int .i64 0) (.int .i64 0)
    rw [e]
    exact bodyPost_ret (results_cell_row_tmp Try.results27 _ _ (w.heap.size + 1 + 1 + 1) 50 _ (0, 0) _ rfl b4 Try.underlying50 rfl (by kernel_rfl)) rfl ⟨rfl, Turned.below hS t (by omega)⟩
  | true =>
    refine ((by have := rvalid_any x y W1; rwa [hv] at this : Calls Try.prog 12 #[T2 x y] W1 fun e w' => e = .returned (.bool true) ∧ Below W1.heap.size W1 w')).mono ?_
    rintro e v1 ⟨rfl, hb⟩
    replace b1 := b1.ext hb
    replace b2 := b2.ext hb
    replace b3 := b3.ext hb
    replace b4 := b4.ext hb
    replace hS := hS.trans (hb.mono hS.size)
    clear hb
    have hv0 := hv
    clear hv
    have c_b3 := b3.cell
    have l_b3 := b3.lt
    obtain ⟨c_b4, f_b4⟩ := b4.cells
    have l_b4 := b4.lt
    have hbox : ¬(l0 ≤ h0 ∧ l1 ≤ h1 ∧ l2 ≤ h2) := by
      have := Hv.out.resolve_left (by simp [hv0])
      exact of_decide_eq_false this
    by_cases q1 : l0 ≤ h0
    · by_cases q2 : l1 ≤ h1
      · have q3 : ¬ l2 ≤ h2 := fun h => hbox ⟨q1, q2, h⟩
        clear hbox hv0
        go_wp2_with fail
        obtain ⟨W, e, b4, t⟩ := set_row6 b4 (.int .i64 0) (.int .i64 0) (.int .i64 0) (.int .i64 0) (.int .i64 0) (.int .i64 0)
        rw [e]
        exact bodyPost_ret (results_cell_row_tmp Try.results27 _ _ (w.heap.size + 1 + 1 + 1) 50 _ (0, 0) _ rfl b4 Try.underlying50 rfl (by kernel_rfl)) rfl ⟨rfl, Turned.below hS t (by omega)⟩
      · clear hbox hv0
        go_wp2_with fail
        obtain ⟨W, e, b4, t⟩ := set_row6 b4 (.int .i64 0) (.int .i64 0) (.int .i64 0) (.int .i64 0) (.int .i64 0) (.int .i64 0)
        rw [e]
        exact bodyPost_ret (results_cell_row_tmp Try.results27 _ _ (w.heap.size + 1 + 1 + 1) 50 _ (0, 0) _ rfl b4 Try.underlying50 rfl (by kernel_rfl)) rfl ⟨rfl, Turned.below hS t (by omega)⟩
    · clear hbox hv0
      go_wp2_with fail
      obtain ⟨W, e, b4, t⟩ := set_row6 b4 (.int .i64 0) (.int .i64 0) (.int .i64 0) (.int .i64 0) (.int .i64 0) (.int .i64 0)
      rw [e]
      exact bodyPost_ret (results_cell_row_tmp Try.results27 _ _ (w.heap.size + 1 + 1 + 1) 50 _ (0, 0) _ rfl b4 Try.underlying50 rfl (by kernel_rfl)) rfl ⟨rfl, Turned.below hS t (by omega)⟩
set_option maxHeartbeats 1000000 in
theorem rbox_rng0 (x y a b c l0 l1 l2 h0 h1 h2 : Int) (w : World) (hv : vldB x y = true) (hb : boxOK l0 l1 l2 h0 h1 h2 = true) (n0 : neB a b c = false) :
    Calls Try.prog 27 #[T2 x y, A3 a b c, A6 l0 l1 l2 h0 h1 h2] w fun e w' => e = .returned (.tuple #[A6 0 0 0 0 0 0, .int .i64 2]) ∧ Below w.heap.size w w' := by
  obtain ⟨q1, q2, q3⟩ := of_decide_eq_true hb
  clear hb
  have N0 := Lib.hid n0; clear n0
  have Hv := Lib.hid hv; clear hv
  go_enter Try.func27, Try.ntmps27
  go_wp2_with fail
  obtain ⟨W1, e, b1, b2, b3, b4, hS, hlt⟩ := four_new w 23 37 50 50 #[.int .i64 x, .int .i64 y] (R3 a b c) (R6 l0 l1 l2 h0 h1 h2) (R6 0 0 0 0 0 0)
  rw [e]; clear e hlt
  refine ((by have := rvalid_any x y W1; rwa [Hv.out] at this : Calls Try.prog 12 #[T2 x y] W1 fun e w' => e = .returned (.bool true) ∧ Below W1.heap.size W1 w')).mono ?_
  rintro e v2 ⟨rfl, hb⟩
  replace b1 := b1.ext hb
  replace b2 := b2.ext hb
  replace b3 := b3.ext hb
  replace b4 := b4.ext hb
  replace hS := hS.trans (hb.mono hS.size)
  clear hb
  have c_b2 := b2.cell
  have l_b2 := b2.lt
  have c_b3 := b3.cell
  have l_b3 := b3.lt
  go_wp2_with fail
  clear c_b2 l_b2 c_b3 l_b3
  refine ((by have := rnear_any a b c v2; rwa [N0.out] at this : Calls Try.prog 22 #[A3 a b c] v2 fun e w' => e = .returned (.bool false) ∧ Below v2.heap.size v2 w')).mono ?_
  rintro e v3 ⟨rfl, hb⟩
  replace b1 := b1.ext hb
  replace b2 := b2.ext hb
  replace b3 := b3.ext hb
  replace b4 := b4.ext hb
  replace hS := hS.trans (hb.mono hS.size)
  clear hb
  obtain ⟨c_b4, f_b4⟩ := b4.cells
  have l_b4 := b4.lt
  go_wp2_with fail
  obtain ⟨W, e, b4, t⟩ := set_row6 b4 (.int .i64 0) (.int .i64 0) (.int .i64 0) (.int .i64 0) (.int .i64 0) (.int .i64 0)
  rw [e]
  exact bodyPost_ret (results_cell_row_tmp Try.results27 _ _ (w.heap.size + 1 + 1 + 1) 50 _ (0, 0) _ rfl b4 Try.underlying50 rfl (by kernel_rfl)) rfl ⟨rfl, Turned.below hS t (by omega)⟩
set_option maxHeartbeats 1000000 in
theorem rbox_rng1 (x y a b c l0 l1 l2 h0 h1 h2 : Int) (w : World) (hv : vldB x y = true) (hb : boxOK l0 l1 l2 h0 h1 h2 = true) (n0 : neB a b c = true) (n1 : neB l0 l1 l2 = false) :
    Calls Try.prog 27 #[T2 x y, A3 a b c, A6 l0 l1 l2 h0 h1 h2] w fun e w' => e = .returned (.tuple #[A6 0 0 0 0 0 0, .int .i64 2]) ∧ Below w.heap.size w w' := by
  obtain ⟨q1, q2, q3⟩ := of_decide_eq_true hb
  clear hb
  have N0 := Lib.hid n0; clear n0
  have N1 := Lib.hid n1; clear n1
  have Hv := Lib.hid hv; clear hv
  go_enter Try.func27, Try.ntmps27
  go_wp2_with fail
  obtain ⟨W1, e, b1, b2, b3, b4, hS, hlt⟩ := four_new w 23 37 50 50 #[.int .i64 x, .int .i64 y] (R3 a b c) (R6 l0 l1 l2 h0 h1 h2) (R6 0 0 0 0 0 0)
  rw [e]; clear e hlt
  refine ((by have := rvalid_any x y W1; rwa [Hv.out] at this : Calls Try.prog 12 #[T2 x y] W1 fun e w' => e = .returned (.bool true) ∧ Below W1.heap.size W1 w')).mono ?_
  rintro e v2 ⟨rfl, hb⟩
  replace b1 := b1.ext hb
  replace b2 := b2.ext hb
  replace b3 := b3.ext hb
  replace b4 := b4.ext hb
  replace hS := hS.trans (hb.mono hS.size)
  clear hb
  have c_b2 := b2.cell
  have l_b2 := b2.lt
  have c_b3 := b3.cell
  have l_b3 := b3.lt
  go_wp2_with fail
  clear c_b2 l_b2 c_b3 l_b3
  refine ((by have := rnear_any a b c v2; rwa [N0.out] at this : Calls Try.prog 22 #[A3 a b c] v2 fun e w' => e = .returned (.bool true) ∧ Below v2.heap.size v2 w')).mono ?_
  rintro e v3 ⟨rfl, hb⟩
  replace b1 := b1.ext hb
  replace b2 := b2.ext hb
  replace b3 := b3.ext hb
  replace b4 := b4.ext hb
  replace hS := hS.trans (hb.mono hS.size)
  clear hb
  have c_b2 := b2.cell
  have l_b2 := b2.lt
  have c_b3 := b3.cell
  have l_b3 := b3.lt
  go_wp2_with fail
  clear c_b2 l_b2 c_b3 l_b3
  refine ((by have := rnear_any l0 l1 l2 v3; rwa [N1.out] at this : Calls Try.prog 22 #[A3 l0 l1 l2] v3 fun e w' => e = .returned (.bool false) ∧ Below v3.heap.size v3 w')).mono ?_
  rintro e v4 ⟨rfl, hb⟩
  replace b1 := b1.ext hb
  replace b2 := b2.ext hb
  replace b3 := b3.ext hb
  replace b4 := b4.ext hb
  replace hS := hS.trans (hb.mono hS.size)
  clear hb
  obtain ⟨c_b4, f_b4⟩ := b4.cells
  have l_b4 := b4.lt
  go_wp2_with fail
  obtain ⟨W, e, b4, t⟩ := set_row6 b4 (.int .i64 0) (.int .i64 0) (.int .i64 0) (.int .i64 0) (.int .i64 0) (.int .i64 0)
  rw [e]
  exact bodyPost_ret (results_cell_row_tmp Try.results27 _ _ (w.heap.size + 1 + 1 + 1) 50 _ (0, 0) _ rfl b4 Try.underlying50 rfl (by kernel_rfl)) rfl ⟨rfl, Turned.below hS t (by omega)⟩
set_option maxHeartbeats 1000000 in
theorem rbox_rng2 (x y a b c l0 l1 l2 h0 h1 h2 : Int) (w : World) (hv : vldB x y = true) (hb : boxOK l0 l1 l2 h0 h1 h2 = true) (n0 : neB a b c = true) (n1 : neB l0 l1 l2 = true) (n2 : neB h0 h1 h2 = false) :
    Calls Try.prog 27 #[T2 x y, A3 a b c, A6 l0 l1 l2 h0 h1 h2] w fun e w' => e = .returned (.tuple #[A6 0 0 0 0 0 0, .int .i64 2]) ∧ Below w.heap.size w w' := by
  obtain ⟨q1, q2, q3⟩ := of_decide_eq_true hb
  clear hb
  have N0 := Lib.hid n0; clear n0
  have N1 := Lib.hid n1; clear n1
  have N2 := Lib.hid n2; clear n2
  have Hv := Lib.hid hv; clear hv
  go_enter Try.func27, Try.ntmps27
  go_wp2_with fail
  obtain ⟨W1, e, b1, b2, b3, b4, hS, hlt⟩ := four_new w 23 37 50 50 #[.int .i64 x, .int .i64 y] (R3 a b c) (R6 l0 l1 l2 h0 h1 h2) (R6 0 0 0 0 0 0)
  rw [e]; clear e hlt
  refine ((by have := rvalid_any x y W1; rwa [Hv.out] at this : Calls Try.prog 12 #[T2 x y] W1 fun e w' => e = .returned (.bool true) ∧ Below W1.heap.size W1 w')).mono ?_
  rintro e v2 ⟨rfl, hb⟩
  replace b1 := b1.ext hb
  replace b2 := b2.ext hb
  replace b3 := b3.ext hb
  replace b4 := b4.ext hb
  replace hS := hS.trans (hb.mono hS.size)
  clear hb
  have c_b2 := b2.cell
  have l_b2 := b2.lt
  have c_b3 := b3.cell
  have l_b3 := b3.lt
  go_wp2_with fail
  clear c_b2 l_b2 c_b3 l_b3
  refine ((by have := rnear_any a b c v2; rwa [N0.out] at this : Calls Try.prog 22 #[A3 a b c] v2 fun e w' => e = .returned (.bool true) ∧ Below v2.heap.size v2 w')).mono ?_
  rintro e v3 ⟨rfl, hb⟩
  replace b1 := b1.ext hb
  replace b2 := b2.ext hb
  replace b3 := b3.ext hb
  replace b4 := b4.ext hb
  replace hS := hS.trans (hb.mono hS.size)
  clear hb
  have c_b2 := b2.cell
  have l_b2 := b2.lt
  have c_b3 := b3.cell
  have l_b3 := b3.lt
  go_wp2_with fail
  clear c_b2 l_b2 c_b3 l_b3
  refine ((by have := rnear_any l0 l1 l2 v3; rwa [N1.out] at this : Calls Try.prog 22 #[A3 l0 l1 l2] v3 fun e w' => e = .returned (.bool true) ∧ Below v3.heap.size v3 w')).mono ?_
  rintro e v4 ⟨rfl, hb⟩
  replace b1 := b1.ext hb
  replace b2 := b2.ext hb
  replace b3 := b3.ext hb
  replace b4 := b4.ext hb
  replace hS := hS.trans (hb.mono hS.size)
  clear hb
  have c_b2 := b2.cell
  have l_b2 := b2.lt
  have c_b3 := b3.cell
  have l_b3 := b3.lt
  go_wp2_with fail
  clear c_b2 l_b2 c_b3 l_b3
  refine ((by have := rnear_any h0 h1 h2 v4; rwa [N2.out] at this : Calls Try.prog 22 #[A3 h0 h1 h2] v4 fun e w' => e = .returned (.bool false) ∧ Below v4.heap.size v4 w')).mono ?_
  rintro e v5 ⟨rfl, hb⟩
  replace b1 := b1.ext hb
  replace b2 := b2.ext hb
  replace b3 := b3.ext hb
  replace b4 := b4.ext hb
  replace hS := hS.trans (hb.mono hS.size)
  clear hb
  obtain ⟨c_b4, f_b4⟩ := b4.cells
  have l_b4 := b4.lt
  go_wp2_with fail
  obtain ⟨W, e, b4, t⟩ := set_row6 b4 (.int .i64 0) (.int .i64 0) (.int .i64 0) (.int .i64 0) (.int .i64 0) (.int .i64 0)
  rw [e]
  exact bodyPost_ret (results_cell_row_tmp Try.results27 _ _ (w.heap.size + 1 + 1 + 1) 50 _ (0, 0) _ rfl b4 Try.underlying50 rfl (by kernel_rfl)) rfl ⟨rfl, Turned.below hS t (by omega)⟩
def rl (x y a p q r : Int) (C : Int → Int → Int → Int → Int → Int) : Int := wrap64 (C x y p q r + a)
set_option maxHeartbeats 1000000 in
theorem rbox_ok (x y a b c l0 l1 l2 h0 h1 h2 : Int) (w : World) (hv : vldB x y = true) (hb : boxOK l0 l1 l2 h0 h1 h2 = true) (n0 : neB a b c = true) (n1 : neB l0 l1 l2 = true) (n2 : neB h0 h1 h2 = true) :
    Calls Try.prog 27 #[T2 x y, A3 a b c, A6 l0 l1 l2 h0 h1 h2] w fun e w' => e = .returned (.tuple #[A6 (mn (rl x y a l0 l1 l2 Rx0) (rl x y a h0 h1 h2 Rx0)) (mn (rl x y b l0 l1 l2 Rx1) (rl x y b h0 h1 h2 Rx1)) (mn (rl x y c l0 l1 l2 Rx2) (rl x y c h0 h1 h2 Rx2)) (mx (rl x y a l0 l1 l2 Rx0) (rl x y a h0 h1 h2 Rx0)) (mx (rl x y b l0 l1 l2 Rx1) (rl x y b h0 h1 h2 Rx1)) (mx (rl x y c l0 l1 l2 Rx2) (rl x y c h0 h1 h2 Rx2)), .int .i64 0]) ∧ Below w.heap.size w w' := by
  obtain ⟨q1, q2, q3⟩ := of_decide_eq_true hb
  clear hb
  have N0 := Lib.hid n0; clear n0
  have N1 := Lib.hid n1; clear n1
  have N2 := Lib.hid n2; clear n2
  have Hax := Lib.hid (vldB_ax hv)
  have Hv := Lib.hid hv; clear hv
  have Hl := Lib.hid (fun w => rimage_any x y l0 l1 l2 w Hax.out.1 Hax.out.2)
  have Hh := Lib.hid (fun w => rimage_any x y h0 h1 h2 w Hax.out.1 Hax.out.2)
  unfold rl
  generalize Rx0 x y l0 l1 l2 = m0 at *
  generalize Rx0 x y h0 h1 h2 = k0 at *
  generalize Rx1 x y l0 l1 l2 = m1 at *
  generalize Rx1 x y h0 h1 h2 = k1 at *
  generalize Rx2 x y l0 l1 l2 = m2 at *
  generalize Rx2 x y h0 h1 h2 = k2 at *
  go_enter Try.func27, Try.ntmps27
  go_wp2_with fail
  obtain ⟨W1, e, b1, b2, b3, b4, hS, hlt⟩ := four_new w 23 37 50 50 #[.int .i64 x, .int .i64 y] (R3 a b c) (R6 l0 l1 l2 h0 h1 h2) (R6 0 0 0 0 0 0)
  rw [e]; clear e hlt
  refine ((by have := rvalid_any x y W1; rwa [Hv.out] at this : Calls Try.prog 12 #[T2 x y] W1 fun e w' => e = .returned (.bool true) ∧ Below W1.heap.size W1 w')).mono ?_
  rintro e v2 ⟨rfl, hb⟩
  replace b1 := b1.ext hb
  replace b2 := b2.ext hb
  replace b3 := b3.ext hb
  replace b4 := b4.ext hb
  replace hS := hS.trans (hb.mono hS.size)
  clear hb
  have c_b2 := b2.cell
  have l_b2 := b2.lt
  have c_b3 := b3.cell
  have l_b3 := b3.lt
  go_wp2_with fail
  clear c_b2 l_b2 c_b3 l_b3
  refine ((by have := rnear_any a b c v2; rwa [N0.out] at this : Calls Try.prog 22 #[A3 a b c] v2 fun e w' => e = .returned (.bool true) ∧ Below v2.heap.size v2 w')).mono ?_
  rintro e v3 ⟨rfl, hb⟩
  replace b1 := b1.ext hb
  replace b2 := b2.ext hb
  replace b3 := b3.ext hb
  replace b4 := b4.ext hb
  replace hS := hS.trans (hb.mono hS.size)
  clear hb
  have c_b2 := b2.cell
  have l_b2 := b2.lt
  have c_b3 := b3.cell
  have l_b3 := b3.lt
  go_wp2_with fail
  clear c_b2 l_b2 c_b3 l_b3
  refine ((by have := rnear_any l0 l1 l2 v3; rwa [N1.out] at this : Calls Try.prog 22 #[A3 l0 l1 l2] v3 fun e w' => e = .returned (.bool true) ∧ Below v3.heap.size v3 w')).mono ?_
  rintro e v4 ⟨rfl, hb⟩
  replace b1 := b1.ext hb
  replace b2 := b2.ext hb
  replace b3 := b3.ext hb
  replace b4 := b4.ext hb
  replace hS := hS.trans (hb.mono hS.size)
  clear hb
  have c_b2 := b2.cell
  have l_b2 := b2.lt
  have c_b3 := b3.cell
  have l_b3 := b3.lt
  go_wp2_with fail
  clear c_b2 l_b2 c_b3 l_b3
  refine ((by have := rnear_any h0 h1 h2 v4; rwa [N2.out] at this : Calls Try.prog 22 #[A3 h0 h1 h2] v4 fun e w' => e = .returned (.bool true) ∧ Below v4.heap.size v4 w')).mono ?_
  rintro e v5 ⟨rfl, hb⟩
  replace b1 := b1.ext hb
  replace b2 := b2.ext hb
  replace b3 := b3.ext hb
  replace b4 := b4.ext hb
  replace hS := hS.trans (hb.mono hS.size)
  clear hb
  have c_b2 := b2.cell
  have l_b2 := b2.lt
  have c_b3 := b3.cell
  have l_b3 := b3.lt
  go_wp2_with fail
  clear c_b2 l_b2 c_b3 l_b3
  have d_b1 := b1.cellsP
  have d_b2 := b2.cellsP
  have d_b3 := b3.cellsP
  refine wp_region_loose_tail 13 (by kernel_rfl) (by kernel_rfl) (by kernel_rfl) ?_
  simp only [List.take_succ_cons, List.take_zero, List.drop_succ_cons, List.drop_zero]
  repeat (refine loose_quiet rfl rfl rfl ?_; intro K hK; go_big_quiet_op; go_big_quiet_on)
  (refine loose_call _ _ _ rfl rfl (fun w => by kernel_rfl) (fun w' _ => Hl.out w') ?_; simp only [Act.put, List.setIfInBounds_toArray, List.set_cons_zero, List.set_cons_succ])
  repeat (refine loose_quiet rfl rfl rfl ?_; intro K hK; go_big_quiet_op; go_big_quiet_on)
  (refine loose_call _ _ _ rfl rfl (fun w => by kernel_rfl) (fun w' _ => plus_any m0 m1 m2 a b c w') ?_; simp only [Act.put, List.setIfInBounds_toArray, List.set_cons_zero, List.set_cons_succ])
  repeat (refine loose_quiet rfl rfl rfl ?_; intro K hK; go_big_quiet_op; go_big_quiet_on)
  (refine loose_call _ _ _ rfl rfl (fun w => by kernel_rfl) (fun w' _ => Hh.out w') ?_; simp only [Act.put, List.setIfInBounds_toArray, List.set_cons_zero, List.set_cons_succ])
  repeat (refine loose_quiet rfl rfl rfl ?_; intro K hK; go_big_quiet_op; go_big_quiet_on)
  (refine loose_call _ _ _ rfl rfl (fun w => by kernel_rfl) (fun w' _ => plus_any k0 k1 k2 a b c w') ?_; simp only [Act.put, List.setIfInBounds_toArray, List.set_cons_zero, List.set_cons_succ])
  repeat (refine loose_quiet rfl rfl rfl ?_; intro K hK; go_big_quiet_op; go_big_quiet_on)
  (refine loose_call _ _ _ rfl rfl (fun w => by kernel_rfl) (fun w' _ => order_any (wrap64 (m0 + a)) (wrap64 (m1 + b)) (wrap64 (m2 + c)) (wrap64 (k0 + a)) (wrap64 (k1 + b)) (wrap64 (k2 + c)) w') ?_; simp only [Act.put, List.setIfInBounds_toArray, List.set_cons_zero, List.set_cons_succ])
  repeat (refine loose_quiet rfl rfl rfl ?_; intro K hK; go_big_quiet_op; go_big_quiet_on)
  clear d_b1 d_b2 d_b3
  refine loose_nil' ?_
  intro v6 hb
  replace b1 := b1.ext hb
  replace b2 := b2.ext hb
  replace b3 := b3.ext hb
  replace b4 := b4.ext hb
  replace hS := hS.trans (hb.mono hS.size)
  clear hb
  obtain ⟨c_b4, f_b4⟩ := b4.cells
  have l_b4 := b4.lt
  go_wp2_with fail
  obtain ⟨W, e, b4, t⟩ := set_row6 b4 (.int .i64 (mn (wrap64 (m0 + a)) (wrap64 (k0 + a)))) (.int .i64 (mn (wrap64 (m1 + b)) (wrap64 (k1 + b)))) (.int .i64 (mn (wrap64 (m2 + c)) (wrap64 (k2 + c)))) (.int .i64 (mx (wrap64 (m0 + a)) (wrap64 (k0 + a)))) (.int .i64 (mx (wrap64 (m1 + b)) (wrap64 (k1 + b)))) (.int .i64 (mx (wrap64 (m2 + c)) (wrap64 (k2 + c))))
  rw [e]
  exact bodyPost_ret (results_cell_row_tmp Try.results27 _ _ (w.heap.size + 1 + 1 + 1) 50 _ (0, 0) _ rfl b4 Try.underlying50 rfl (by kernel_rfl)) rfl ⟨rfl, Turned.below hS t (by omega)⟩
end Go.Proofs.Ytjpnijnbfjgnfaa
