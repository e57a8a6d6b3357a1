/- Contracts of the package frame: what each call returns, and that it leaves what was there as it was: FrameTurns. -/
import Derived.Test.YtjpnijnbfjgnfaaL
namespace Go.Proofs.Ytjpnijnbfjgnfaa
open Go.RowKit BigFrame
def AllR (v : Value) (w : World) : Prop := ∃ A c, v = .slice A allL.length c ∧ TsAt w A allL
theorem allR_st : ∀ v w w', AllR v w → Below w.heap.size w w' → AllR v w' := fun v w w' ⟨A, c, e, h⟩ hb => ⟨A, c, e, h.ext hb⟩
theorem all_R (w : World) : Calls Try.prog 14 #[] w fun e w' => ∃ v, e = .returned v ∧ AllR v w' ∧ Below w.heap.size w w' :=
  (all_any w).mono fun e w' ⟨v, he, hown, hb⟩ => ⟨v, he, turnsIn_form hown, hb⟩
theorem rall_R (w : World) : Calls Try.prog 15 #[] w fun e w' => ∃ v, e = .returned v ∧ AllR v w' ∧ Below w.heap.size w w' :=
  (rall_any w).mono fun e w' ⟨v, he, hown, hb⟩ => ⟨v, he, turnsIn_form hown, hb⟩
theorem eqAll {v1 v2 : Value} {w : World} (h1 : AllR v1 w) (h2 : AllR v2 w) : Calls Try.prog 13 #[v1, v2] w fun e w' => e = .returned (.bool true) ∧ Below w.heap.size w w' := by
  obtain ⟨A1, c1, rfl, t1⟩ := h1
  obtain ⟨A2, c2, rfl, t2⟩ := h2
  have := eqT_any A1 A2 c1 c2 allL allL w (by decide) (by decide) t1 t2
  simpa using this
set_option maxHeartbeats 2000000 in
theorem turns_bad (x y p q : Int) (w : World) (hv : vldB x y = false) : Calls Try.prog 3 #[T2 x y, T2 p q] w fun e w' => e = .returned (.bool true) ∧ Below w.heap.size w w' := by
  have Hv := Lib.hid hv; clear hv
  have e23 := eql23
  have g23 := eqg23
  go_enter Try.func3, Try.ntmps3
  go_wp2_with fail
  obtain ⟨W1, e, b1, b2, hS, hlt⟩ := two_new w 23 23 #[.int .i64 x, .int .i64 y] #[.int .i64 p, .int .i64 q]
  rw [e]; clear e hlt
  refine (awake_any _).mono ?_
  rintro e v2 ⟨rfl, hb⟩
  replace b1 := b1.ext hb
  replace b2 := b2.ext hb
  replace hS := hS.trans (hb.mono hS.size)
  clear hb
  go_wp2_with fail
  have d_b1 := b1.cellsP
  refine wp_region_loose (by kernel_rfl) (by kernel_rfl) ?_
  repeat (refine loose_quiet rfl rfl rfl ?_; intro K hK; go_big_quiet_op; go_big_quiet_on)
  (refine loose_call _ _ _ rfl rfl (fun w => by kernel_rfl) (fun w' _ => (by have := valid_any x y w'; rwa [Hv.out] at this)) ?_; simp only [Act.put, List.setIfInBounds_toArray, List.set_cons_zero, List.set_cons_succ])
  repeat (refine loose_quiet rfl rfl rfl ?_; intro K hK; go_big_quiet_op; go_big_quiet_on)
  (refine loose_call _ _ _ rfl rfl (fun w => by kernel_rfl) (fun w' _ => (by have := rvalid_any x y w'; rwa [Hv.out] at this)) ?_; simp only [Act.put, List.setIfInBounds_toArray, List.set_cons_zero, List.set_cons_succ])
  repeat (refine loose_quiet rfl rfl rfl ?_; intro K hK; go_big_quiet_op; go_big_quiet_on)
  refine loose_call_any _ _ AllR rfl rfl allR_st (fun w => by kernel_rfl) (fun w' _ => all_R w') ?_
  refine loose_call_any _ _ AllR rfl rfl allR_st (fun w => by kernel_rfl) (fun w' _ => rall_R w') ?_
  refine loose_call_known 13 (fun vals => #[vals 6, vals 7]) (.bool true) (fun _ => rfl) (fun _ _ => by kernel_rfl) (fun vals w' _ hk => eqAll (hk _ (.tail _ (.head _)) rfl) (hk _ (.head _) rfl)) ?_
  simp only [Act.put, List.setIfInBounds_toArray, List.set_cons_zero, List.set_cons_succ]
  repeat (refine loose_quiet rfl rfl rfl ?_; intro K hK; go_big_quiet_op; go_big_quiet_on)
  clear d_b1
  refine loose_nil ?_
  intro vals xx _ _
  simp only [putK, List.foldr_cons, List.foldr_nil, Act.put, List.setIfInBounds_toArray, List.set_cons_zero, List.set_cons_succ]
  have hb := below_plus (w := v2) (xx := xx)
  generalize pls v2 xx = v3 at *
  replace b1 := b1.ext hb
  replace b2 := b2.ext hb
  replace hS := hS.trans (hb.mono hS.size)
  clear hb
  have c_b1 := b1.cell
  have l_b1 := b1.lt
  have c_b2 := b2.cell
  have l_b2 := b2.lt
  go_wp2_with fail
  refine (then_bad x y p q _ (.inl Hv.out)).mono ?_
  rintro e v4 ⟨rfl, hb⟩
  replace b1 := b1.ext hb
  replace b2 := b2.ext hb
  replace hS := hS.trans (hb.mono hS.size)
  clear hb
  clear c_b1 l_b1 c_b2 l_b2
  have c_b1 := b1.cell
  have l_b1 := b1.lt
  have c_b2 := b2.cell
  have l_b2 := b2.lt
  go_wp2_with fail
  clear c_b1 l_b1 c_b2 l_b2
  obtain ⟨W5, e, b3, hb, hlt⟩ := one_new v4 23 #[.int .i64 0, .int .i64 0]
  rw [e]; clear e hlt
  replace b1 := b1.ext hb
  replace b2 := b2.ext hb
  replace hS := hS.trans (hb.mono hS.size)
  clear hb
  refine (back_bad x y _ Hv.out).mono ?_
  rintro e v6 ⟨rfl, hb⟩
  replace b1 := b1.ext hb
  replace b2 := b2.ext hb
  replace b3 := b3.ext hb
  replace hS := hS.trans (hb.mono hS.size)
  clear hb
  have c_b1 := b1.cell
  have l_b1 := b1.lt
  have c_b2 := b2.cell
  have l_b2 := b2.lt
  have c_b3 := b3.cell
  have l_b3 := b3.lt
  go_wp2_with fail
  clear c_b1 l_b1 c_b2 l_b2 c_b3 l_b3
  obtain ⟨W7, e, b4, hb, hlt⟩ := one_new v6 23 #[.int .i64 0, .int .i64 0]
  rw [e]; clear e hlt
  replace b1 := b1.ext hb
  replace b2 := b2.ext hb
  replace b3 := b3.ext hb
  replace hS := hS.trans (hb.mono hS.size)
  clear hb
  refine ((by have := rvalid_any x y W7; rwa [Hv.out] at this : Calls Try.prog 12 #[T2 x y] W7 fun e w' => e = .returned (.bool false) ∧ Below W7.heap.size W7 w')).mono ?_
  rintro e v8 ⟨rfl, hb⟩
  replace b1 := b1.ext hb
  replace b2 := b2.ext hb
  replace b3 := b3.ext hb
  replace b4 := b4.ext hb
  replace hS := hS.trans (hb.mono hS.size)
  clear hb
  have c_b3 := b3.cell
  have l_b3 := b3.lt
  have c_b4 := b4.cell
  have l_b4 := b4.lt
  go_wp2_with fail
  go_ret
  exact ⟨rfl, hS⟩
theorem neq23' (a0 a1 : Int) (w : World) : (binOp .neq 23 (T2 a0 a1) (T2 a0 a1)).run Try.prog w = .ok (.bool false) w := by
  have := neq23 a0 a1 a0 a1 w
  simpa using this
theorem eql23' (a0 a1 : Int) (w : World) : (binOp .eql 23 (T2 a0 a1) (T2 a0 a1)).run Try.prog w = .ok (.bool true) w := by
  have := eql23 a0 a1 a0 a1 w
  simpa using this
set_option maxHeartbeats 2000000 in
theorem turns_mid (x y p q : Int) (w : World) (hv : vldB x y = true) (hu : vldB p q = false) : Calls Try.prog 3 #[T2 x y, T2 p q] w fun e w' => e = .returned (.bool true) ∧ Below w.heap.size w w' := by
  have hax := vldB_ax hv
  obtain ⟨hf1, hf2⟩ := back_facts _ (vldB_mem hv)
  simp only at hf1 hf2
  obtain ⟨r, hr⟩ := Option.isSome_iff_exists.1 hf2
  have hr2 := hf1.symm.trans hr
  obtain ⟨r1, r2⟩ := r
  have Hb := Lib.hid (fun w => (by have := back_ok x y w hv; rwa [hr] at this : Calls Try.prog 17 #[T2 x y] w fun e w' => e = .returned (.tuple #[T2 r1 r2, .int .i64 0]) ∧ Below w.heap.size w w'))
  have Hrb := Lib.hid (fun w => (by have := rback_ok x y w hax.1 hax.2; rwa [hr2] at this : Calls Try.prog 18 #[T2 x y] w fun e w' => e = .returned (T2 r1 r2) ∧ Below w.heap.size w w'))
  clear hf1 hf2 hr hr2 hax
  have Hv := Lib.hid hv; clear hv
  have Hu := Lib.hid hu; clear hu
  have e23 := eql23
  have n23 := neq23'
  have g23 := eqg23
  go_enter Try.func3, Try.ntmps3
  go_wp2_with fail
  obtain ⟨W1, e, b1, b2, hS, hlt⟩ := two_new w 23 23 #[.int .i64 x, .int .i64 y] #[.int .i64 p, .int .i64 q]
  rw [e]; clear e hlt
  refine (awake_any _).mono ?_
  rintro e v2 ⟨rfl, hb⟩
  replace b1 := b1.ext hb
  replace b2 := b2.ext hb
  replace hS := hS.trans (hb.mono hS.size)
  clear hb
  go_wp2_with fail
  have d_b1 := b1.cellsP
  refine wp_region_loose (by kernel_rfl) (by kernel_rfl) ?_
  repeat (refine loose_quiet rfl rfl rfl ?_; intro K hK; go_big_quiet_op; go_big_quiet_on)
  (refine loose_call _ _ _ rfl rfl (fun w => by kernel_rfl) (fun w' _ => (by have := valid_any x y w'; rwa [Hv.out] at this)) ?_; simp only [Act.put, List.setIfInBounds_toArray, List.set_cons_zero, List.set_cons_succ])
  repeat (refine loose_quiet rfl rfl rfl ?_; intro K hK; go_big_quiet_op; go_big_quiet_on)
  (refine loose_call _ _ _ rfl rfl (fun w => by kernel_rfl) (fun w' _ => (by have := rvalid_any x y w'; rwa [Hv.out] at this)) ?_; simp only [Act.put, List.setIfInBounds_toArray, List.set_cons_zero, List.set_cons_succ])
  repeat (refine loose_quiet rfl rfl rfl ?_; intro K hK; go_big_quiet_op; go_big_quiet_on)
  refine loose_call_any _ _ AllR rfl rfl allR_st (fun w => by kernel_rfl) (fun w' _ => all_R w') ?_
  refine loose_call_any _ _ AllR rfl rfl allR_st (fun w => by kernel_rfl) (fun w' _ => rall_R w') ?_
  refine loose_call_known 13 (fun vals => #[vals 6, vals 7]) (.bool true) (fun _ => rfl) (fun _ _ => by kernel_rfl) (fun vals w' _ hk => eqAll (hk _ (.tail _ (.head _)) rfl) (hk _ (.head _) rfl)) ?_
  simp only [Act.put, List.setIfInBounds_toArray, List.set_cons_zero, List.set_cons_succ]
  repeat (refine loose_quiet rfl rfl rfl ?_; intro K hK; go_big_quiet_op; go_big_quiet_on)
  clear d_b1
  refine loose_nil ?_
  intro vals xx _ _
  simp only [putK, List.foldr_cons, List.foldr_nil, Act.put, List.setIfInBounds_toArray, List.set_cons_zero, List.set_cons_succ]
  have hb := below_plus (w := v2) (xx := xx)
  generalize pls v2 xx = v3 at *
  replace b1 := b1.ext hb
  replace b2 := b2.ext hb
  replace hS := hS.trans (hb.mono hS.size)
  clear hb
  have c_b1 := b1.cell
  have l_b1 := b1.lt
  have c_b2 := b2.cell
  have l_b2 := b2.lt
  go_wp2_with fail
  refine (then_bad x y p q _ (.inr Hu.out)).mono ?_
  rintro e v4 ⟨rfl, hb⟩
  replace b1 := b1.ext hb
  replace b2 := b2.ext hb
  replace hS := hS.trans (hb.mono hS.size)
  clear hb
  clear c_b1 l_b1 c_b2 l_b2
  have c_b1 := b1.cell
  have l_b1 := b1.lt
  have c_b2 := b2.cell
  have l_b2 := b2.lt
  go_wp2_with fail
  clear c_b1 l_b1 c_b2 l_b2
  obtain ⟨W5, e, b3, hb, hlt⟩ := one_new v4 23 #[.int .i64 0, .int .i64 0]
  rw [e]; clear e hlt
  replace b1 := b1.ext hb
  replace b2 := b2.ext hb
  replace hS := hS.trans (hb.mono hS.size)
  clear hb
  refine (Hb.out _).mono ?_
  rintro e v6 ⟨rfl, hb⟩
  replace b1 := b1.ext hb
  replace b2 := b2.ext hb
  replace b3 := b3.ext hb
  replace hS := hS.trans (hb.mono hS.size)
  clear hb
  have c_b1 := b1.cell
  have l_b1 := b1.lt
  have c_b2 := b2.cell
  have l_b2 := b2.lt
  have c_b3 := b3.cell
  have l_b3 := b3.lt
  go_wp2_with fail
  clear c_b1 l_b1 c_b2 l_b2 c_b3 l_b3
  obtain ⟨W7, e, b4, hb, hlt⟩ := one_new v6 23 #[.int .i64 r1, .int .i64 r2]
  rw [e]; clear e hlt
  replace b1 := b1.ext hb
  replace b2 := b2.ext hb
  replace b3 := b3.ext hb
  replace hS := hS.trans (hb.mono hS.size)
  clear hb
  refine ((by have := rvalid_any x y W7; rwa [Hv.out] at this : Calls Try.prog 12 #[T2 x y] W7 fun e w' => e = .returned (.bool true) ∧ Below W7.heap.size W7 w')).mono ?_
  rintro e v8 ⟨rfl, hb⟩
  replace b1 := b1.ext hb
  replace b2 := b2.ext hb
  replace b3 := b3.ext hb
  replace b4 := b4.ext hb
  replace hS := hS.trans (hb.mono hS.size)
  clear hb
  have c_b1 := b1.cell
  have l_b1 := b1.lt
  have c_b2 := b2.cell
  have l_b2 := b2.lt
  have c_b3 := b3.cell
  have l_b3 := b3.lt
  have c_b4 := b4.cell
  have l_b4 := b4.lt
  go_wp2_with fail
  clear c_b1 l_b1 c_b2 l_b2 c_b3 l_b3 c_b4 l_b4
  have d_b1 := b1.cellsP
  have d_b2 := b2.cellsP
  have d_b3 := b3.cellsP
  have d_b4 := b4.cellsP
  refine wp_region_loose (by kernel_rfl) (by kernel_rfl) ?_
  repeat (refine loose_quiet rfl rfl rfl ?_; intro K hK; go_big_quiet_op; go_big_quiet_on)
  (refine loose_call _ _ _ rfl rfl (fun w => by kernel_rfl) (fun w' _ => Hrb.out w') ?_; simp only [Act.put, List.setIfInBounds_toArray, List.set_cons_zero, List.set_cons_succ])
  repeat (refine loose_quiet rfl rfl rfl ?_; intro K hK; go_big_quiet_op; go_big_quiet_on)
  clear d_b1 d_b2 d_b3 d_b4
  refine loose_nil' ?_
  intro v9 hb
  replace b1 := b1.ext hb
  replace b2 := b2.ext hb
  replace b3 := b3.ext hb
  replace b4 := b4.ext hb
  replace hS := hS.trans (hb.mono hS.size)
  clear hb
  have c_b1 := b1.cell
  have l_b1 := b1.lt
  have c_b2 := b2.cell
  have l_b2 := b2.lt
  have c_b3 := b3.cell
  have l_b3 := b3.lt
  have c_b4 := b4.cell
  have l_b4 := b4.lt
  go_wp2_with fail
  refine ((by have := rvalid_any p q v9; rwa [Hu.out] at this : Calls Try.prog 12 #[T2 p q] v9 fun e w' => e = .returned (.bool false) ∧ Below v9.heap.size v9 w')).mono ?_
  rintro e v10 ⟨rfl, hb⟩
  replace b1 := b1.ext hb
  replace b2 := b2.ext hb
  replace b3 := b3.ext hb
  replace b4 := b4.ext hb
  replace hS := hS.trans (hb.mono hS.size)
  clear hb
  clear c_b1 l_b1 c_b2 l_b2 c_b3 l_b3 c_b4 l_b4
  have c_b1 := b1.cell
  have l_b1 := b1.lt
  have c_b2 := b2.cell
  have l_b2 := b2.lt
  have c_b3 := b3.cell
  have l_b3 := b3.lt
  have c_b4 := b4.cell
  have l_b4 := b4.lt
  go_wp2_with fail
  go_ret
  exact ⟨rfl, hS⟩
set_option maxHeartbeats 2000000 in
theorem turns_ok (x y p q : Int) (w : World) (hv : vldB x y = true) (hu : vldB p q = true) : Calls Try.prog 3 #[T2 x y, T2 p q] w fun e w' => e = .returned (.bool true) ∧ Below w.heap.size w w' := by
  have hax := vldB_ax hv
  have hau := vldB_ax hu
  obtain ⟨hf1, hf2⟩ := back_facts _ (vldB_mem hv)
  simp only at hf1 hf2
  obtain ⟨r, hr⟩ := Option.isSome_iff_exists.1 hf2
  have hr2 := hf1.symm.trans hr
  obtain ⟨r1, r2⟩ := r
  have Hb := Lib.hid (fun w => (by have := back_ok x y w hv; rwa [hr] at this : Calls Try.prog 17 #[T2 x y] w fun e w' => e = .returned (.tuple #[T2 r1 r2, .int .i64 0]) ∧ Below w.heap.size w w'))
  have Hrb := Lib.hid (fun w => (by have := rback_ok x y w hax.1 hax.2; rwa [hr2] at this : Calls Try.prog 18 #[T2 x y] w fun e w' => e = .returned (T2 r1 r2) ∧ Below w.heap.size w w'))
  have ht1 := then_facts _ (vldB_mem hu) x (ax_mem hax.1)
  have ht2 := then_facts _ (vldB_mem hu) y (ax_mem hax.2)
  simp only at ht1 ht2
  have Ht := Lib.hid (fun w => then_ok x y p q w hv hu)
  have Hrt := Lib.hid (fun w => (by have := rthen_any x y p q w hax.1 hax.2 hau.1 hau.2; rwa [← ht1, ← ht2] at this : Calls Try.prog 19 #[T2 x y, T2 p q] w fun e w' => e = .returned (T2 (thX p q x) (thX p q y)) ∧ Below w.heap.size w w'))
  generalize thX p q x = t1 at *
  generalize thX p q y = t2 at *
  clear hf1 hf2 hr hr2 hax hau ht1 ht2
  have Hv := Lib.hid hv; clear hv
  have Hu := Lib.hid hu; clear hu
  have e23 := eql23'
  have n23 := neq23'
  have g23 := eqg23
  go_enter Try.func3, Try.ntmps3
  go_wp2_with fail
  obtain ⟨W1, e, b1, b2, hS, hlt⟩ := two_new w 23 23 #[.int .i64 x, .int .i64 y] #[.int .i64 p, .int .i64 q]
  rw [e]; clear e hlt
  refine (awake_any _).mono ?_
  rintro e v2 ⟨rfl, hb⟩
  replace b1 := b1.ext hb
  replace b2 := b2.ext hb
  replace hS := hS.trans (hb.mono hS.size)
  clear hb
  go_wp2_with fail
  have d_b1 := b1.cellsP
  refine wp_region_loose (by kernel_rfl) (by kernel_rfl) ?_
  repeat (refine loose_quiet rfl rfl rfl ?_; intro K hK; go_big_quiet_op; go_big_quiet_on)
  (refine loose_call _ _ _ rfl rfl (fun w => by kernel_rfl) (fun w' _ => (by have := valid_any x y w'; rwa [Hv.out] at this)) ?_; simp only [Act.put, List.setIfInBounds_toArray, List.set_cons_zero, List.set_cons_succ])
  repeat (refine loose_quiet rfl rfl rfl ?_; intro K hK; go_big_quiet_op; go_big_quiet_on)
  (refine loose_call _ _ _ rfl rfl (fun w => by kernel_rfl) (fun w' _ => (by have := rvalid_any x y w'; rwa [Hv.out] at this)) ?_; simp only [Act.put, List.setIfInBounds_toArray, List.set_cons_zero, List.set_cons_succ])
  repeat (refine loose_quiet rfl rfl rfl ?_; intro K hK; go_big_quiet_op; go_big_quiet_on)
  refine loose_call_any _ _ AllR rfl rfl allR_st (fun w => by kernel_rfl) (fun w' _ => all_R w') ?_
  refine loose_call_any _ _ AllR rfl rfl allR_st (fun w => by kernel_rfl) (fun w' _ => rall_R w') ?_
  refine loose_call_known 13 (fun vals => #[vals 6, vals 7]) (.bool true) (fun _ => rfl) (fun _ _ => by kernel_rfl) (fun vals w' _ hk => eqAll (hk _ (.tail _ (.head _)) rfl) (hk _ (.head _) rfl)) ?_
  simp only [Act.put, List.setIfInBounds_toArray, List.set_cons_zero, List.set_cons_succ]
  repeat (refine loose_quiet rfl rfl rfl ?_; intro K hK; go_big_quiet_op; go_big_quiet_on)
  clear d_b1
  refine loose_nil ?_
  intro vals xx _ _
  simp only [putK, List.foldr_cons, List.foldr_nil, Act.put, List.setIfInBounds_toArray, List.set_cons_zero, List.set_cons_succ]
  have hb := below_plus (w := v2) (xx := xx)
  generalize pls v2 xx = v3 at *
  replace b1 := b1.ext hb
  replace b2 := b2.ext hb
  replace hS := hS.trans (hb.mono hS.size)
  clear hb
  have c_b1 := b1.cell
  have l_b1 := b1.lt
  have c_b2 := b2.cell
  have l_b2 := b2.lt
  go_wp2_with fail
  refine (Ht.out _).mono ?_
  rintro e v4 ⟨rfl, hb⟩
  replace b1 := b1.ext hb
  replace b2 := b2.ext hb
  replace hS := hS.trans (hb.mono hS.size)
  clear hb
  clear c_b1 l_b1 c_b2 l_b2
  have c_b1 := b1.cell
  have l_b1 := b1.lt
  have c_b2 := b2.cell
  have l_b2 := b2.lt
  go_wp2_with fail
  clear c_b1 l_b1 c_b2 l_b2
  obtain ⟨W5, e, b3, hb, hlt⟩ := one_new v4 23 #[.int .i64 t1, .int .i64 t2]
  rw [e]; clear e hlt
  replace b1 := b1.ext hb
  replace b2 := b2.ext hb
  replace hS := hS.trans (hb.mono hS.size)
  clear hb
  refine (Hb.out _).mono ?_
  rintro e v6 ⟨rfl, hb⟩
  replace b1 := b1.ext hb
  replace b2 := b2.ext hb
  replace b3 := b3.ext hb
  replace hS := hS.trans (hb.mono hS.size)
  clear hb
  have c_b1 := b1.cell
  have l_b1 := b1.lt
  have c_b2 := b2.cell
  have l_b2 := b2.lt
  have c_b3 := b3.cell
  have l_b3 := b3.lt
  go_wp2_with fail
  clear c_b1 l_b1 c_b2 l_b2 c_b3 l_b3
  obtain ⟨W7, e, b4, hb, hlt⟩ := one_new v6 23 #[.int .i64 r1, .int .i64 r2]
  rw [e]; clear e hlt
  replace b1 := b1.ext hb
  replace b2 := b2.ext hb
  replace b3 := b3.ext hb
  replace hS := hS.trans (hb.mono hS.size)
  clear hb
  refine ((by have := rvalid_any x y W7; rwa [Hv.out] at this : Calls Try.prog 12 #[T2 x y] W7 fun e w' => e = .returned (.bool true) ∧ Below W7.heap.size W7 w')).mono ?_
  rintro e v8 ⟨rfl, hb⟩
  replace b1 := b1.ext hb
  replace b2 := b2.ext hb
  replace b3 := b3.ext hb
  replace b4 := b4.ext hb
  replace hS := hS.trans (hb.mono hS.size)
  clear hb
  have c_b1 := b1.cell
  have l_b1 := b1.lt
  have c_b2 := b2.cell
  have l_b2 := b2.lt
  have c_b3 := b3.cell
  have l_b3 := b3.lt
  have c_b4 := b4.cell
  have l_b4 := b4.lt
  go_wp2_with fail
  clear c_b1 l_b1 c_b2 l_b2 c_b3 l_b3 c_b4 l_b4
  have d_b1 := b1.cellsP
  have d_b2 := b2.cellsP
  have d_b3 := b3.cellsP
  have d_b4 := b4.cellsP
  refine wp_region_loose (by kernel_rfl) (by kernel_rfl) ?_
  repeat (refine loose_quiet rfl rfl rfl ?_; intro K hK; go_big_quiet_op; go_big_quiet_on)
  (refine loose_call _ _ _ rfl rfl (fun w => by kernel_rfl) (fun w' _ => Hrb.out w') ?_; simp only [Act.put, List.setIfInBounds_toArray, List.set_cons_zero, List.set_cons_succ])
  repeat (refine loose_quiet rfl rfl rfl ?_; intro K hK; go_big_quiet_op; go_big_quiet_on)
  clear d_b1 d_b2 d_b3 d_b4
  refine loose_nil' ?_
  intro v9 hb
  replace b1 := b1.ext hb
  replace b2 := b2.ext hb
  replace b3 := b3.ext hb
  replace b4 := b4.ext hb
  replace hS := hS.trans (hb.mono hS.size)
  clear hb
  have c_b1 := b1.cell
  have l_b1 := b1.lt
  have c_b2 := b2.cell
  have l_b2 := b2.lt
  have c_b3 := b3.cell
  have l_b3 := b3.lt
  have c_b4 := b4.cell
  have l_b4 := b4.lt
  go_wp2_with fail
  refine ((by have := rvalid_any p q v9; rwa [Hu.out] at this : Calls Try.prog 12 #[T2 p q] v9 fun e w' => e = .returned (.bool true) ∧ Below v9.heap.size v9 w')).mono ?_
  rintro e v10 ⟨rfl, hb⟩
  replace b1 := b1.ext hb
  replace b2 := b2.ext hb
  replace b3 := b3.ext hb
  replace b4 := b4.ext hb
  replace hS := hS.trans (hb.mono hS.size)
  clear hb
  clear c_b1 l_b1 c_b2 l_b2 c_b3 l_b3 c_b4 l_b4
  have c_b1 := b1.cell
  have l_b1 := b1.lt
  have c_b2 := b2.cell
  have l_b2 := b2.lt
  have c_b3 := b3.cell
  have l_b3 := b3.lt
  have c_b4 := b4.cell
  have l_b4 := b4.lt
  go_wp2_with fail
  clear c_b1 l_b1 c_b2 l_b2 c_b3 l_b3 c_b4 l_b4
  have d_b1 := b1.cellsP
  have d_b2 := b2.cellsP
  have d_b3 := b3.cellsP
  refine wp_region_loose_tail 9 (by kernel_rfl) (by kernel_rfl) (by kernel_rfl) ?_
  simp only [List.take_succ_cons, List.take_zero, List.drop_succ_cons, List.drop_zero]
  repeat (refine loose_quiet rfl rfl rfl ?_; intro K hK; go_big_quiet_op; go_big_quiet_on)
  (refine loose_call _ _ _ rfl rfl (fun w => by kernel_rfl) (fun w' _ => Hrt.out w') ?_; simp only [Act.put, List.setIfInBounds_toArray, List.set_cons_zero, List.set_cons_succ])
  repeat (refine loose_quiet rfl rfl rfl ?_; intro K hK; go_big_quiet_op; go_big_quiet_on)
  clear d_b1 d_b2 d_b3
  refine loose_nil' ?_
  intro v11 hb
  replace b1 := b1.ext hb
  replace b2 := b2.ext hb
  replace b3 := b3.ext hb
  replace b4 := b4.ext hb
  replace hS := hS.trans (hb.mono hS.size)
  clear hb
  go_wp2_with fail
  go_ret
  exact ⟨rfl, hS⟩
theorem turns_any (x y p q : Int) (w : World) : Calls Try.prog 3 #[T2 x y, T2 p q] w fun e w' => e = .returned (.bool true) ∧ Below w.heap.size w w' := by
  cases hv : vldB x y with
  | false => exact turns_bad x y p q w hv
  | true =>
    cases hu : vldB p q with
    | false => exact turns_mid x y p q w hv hu
    | true => exact turns_ok x y p q w hv hu
end Go.Proofs.Ytjpnijnbfjgnfaa
