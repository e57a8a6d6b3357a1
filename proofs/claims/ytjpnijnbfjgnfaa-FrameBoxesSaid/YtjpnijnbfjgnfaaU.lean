/- The walk of FrameImages: it returns true, whatever the turn, the points and the box. -/
import Derived.Test.YtjpnijnbfjgnfaaQ
import Derived.Test.YtjpnijnbfjgnfaaS
namespace Go.Proofs.Ytjpnijnbfjgnfaa
open Go.RowKit BigFrame
theorem rm_lin {a b c p q r : Int} (h : small3 a b c = true) (hp : neB p q r = true) : rm a b c p q r = a * p + b * q + c * r := by
  unfold neB wiB at hp
  simp only [Bool.and_eq_true, decide_eq_true_eq] at hp
  obtain ⟨⟨h1, h2⟩, ⟨h3, h4⟩, h5, h6⟩ := hp
  have w0 : wrap64 0 = 0 := IntWalk.wrap64_in _ (by omega)
  have wp : wrap64 p = p := IntWalk.wrap64_in _ (by omega)
  have wq : wrap64 q = q := IntWalk.wrap64_in _ (by omega)
  have wr : wrap64 r = r := IntWalk.wrap64_in _ (by omega)
  have np : wrap64 (-p) = -p := IntWalk.wrap64_in _ (by omega)
  have nq : wrap64 (-q) = -q := IntWalk.wrap64_in _ (by omega)
  have nr : wrap64 (-r) = -r := IntWalk.wrap64_in _ (by omega)
  unfold rm
  rcases small3_cases h with ⟨rfl, rfl, rfl | rfl | rfl⟩ | ⟨rfl, rfl, rfl | rfl⟩ | ⟨rfl, rfl, rfl | rfl⟩ <;> simp [w0, wp, wq, wr, np, nq, nr]
theorem cx_rx {x y p q r : Int} (hv : vldB x y = true) (hp : neB p q r = true) : Rx0 x y p q r = Cx0 x y p q r ∧ Rx1 x y p q r = Cx1 x y p q r ∧ Rx2 x y p q r = Cx2 x y p q r := by
  obtain ⟨h0, h1, h2⟩ := mat_small _ (vldB_mem hv)
  exact ⟨(rm_lin h0 hp).trans (m3_lin h0 hp).1.symm, (rm_lin h1 hp).trans (m3_lin h1 hp).1.symm, (rm_lin h2 hp).trans (m3_lin h2 hp).1.symm⟩
theorem rl_pl {a c r : Int} (h : r = c) : wrap64 (r + a) = wrap64 (a + c) := by rw [h, Int.add_comm]
def BoxIs (f : FuncId) (x y a b c l0 l1 l2 h0 h1 h2 m0 m1 m2 n0 n1 n2 k : Int) : Prop :=
  ∀ w, Calls Try.prog f #[T2 x y, A3 a b c, A6 l0 l1 l2 h0 h1 h2] w fun e w' => e = .returned (.tuple #[A6 m0 m1 m2 n0 n1 n2, .int .i64 k]) ∧ Below w.heap.size w w'
theorem box_both (x y a b c l0 l1 l2 h0 h1 h2 : Int) : ∃ m0 m1 m2 n0 n1 n2 k : Int, BoxIs 26 x y a b c l0 l1 l2 h0 h1 h2 m0 m1 m2 n0 n1 n2 k ∧ BoxIs 27 x y a b c l0 l1 l2 h0 h1 h2 m0 m1 m2 n0 n1 n2 k := by
  cases hv : vldB x y with
  | false => exact ⟨_, _, _, _, _, _, _, fun w => box_arg x y a b c l0 l1 l2 h0 h1 h2 w (.inl hv), fun w => rbox_arg x y a b c l0 l1 l2 h0 h1 h2 w (.inl hv)⟩
  | true =>
    cases hb : boxOK l0 l1 l2 h0 h1 h2 with
    | false => exact ⟨_, _, _, _, _, _, _, fun w => box_arg x y a b c l0 l1 l2 h0 h1 h2 w (.inr hb), fun w => rbox_arg x y a b c l0 l1 l2 h0 h1 h2 w (.inr hb)⟩
    | true =>
      cases n0 : neB a b c with
      | false => exact ⟨_, _, _, _, _, _, _, fun w => box_rng x y a b c l0 l1 l2 h0 h1 h2 w hv hb (by simp [near3, n0]), fun w => rbox_rng0 x y a b c l0 l1 l2 h0 h1 h2 w hv hb n0⟩
      | true =>
        cases n1 : neB l0 l1 l2 with
        | false => exact ⟨_, _, _, _, _, _, _, fun w => box_rng x y a b c l0 l1 l2 h0 h1 h2 w hv hb (by simp [near3, n1]), fun w => rbox_rng1 x y a b c l0 l1 l2 h0 h1 h2 w hv hb n0 n1⟩
        | true =>
          cases n2 : neB h0 h1 h2 with
          | false => exact ⟨_, _, _, _, _, _, _, fun w => box_rng x y a b c l0 l1 l2 h0 h1 h2 w hv hb (by simp [near3, n2]), fun w => rbox_rng2 x y a b c l0 l1 l2 h0 h1 h2 w hv hb n0 n1 n2⟩
          | true =>
            refine ⟨_, _, _, _, _, _, _, fun w => box_ok x y a b c l0 l1 l2 h0 h1 h2 w hv hb (by simp [near3, n0, n1, n2]), fun w => ?_⟩
            have key := rbox_ok x y a b c l0 l1 l2 h0 h1 h2 w hv hb n0 n1 n2
            obtain ⟨e0, e1, e2⟩ := cx_rx hv n1
            obtain ⟨f0, f1, f2⟩ := cx_rx hv n2
            unfold rl at key
            unfold pl
            rw [rl_pl e0, rl_pl e1, rl_pl e2, rl_pl f0, rl_pl f1, rl_pl f2] at key
            exact key
set_option maxRecDepth 100000 in
theorem fields50 : (Try.prog.fieldsOf 50).toList = [⟨"Lo", 37, 0, false, "", "", 0⟩, ⟨"Hi", 37, 3, false, "", "", 24⟩] := by kernel_rfl
theorem neq50 (a0 a1 a2 b0 b1 b2 : Int) (w : World) : (binOp .neq 50 (A6 a0 a1 a2 b0 b1 b2) (A6 a0 a1 a2 b0 b1 b2)).run Try.prog w = .ok (.bool false) w := by
  rw [run_neq_struct, run_equalIn_struct w 9999 50 _ _ (by kernel_rfl) (by kernel_rfl), fields50]
  simp [Op.eqFields, go_sem]
theorem eqg50 (op : BinOp) (x y : Operand) (xs ys : Array Value) (w : World) : (eqGuard op 50 x y (.agg xs) (.agg ys)).run Try.prog w = .ok () w := run_eqGuard_agg w op 50 x y xs ys (by kernel_rfl)
set_option maxHeartbeats 2000000 in
theorem img_bad (x y p q r a b c l0 l1 l2 h0 h1 h2 : Int) (w : World) (hv : vldB x y = false) : Calls Try.prog 7 #[T2 x y, A3 p q r, A3 a b c, A6 l0 l1 l2 h0 h1 h2] w fun e w' => e = .returned (.bool true) ∧ Below w.heap.size w w' := by
  obtain ⟨m0, m1, m2, n0, n1, n2, k, hB, hR⟩ := box_both x y a b c l0 l1 l2 h0 h1 h2
  unfold BoxIs at hB hR
  have Hb := Lib.hid hB; clear hB
  have Hr := Lib.hid hR; clear hR
  have Hv := Lib.hid (fun w => (by have := rvalid_any x y w; rwa [hv] at this : Calls Try.prog 12 #[T2 x y] w fun e w' => e = .returned (.bool false) ∧ Below w.heap.size w w'))
  have Ha := Lib.hid (fun w => apply_bad x y p q r w hv)
  clear hv
  have e37 := eql37'
  have g37 := eqg37
  have n50 := neq50
  have g50 := eqg50
  go_enter Try.func7, Try.ntmps7
  go_wp2_with fail
  obtain ⟨W1, e, b1, b2, b3, b4, hS, hlt⟩ := four_new w 23 37 37 50 #[.int .i64 x, .int .i64 y] (R3 p q r) (R3 a b c) (R6 l0 l1 l2 h0 h1 h2)
  rw [e]; clear e hlt
  refine (awake_any _).mono ?_
  rintro e v2 ⟨rfl, hb⟩
  replace b1 := b1.ext hb
  replace b2 := b2.ext hb
  replace b3 := b3.ext hb
  replace b4 := b4.ext hb
  replace hS := hS.trans (hb.mono hS.size)
  clear hb
  have c_b1 := b1.cell
  have l_b1 := b1.lt
  have c_b2 := b2.cell
  have l_b2 := b2.lt
  go_wp2_with fail
  clear c_b1 l_b1 c_b2 l_b2
  refine (Ha.out _).mono ?_
  rintro e v3 ⟨rfl, hb⟩
  replace b1 := b1.ext hb
  replace b2 := b2.ext hb
  replace b3 := b3.ext hb
  replace b4 := b4.ext hb
  replace hS := hS.trans (hb.mono hS.size)
  clear hb
  have c_b1 := b1.cell
  have l_b1 := b1.lt
  have c_b3 := b3.cell
  have l_b3 := b3.lt
  have c_b4 := b4.cell
  have l_b4 := b4.lt
  go_wp2_with fail
  clear c_b1 l_b1 c_b3 l_b3 c_b4 l_b4
  obtain ⟨W4, e, b5, hb, hlt⟩ := one_new v3 37 (R3 0 0 0)
  rw [e]; clear e hlt
  replace b1 := b1.ext hb
  replace b2 := b2.ext hb
  replace b3 := b3.ext hb
  replace b4 := b4.ext hb
  replace hS := hS.trans (hb.mono hS.size)
  clear hb
  refine (Hb.out _).mono ?_
  rintro e v5 ⟨rfl, hb⟩
  replace b1 := b1.ext hb
  replace b2 := b2.ext hb
  replace b3 := b3.ext hb
  replace b4 := b4.ext hb
  replace b5 := b5.ext hb
  replace hS := hS.trans (hb.mono hS.size)
  clear hb
  have c_b1 := b1.cell
  have l_b1 := b1.lt
  have c_b3 := b3.cell
  have l_b3 := b3.lt
  have c_b4 := b4.cell
  have l_b4 := b4.lt
  go_wp2_with fail
  clear c_b1 l_b1 c_b3 l_b3 c_b4 l_b4
  obtain ⟨W6, e, b6, hb, hlt⟩ := one_new v5 50 (R6 m0 m1 m2 n0 n1 n2)
  rw [e]; clear e hlt
  replace b1 := b1.ext hb
  replace b2 := b2.ext hb
  replace b3 := b3.ext hb
  replace b4 := b4.ext hb
  replace b5 := b5.ext hb
  replace hS := hS.trans (hb.mono hS.size)
  clear hb
  refine (Hr.out _).mono ?_
  rintro e v7 ⟨rfl, hb⟩
  replace b1 := b1.ext hb
  replace b2 := b2.ext hb
  replace b3 := b3.ext hb
  replace b4 := b4.ext hb
  replace b5 := b5.ext hb
  replace b6 := b6.ext hb
  replace hS := hS.trans (hb.mono hS.size)
  clear hb
  have c_b1 := b1.cell
  have l_b1 := b1.lt
  have c_b6 := b6.cell
  have l_b6 := b6.lt
  go_wp2_with fail
  clear c_b1 l_b1 c_b6 l_b6
  obtain ⟨W8, e, b7, hb, hlt⟩ := one_new v7 50 (R6 m0 m1 m2 n0 n1 n2)
  rw [e]; clear e hlt
  replace b1 := b1.ext hb
  replace b2 := b2.ext hb
  replace b3 := b3.ext hb
  replace b4 := b4.ext hb
  replace b5 := b5.ext hb
  replace b6 := b6.ext hb
  replace hS := hS.trans (hb.mono hS.size)
  clear hb
  refine (Hv.out _).mono ?_
  rintro e v9 ⟨rfl, hb⟩
  replace b1 := b1.ext hb
  replace b2 := b2.ext hb
  replace b3 := b3.ext hb
  replace b4 := b4.ext hb
  replace b5 := b5.ext hb
  replace b6 := b6.ext hb
  replace b7 := b7.ext hb
  replace hS := hS.trans (hb.mono hS.size)
  clear hb
  have c_b5 := b5.cell
  have l_b5 := b5.lt
  go_wp2_with fail
  go_ret
  exact ⟨rfl, by first | exact hS | exact hS.alloc hS.size _⟩
set_option maxHeartbeats 2000000 in
theorem img_far (x y p q r a b c l0 l1 l2 h0 h1 h2 : Int) (w : World) (hv : vldB x y = true) (hp : neB p q r = false) : Calls Try.prog 7 #[T2 x y, A3 p q r, A3 a b c, A6 l0 l1 l2 h0 h1 h2] w fun e w' => e = .returned (.bool true) ∧ Below w.heap.size w w' := by
  obtain ⟨m0, m1, m2, n0, n1, n2, k, hB, hR⟩ := box_both x y a b c l0 l1 l2 h0 h1 h2
  unfold BoxIs at hB hR
  have Hb := Lib.hid hB; clear hB
  have Hr := Lib.hid hR; clear hR
  have Hv := Lib.hid (fun w => (by have := rvalid_any x y w; rwa [hv] at this : Calls Try.prog 12 #[T2 x y] w fun e w' => e = .returned (.bool true) ∧ Below w.heap.size w w'))
  have Hn := Lib.hid (fun w => (by have := rnear_any p q r w; rwa [hp] at this : Calls Try.prog 22 #[A3 p q r] w fun e w' => e = .returned (.bool false) ∧ Below w.heap.size w w'))
  have Ha := Lib.hid (fun w => apply_far x y p q r w hv hp)
  clear hp
  clear hv
  have e37 := eql37'
  have g37 := eqg37
  have n50 := neq50
  have g50 := eqg50
  go_enter Try.func7, Try.ntmps7
  go_wp2_with fail
  obtain ⟨W1, e, b1, b2, b3, b4, hS, hlt⟩ := four_new w 23 37 37 50 #[.int .i64 x, .int .i64 y] (R3 p q r) (R3 a b c) (R6 l0 l1 l2 h0 h1 h2)
  rw [e]; clear e hlt
  refine (awake_any _).mono ?_
  rintro e v2 ⟨rfl, hb⟩
  replace b1 := b1.ext hb
  replace b2 := b2.ext hb
  replace b3 := b3.ext hb
  replace b4 := b4.ext hb
  replace hS := hS.trans (hb.mono hS.size)
  clear hb
  have c_b1 := b1.cell
  have l_b1 := b1.lt
  have c_b2 := b2.cell
  have l_b2 := b2.lt
  go_wp2_with fail
  clear c_b1 l_b1 c_b2 l_b2
  refine (Ha.out _).mono ?_
  rintro e v3 ⟨rfl, hb⟩
  replace b1 := b1.ext hb
  replace b2 := b2.ext hb
  replace b3 := b3.ext hb
  replace b4 := b4.ext hb
  replace hS := hS.trans (hb.mono hS.size)
  clear hb
  have c_b1 := b1.cell
  have l_b1 := b1.lt
  have c_b3 := b3.cell
  have l_b3 := b3.lt
  have c_b4 := b4.cell
  have l_b4 := b4.lt
  go_wp2_with fail
  clear c_b1 l_b1 c_b3 l_b3 c_b4 l_b4
  obtain ⟨W4, e, b5, hb, hlt⟩ := one_new v3 37 (R3 0 0 0)
  rw [e]; clear e hlt
  replace b1 := b1.ext hb
  replace b2 := b2.ext hb
  replace b3 := b3.ext hb
  replace b4 := b4.ext hb
  replace hS := hS.trans (hb.mono hS.size)
  clear hb
  refine (Hb.out _).mono ?_
  rintro e v5 ⟨rfl, hb⟩
  replace b1 := b1.ext hb
  replace b2 := b2.ext hb
  replace b3 := b3.ext hb
  replace b4 := b4.ext hb
  replace b5 := b5.ext hb
  replace hS := hS.trans (hb.mono hS.size)
  clear hb
  have c_b1 := b1.cell
  have l_b1 := b1.lt
  have c_b3 := b3.cell
  have l_b3 := b3.lt
  have c_b4 := b4.cell
  have l_b4 := b4.lt
  go_wp2_with fail
  clear c_b1 l_b1 c_b3 l_b3 c_b4 l_b4
  obtain ⟨W6, e, b6, hb, hlt⟩ := one_new v5 50 (R6 m0 m1 m2 n0 n1 n2)
  rw [e]; clear e hlt
  replace b1 := b1.ext hb
  replace b2 := b2.ext hb
  replace b3 := b3.ext hb
  replace b4 := b4.ext hb
  replace b5 := b5.ext hb
  replace hS := hS.trans (hb.mono hS.size)
  clear hb
  refine (Hr.out _).mono ?_
  rintro e v7 ⟨rfl, hb⟩
  replace b1 := b1.ext hb
  replace b2 := b2.ext hb
  replace b3 := b3.ext hb
  replace b4 := b4.ext hb
  replace b5 := b5.ext hb
  replace b6 := b6.ext hb
  replace hS := hS.trans (hb.mono hS.size)
  clear hb
  have c_b1 := b1.cell
  have l_b1 := b1.lt
  have c_b6 := b6.cell
  have l_b6 := b6.lt
  go_wp2_with fail
  clear c_b1 l_b1 c_b6 l_b6
  obtain ⟨W8, e, b7, hb, hlt⟩ := one_new v7 50 (R6 m0 m1 m2 n0 n1 n2)
  rw [e]; clear e hlt
  replace b1 := b1.ext hb
  replace b2 := b2.ext hb
  replace b3 := b3.ext hb
  replace b4 := b4.ext hb
  replace b5 := b5.ext hb
  replace b6 := b6.ext hb
  replace hS := hS.trans (hb.mono hS.size)
  clear hb
  refine (Hv.out _).mono ?_
  rintro e v9 ⟨rfl, hb⟩
  replace b1 := b1.ext hb
  replace b2 := b2.ext hb
  replace b3 := b3.ext hb
  replace b4 := b4.ext hb
  replace b5 := b5.ext hb
  replace b6 := b6.ext hb
  replace b7 := b7.ext hb
  replace hS := hS.trans (hb.mono hS.size)
  clear hb
  have c_b2 := b2.cell
  have l_b2 := b2.lt
  go_wp2_with fail
  clear c_b2 l_b2
  refine (Hn.out _).mono ?_
  rintro e v10 ⟨rfl, hb⟩
  replace b1 := b1.ext hb
  replace b2 := b2.ext hb
  replace b3 := b3.ext hb
  replace b4 := b4.ext hb
  replace b5 := b5.ext hb
  replace b6 := b6.ext hb
  replace b7 := b7.ext hb
  replace hS := hS.trans (hb.mono hS.size)
  clear hb
  have c_b5 := b5.cell
  have l_b5 := b5.lt
  go_wp2_with fail
  go_ret
  exact ⟨rfl, by first | exact hS | exact hS.alloc hS.size _⟩
set_option maxHeartbeats 2000000 in
theorem img_ok (x y p q r a b c l0 l1 l2 h0 h1 h2 : Int) (w : World) (hv : vldB x y = true) (hp : neB p q r = true) : Calls Try.prog 7 #[T2 x y, A3 p q r, A3 a b c, A6 l0 l1 l2 h0 h1 h2] w fun e w' => e = .returned (.bool true) ∧ Below w.heap.size w w' := by
  obtain ⟨m0, m1, m2, n0, n1, n2, k, hB, hR⟩ := box_both x y a b c l0 l1 l2 h0 h1 h2
  unfold BoxIs at hB hR
  have Hb := Lib.hid hB; clear hB
  have Hr := Lib.hid hR; clear hR
  have Hv := Lib.hid (fun w => (by have := rvalid_any x y w; rwa [hv] at this : Calls Try.prog 12 #[T2 x y] w fun e w' => e = .returned (.bool true) ∧ Below w.heap.size w w'))
  have Hn := Lib.hid (fun w => (by have := rnear_any p q r w; rwa [hp] at this : Calls Try.prog 22 #[A3 p q r] w fun e w' => e = .returned (.bool true) ∧ Below w.heap.size w w'))
  obtain ⟨e0, e1, e2⟩ := cx_rx hv hp
  have Ha := Lib.hid (fun w => apply_ok x y p q r w hv hp)
  have hax := vldB_ax hv
  have Hi := Lib.hid (fun w => (by have := rimage_any x y p q r w hax.1 hax.2; rwa [e0, e1, e2] at this : Calls Try.prog 28 #[T2 x y, A3 p q r] w fun e w' => e = .returned (A3 (Cx0 x y p q r) (Cx1 x y p q r) (Cx2 x y p q r)) ∧ Below w.heap.size w w'))
  generalize Cx0 x y p q r = c0 at *
  generalize Cx1 x y p q r = c1 at *
  generalize Cx2 x y p q r = c2 at *
  clear e0 e1 e2 hax hp
  clear hv
  have e37 := eql37'
  have g37 := eqg37
  have n50 := neq50
  have g50 := eqg50
  go_enter Try.func7, Try.ntmps7
  go_wp2_with fail
  obtain ⟨W1, e, b1, b2, b3, b4, hS, hlt⟩ := four_new w 23 37 37 50 #[.int .i64 x, .int .i64 y] (R3 p q r) (R3 a b c) (R6 l0 l1 l2 h0 h1 h2)
  rw [e]; clear e hlt
  refine (awake_any _).mono ?_
  rintro e v2 ⟨rfl, hb⟩
  replace b1 := b1.ext hb
  replace b2 := b2.ext hb
  replace b3 := b3.ext hb
  replace b4 := b4.ext hb
  replace hS := hS.trans (hb.mono hS.size)
  clear hb
  have c_b1 := b1.cell
  have l_b1 := b1.lt
  have c_b2 := b2.cell
  have l_b2 := b2.lt
  go_wp2_with fail
  clear c_b1 l_b1 c_b2 l_b2
  refine (Ha.out _).mono ?_
  rintro e v3 ⟨rfl, hb⟩
  replace b1 := b1.ext hb
  replace b2 := b2.ext hb
  replace b3 := b3.ext hb
  replace b4 := b4.ext hb
  replace hS := hS.trans (hb.mono hS.size)
  clear hb
  have c_b1 := b1.cell
  have l_b1 := b1.lt
  have c_b3 := b3.cell
  have l_b3 := b3.lt
  have c_b4 := b4.cell
  have l_b4 := b4.lt
  go_wp2_with fail
  clear c_b1 l_b1 c_b3 l_b3 c_b4 l_b4
  obtain ⟨W4, e, b5, hb, hlt⟩ := one_new v3 37 (R3 c0 c1 c2)
  rw [e]; clear e hlt
  replace b1 := b1.ext hb
  replace b2 := b2.ext hb
  replace b3 := b3.ext hb
  replace b4 := b4.ext hb
  replace hS := hS.trans (hb.mono hS.size)
  clear hb
  refine (Hb.out _).mono ?_
  rintro e v5 ⟨rfl, hb⟩
  replace b1 := b1.ext hb
  replace b2 := b2.ext hb
  replace b3 := b3.ext hb
  replace b4 := b4.ext hb
  replace b5 := b5.ext hb
  replace hS := hS.trans (hb.mono hS.size)
  clear hb
  have c_b1 := b1.cell
  have l_b1 := b1.lt
  have c_b3 := b3.cell
  have l_b3 := b3.lt
  have c_b4 := b4.cell
  have l_b4 := b4.lt
  go_wp2_with fail
  clear c_b1 l_b1 c_b3 l_b3 c_b4 l_b4
  obtain ⟨W6, e, b6, hb, hlt⟩ := one_new v5 50 (R6 m0 m1 m2 n0 n1 n2)
  rw [e]; clear e hlt
  replace b1 := b1.ext hb
  replace b2 := b2.ext hb
  replace b3 := b3.ext hb
  replace b4 := b4.ext hb
  replace b5 := b5.ext hb
  replace hS := hS.trans (hb.mono hS.size)
  clear hb
  refine (Hr.out _).mono ?_
  rintro e v7 ⟨rfl, hb⟩
  replace b1 := b1.ext hb
  replace b2 := b2.ext hb
  replace b3 := b3.ext hb
  replace b4 := b4.ext hb
  replace b5 := b5.ext hb
  replace b6 := b6.ext hb
  replace hS := hS.trans (hb.mono hS.size)
  clear hb
  have c_b1 := b1.cell
  have l_b1 := b1.lt
  have c_b6 := b6.cell
  have l_b6 := b6.lt
  go_wp2_with fail
  clear c_b1 l_b1 c_b6 l_b6
  obtain ⟨W8, e, b7, hb, hlt⟩ := one_new v7 50 (R6 m0 m1 m2 n0 n1 n2)
  rw [e]; clear e hlt
  replace b1 := b1.ext hb
  replace b2 := b2.ext hb
  replace b3 := b3.ext hb
  replace b4 := b4.ext hb
  replace b5 := b5.ext hb
  replace b6 := b6.ext hb
  replace hS := hS.trans (hb.mono hS.size)
  clear hb
  refine (Hv.out _).mono ?_
  rintro e v9 ⟨rfl, hb⟩
  replace b1 := b1.ext hb
  replace b2 := b2.ext hb
  replace b3 := b3.ext hb
  replace b4 := b4.ext hb
  replace b5 := b5.ext hb
  replace b6 := b6.ext hb
  replace b7 := b7.ext hb
  replace hS := hS.trans (hb.mono hS.size)
  clear hb
  have c_b2 := b2.cell
  have l_b2 := b2.lt
  go_wp2_with fail
  clear c_b2 l_b2
  refine (Hn.out _).mono ?_
  rintro e v10 ⟨rfl, hb⟩
  replace b1 := b1.ext hb
  replace b2 := b2.ext hb
  replace b3 := b3.ext hb
  replace b4 := b4.ext hb
  replace b5 := b5.ext hb
  replace b6 := b6.ext hb
  replace b7 := b7.ext hb
  replace hS := hS.trans (hb.mono hS.size)
  clear hb
  have dummy := trivial
  have c_b5 := b5.cell
  have l_b5 := b5.lt
  have c_b1 := b1.cell
  have l_b1 := b1.lt
  have c_b2 := b2.cell
  have l_b2 := b2.lt
  go_wp2_with fail
  clear c_b5 l_b5 c_b1 l_b1 c_b2 l_b2
  have d_b1 := b1.cellsP
  have d_b2 := b2.cellsP
  have d_b5 := b5.cellsP
  refine wp_region_loose_tail 9 (by kernel_rfl) (by kernel_rfl) (by kernel_rfl) ?_
  simp only [List.take_succ_cons, List.take_zero, List.drop_succ_cons, List.drop_zero]
  repeat (refine loose_quiet rfl rfl rfl ?_; intro K hK; go_big_quiet_op; go_big_quiet_on)
  (refine loose_call _ _ _ rfl rfl (fun w => by kernel_rfl) (fun w' _ => Hi.out w') ?_; simp only [Act.put, List.setIfInBounds_toArray, List.set_cons_zero, List.set_cons_succ])
  repeat (refine loose_quiet rfl rfl rfl ?_; intro K hK; go_big_quiet_op; go_big_quiet_on)
  clear d_b1 d_b2 d_b5
  refine loose_nil' ?_
  intro v11 hb
  replace b1 := b1.ext hb
  replace b2 := b2.ext hb
  replace b3 := b3.ext hb
  replace b4 := b4.ext hb
  replace b5 := b5.ext hb
  replace b6 := b6.ext hb
  replace b7 := b7.ext hb
  replace hS := hS.trans (hb.mono hS.size)
  clear hb
  go_wp2_with fail
  go_ret
  exact ⟨rfl, by first | exact hS | exact hS.alloc hS.size _⟩
theorem images_any (x y p q r a b c l0 l1 l2 h0 h1 h2 : Int) (w : World) : Calls Try.prog 7 #[T2 x y, A3 p q r, A3 a b c, A6 l0 l1 l2 h0 h1 h2] w fun e w' => e = .returned (.bool true) ∧ Below w.heap.size w w' := by
  cases hv : vldB x y with
  | false => exact img_bad _ _ _ _ _ _ _ _ _ _ _ _ _ _ w hv
  | true =>
    cases hp : neB p q r with
    | false => exact img_far _ _ _ _ _ _ _ _ _ _ _ _ _ _ w hv hp
    | true => exact img_ok _ _ _ _ _ _ _ _ _ _ _ _ _ _ w hv hp
end Go.Proofs.Ytjpnijnbfjgnfaa
