/- The walks of FrameBack and FrameGroups: each returns true, whatever the turns and the point. -/
import Derived.Test.YtjpnijnbfjgnfaaO
namespace Go.Proofs.Ytjpnijnbfjgnfaa
open Go.RowKit BigFrame
theorem ptsAt_blk {w : World} {g : Nat} {p q r : Int} (h : Blk w g 37 (R3 p q r)) : PtsAt w (some ⟨g, 0, none⟩) [⟨p, q, r⟩] := by
  intro _
  refine ⟨_, _, rfl, h.lt, fun i hi => ?_⟩
  have : i = 0 := by simpa using hi
  subst this
  simp [h.cell]
theorem eql37' (a0 a1 a2 : Int) (w : World) : (binOp .eql 37 (A3 a0 a1 a2) (A3 a0 a1 a2)).run Try.prog w = .ok (.bool true) w := by
  have := eql37 a0 a1 a2 a0 a1 a2 w
  simpa using this
theorem apply_pt {t : Int × Int} (ht : t ∈ allL) {p : Pt} (hp : neP p = true) (w : World) :
    Calls Try.prog 21 #[T2 t.1 t.2, A3 p.x p.y p.z] w fun e w' => e = .returned (.tuple #[A3 (ap (mat t) p).x (ap (mat t) p).y (ap (mat t) p).z, .int .i64 0]) ∧ Below w.heap.size w w' := by
  have h := apply_ok t.1 t.2 p.x p.y p.z w (allL_vld t ht) hp
  obtain ⟨e, _⟩ := cx_ap ht hp
  rw [← e]
  exact h
theorem rdy_mem {x y : Int} {l : List Pt} (h : rdyB x y l = true) : (x, y) ∈ allL ∧ ∀ p ∈ l, neP p = true := by
  unfold rdyB at h
  simp only [Bool.and_eq_true] at h
  exact ⟨vldB_mem h.1, List.all_eq_true.1 h.2⟩
set_option maxHeartbeats 1000000 in
theorem back_no (x y p q r : Int) (w : World) (hr : rdyB x y [⟨p, q, r⟩] = false) : Calls Try.prog 5 #[T2 x y, A3 p q r] w fun e w' => e = .returned (.bool true) ∧ Below w.heap.size w w' := by
  have Hr := Lib.hid hr; clear hr
  go_enter Try.func5, Try.ntmps5
  go_wp2_with fail
  obtain ⟨W1, e, b1, b2, hS, hlt⟩ := two_new w 23 37 #[.int .i64 x, .int .i64 y] (R3 p q r)
  rw [e]; clear e hlt
  refine (awake_any _).mono ?_
  rintro e v2 ⟨rfl, hb⟩
  replace b1 := b1.ext hb
  replace b2 := b2.ext hb
  replace hS := hS.trans (hb.mono hS.size)
  clear hb
  have c_b1 := b1.cell
  have l_b1 := b1.lt
  have c_b2 := b2.cell
  have l_b2 := b2.lt
  go_wp2_with fail
  clear c_b1 l_b1 c_b2 l_b2
  obtain ⟨W3, e, b3, hb, hlt⟩ := one_new v2 37 (R3 p q r)
  rw [e]; clear e hlt
  replace b1 := b1.ext hb
  replace b2 := b2.ext hb
  replace hS := hS.trans (hb.mono hS.size)
  clear hb
  refine ((by have := ready_any x y _ 1 [⟨p, q, r⟩] W3 (by simp) (ptsAt_blk b3); rwa [Hr.out] at this : Calls Try.prog 20 #[T2 x y, .slice (some ⟨v2.heap.size, 0, none⟩) 1 1] W3 fun e w' => e = .returned (.bool false) ∧ Below W3.heap.size W3 w')).mono ?_
  rintro e v4 ⟨rfl, hb⟩
  replace b1 := b1.ext hb
  replace b2 := b2.ext hb
  replace b3 := b3.ext hb
  replace hS := hS.trans (hb.mono hS.size)
  clear hb
  go_wp2_with fail
  go_ret
  exact ⟨rfl, by first | exact hS | exact hS.alloc hS.size _⟩
set_option maxHeartbeats 2000000 in
theorem back_yes (x y p q r : Int) (w : World) (hr : rdyB x y [⟨p, q, r⟩] = true) : Calls Try.prog 5 #[T2 x y, A3 p q r] w fun e w' => e = .returned (.bool true) ∧ Below w.heap.size w w' := by
  obtain ⟨ht, hp⟩ := rdy_mem hr
  replace hp := hp _ (.head _)
  obtain ⟨⟨r1, r2⟩, hm, hf1, hf2, ht1, ht2, hmul⟩ := back_mat _ ht
  simp only at hf1 hf2 ht1 ht2
  have hv1 := allL_vld _ ht
  have hv2 := allL_vld _ hm
  have Hb := Lib.hid (fun w => (by have := back_ok x y w hv1; rwa [hf1] at this : Calls Try.prog 17 #[T2 x y] w fun e w' => e = .returned (.tuple #[T2 r1 r2, .int .i64 0]) ∧ Below w.heap.size w w'))
  have Hc := Lib.hid (fun w => (by have := back_ok r1 r2 w hv2; rwa [hf2] at this : Calls Try.prog 17 #[T2 r1 r2] w fun e w' => e = .returned (.tuple #[T2 x y, .int .i64 0]) ∧ Below w.heap.size w w'))
  have Ht := Lib.hid (fun w => (by have := then_ok x y r1 r2 w hv1 hv2; rwa [ht1, ht2] at this : Calls Try.prog 16 #[T2 x y, T2 r1 r2] w fun e w' => e = .returned (.tuple #[T2 1 2, .int .i64 0]) ∧ Below w.heap.size w w'))
  have Ha := Lib.hid (fun w => apply_pt ht hp w)
  have hp2 := (cx_ap ht hp).2
  have Hq := Lib.hid (fun w => (by have := apply_pt hm hp2 w; rwa [ap_mul, hmul, ap_one] at this : Calls Try.prog 21 #[T2 r1 r2, A3 (ap (mat (x, y)) ⟨p, q, r⟩).x (ap (mat (x, y)) ⟨p, q, r⟩).y (ap (mat (x, y)) ⟨p, q, r⟩).z] w fun e w' => e = .returned (.tuple #[A3 p q r, .int .i64 0]) ∧ Below w.heap.size w w'))
  generalize ap (mat (x, y)) ⟨p, q, r⟩ = m at *
  obtain ⟨a, b, c⟩ := m
  clear ht hp hm hf1 hf2 ht1 ht2 hmul hv1 hv2 hp2
  have Hr := Lib.hid hr; clear hr
  have e23 := eql23'
  have g23 := eqg23
  have e37 := eql37'
  have g37 := eqg37
  go_enter Try.func5, Try.ntmps5
  go_wp2_with fail
  obtain ⟨W1, e, b1, b2, hS, hlt⟩ := two_new w 23 37 #[.int .i64 x, .int .i64 y] (R3 p q r)
  rw [e]; clear e hlt
  refine (awake_any _).mono ?_
  rintro e v2 ⟨rfl, hb⟩
  replace b1 := b1.ext hb
  replace b2 := b2.ext hb
  replace hS := hS.trans (hb.mono hS.size)
  clear hb
  have c_b1 := b1.cell
  have l_b1 := b1.lt
  have c_b2 := b2.cell
  have l_b2 := b2.lt
  go_wp2_with fail
  clear c_b1 l_b1 c_b2 l_b2
  obtain ⟨W3, e, b3, hb, hlt⟩ := one_new v2 37 (R3 p q r)
  rw [e]; clear e hlt
  replace b1 := b1.ext hb
  replace b2 := b2.ext hb
  replace hS := hS.trans (hb.mono hS.size)
  clear hb
  refine ((by have := ready_any x y _ 1 [⟨p, q, r⟩] W3 (by simp) (ptsAt_blk b3); rwa [Hr.out] at this : Calls Try.prog 20 #[T2 x y, .slice (some ⟨v2.heap.size, 0, none⟩) 1 1] W3 fun e w' => e = .returned (.bool true) ∧ Below W3.heap.size W3 w')).mono ?_
  rintro e v4 ⟨rfl, hb⟩
  replace b1 := b1.ext hb
  replace b2 := b2.ext hb
  replace b3 := b3.ext hb
  replace hS := hS.trans (hb.mono hS.size)
  clear hb
  clear b3
  have c_b1 := b1.cell
  have l_b1 := b1.lt
  have c_b2 := b2.cell
  have l_b2 := b2.lt
  go_wp2_with fail
  clear c_b1 l_b1 c_b2 l_b2
  refine (Hb.out _).mono ?_
  rintro e v5 ⟨rfl, hb⟩
  replace b1 := b1.ext hb
  replace b2 := b2.ext hb
  replace hS := hS.trans (hb.mono hS.size)
  clear hb
  go_wp2_with fail
  obtain ⟨W6, e, b4, hb, hlt⟩ := one_new v5 23 #[.int .i64 r1, .int .i64 r2]
  rw [e]; clear e hlt
  replace b1 := b1.ext hb
  replace b2 := b2.ext hb
  replace hS := hS.trans (hb.mono hS.size)
  clear hb
  refine (Hc.out _).mono ?_
  rintro e v7 ⟨rfl, hb⟩
  replace b1 := b1.ext hb
  replace b2 := b2.ext hb
  replace b4 := b4.ext hb
  replace hS := hS.trans (hb.mono hS.size)
  clear hb
  have c_b1 := b1.cell
  have l_b1 := b1.lt
  have c_b2 := b2.cell
  have l_b2 := b2.lt
  go_wp2_with fail
  clear c_b1 l_b1 c_b2 l_b2
  obtain ⟨W8, e, b5, hb, hlt⟩ := one_new v7 23 #[.int .i64 x, .int .i64 y]
  rw [e]; clear e hlt
  replace b1 := b1.ext hb
  replace b2 := b2.ext hb
  replace b4 := b4.ext hb
  replace hS := hS.trans (hb.mono hS.size)
  clear hb
  refine (Ha.out _).mono ?_
  rintro e v9 ⟨rfl, hb⟩
  replace b1 := b1.ext hb
  replace b2 := b2.ext hb
  replace b4 := b4.ext hb
  replace b5 := b5.ext hb
  replace hS := hS.trans (hb.mono hS.size)
  clear hb
  have c_b4 := b4.cell
  have l_b4 := b4.lt
  go_wp2_with fail
  clear c_b4 l_b4
  obtain ⟨W10, e, b6, hb, hlt⟩ := one_new v9 37 (R3 a b c)
  rw [e]; clear e hlt
  replace b1 := b1.ext hb
  replace b2 := b2.ext hb
  replace b4 := b4.ext hb
  replace b5 := b5.ext hb
  replace hS := hS.trans (hb.mono hS.size)
  clear hb
  refine (Hq.out _).mono ?_
  rintro e v11 ⟨rfl, hb⟩
  replace b1 := b1.ext hb
  replace b2 := b2.ext hb
  replace b4 := b4.ext hb
  replace b5 := b5.ext hb
  replace b6 := b6.ext hb
  replace hS := hS.trans (hb.mono hS.size)
  clear hb
  have c_b1 := b1.cell
  have l_b1 := b1.lt
  have c_b4 := b4.cell
  have l_b4 := b4.lt
  go_wp2_with fail
  clear c_b1 l_b1 c_b4 l_b4
  obtain ⟨W12, e, b7, hb, hlt⟩ := one_new v11 37 (R3 p q r)
  rw [e]; clear e hlt
  replace b1 := b1.ext hb
  replace b2 := b2.ext hb
  replace b4 := b4.ext hb
  replace b5 := b5.ext hb
  replace b6 := b6.ext hb
  replace hS := hS.trans (hb.mono hS.size)
  clear hb
  refine (Ht.out _).mono ?_
  rintro e v13 ⟨rfl, hb⟩
  replace b1 := b1.ext hb
  replace b2 := b2.ext hb
  replace b4 := b4.ext hb
  replace b5 := b5.ext hb
  replace b6 := b6.ext hb
  replace b7 := b7.ext hb
  replace hS := hS.trans (hb.mono hS.size)
  clear hb
  have c_b1 := b1.cell
  have l_b1 := b1.lt
  have c_b2 := b2.cell
  have l_b2 := b2.lt
  have c_b5 := b5.cell
  have l_b5 := b5.lt
  have c_b7 := b7.cell
  have l_b7 := b7.lt
  go_wp2_with fail
  go_ret
  exact ⟨rfl, by first | exact hS | exact hS.alloc hS.size _⟩
theorem lawBack_any (x y p q r : Int) (w : World) : Calls Try.prog 5 #[T2 x y, A3 p q r] w fun e w' => e = .returned (.bool true) ∧ Below w.heap.size w w' := by
  cases hr : rdyB x y [⟨p, q, r⟩] with
  | false => exact back_no x y p q r w hr
  | true => exact back_yes x y p q r w hr
theorem nil_pts (w : World) : PtsAt w none [] := fun h => absurd h (by simp)
theorem valid_lit {x y : Int} (v : Bool) (h : vldB x y = v) (w : World) : Calls Try.prog 11 #[T2 x y] w fun e w' => e = .returned (.bool v) ∧ Below w.heap.size w w' := by
  have := valid_any x y w
  rwa [h] at this
set_option maxHeartbeats 1000000 in
theorem grp_no1 (a1 a2 x1 x2 c1 c2 p q r : Int) (w : World) (hr : rdyB a1 a2 [⟨p, q, r⟩] = false) : Calls Try.prog 6 #[T2 a1 a2, T2 x1 x2, T2 c1 c2, A3 p q r] w fun e w' => e = .returned (.bool true) ∧ Below w.heap.size w w' := by
  have Hr := Lib.hid hr; clear hr
  go_enter Try.func6, Try.ntmps6
  go_wp2_with fail
  obtain ⟨W1, e, b1, b2, b3, b4, hS, hlt⟩ := four_new w 23 23 23 37 #[.int .i64 a1, .int .i64 a2] #[.int .i64 x1, .int .i64 x2] #[.int .i64 c1, .int .i64 c2] (R3 p q r)
  rw [e]; clear e hlt
  refine (awake_any _).mono ?_
  rintro e v2 ⟨rfl, hb⟩
  replace b1 := b1.ext hb
  replace b2 := b2.ext hb
  replace b3 := b3.ext hb
  replace b4 := b4.ext hb
  replace hS := hS.trans (hb.mono hS.size)
  clear hb
  have c_b1 := b1.cell
  have l_b1 := b1.lt
  have c_b4 := b4.cell
  have l_b4 := b4.lt
  go_wp2_with fail
  clear c_b1 l_b1 c_b4 l_b4
  obtain ⟨W3, e, b5, hb, hlt⟩ := one_new v2 37 (R3 p q r)
  rw [e]; clear e hlt
  replace b1 := b1.ext hb
  replace b2 := b2.ext hb
  replace b3 := b3.ext hb
  replace b4 := b4.ext hb
  replace hS := hS.trans (hb.mono hS.size)
  clear hb
  refine ((by have := ready_any a1 a2 _ 1 [⟨p, q, r⟩] W3 (by simp) (ptsAt_blk b5); rwa [Hr.out] at this : Calls Try.prog 20 #[T2 a1 a2, .slice (some ⟨v2.heap.size, 0, none⟩) 1 1] W3 fun e w' => e = .returned (.bool false) ∧ Below W3.heap.size W3 w')).mono ?_
  rintro e v4 ⟨rfl, hb⟩
  replace b1 := b1.ext hb
  replace b2 := b2.ext hb
  replace b3 := b3.ext hb
  replace b4 := b4.ext hb
  replace b5 := b5.ext hb
  replace hS := hS.trans (hb.mono hS.size)
  clear hb
  go_wp2_with fail
  go_ret
  exact ⟨rfl, by first | exact hS | exact hS.alloc hS.size _⟩
set_option maxHeartbeats 1000000 in
theorem grp_no2 (a1 a2 x1 x2 c1 c2 p q r : Int) (w : World) (hr : rdyB a1 a2 [⟨p, q, r⟩] = true) (hx : rdyB x1 x2 [] = false) : Calls Try.prog 6 #[T2 a1 a2, T2 x1 x2, T2 c1 c2, A3 p q r] w fun e w' => e = .returned (.bool true) ∧ Below w.heap.size w w' := by
  have Hr := Lib.hid hr; clear hr
  have Hx := Lib.hid hx; clear hx
  go_enter Try.func6, Try.ntmps6
  go_wp2_with fail
  obtain ⟨W1, e, b1, b2, b3, b4, hS, hlt⟩ := four_new w 23 23 23 37 #[.int .i64 a1, .int .i64 a2] #[.int .i64 x1, .int .i64 x2] #[.int .i64 c1, .int .i64 c2] (R3 p q r)
  rw [e]; clear e hlt
  refine (awake_any _).mono ?_
  rintro e v2 ⟨rfl, hb⟩
  replace b1 := b1.ext hb
  replace b2 := b2.ext hb
  replace b3 := b3.ext hb
  replace b4 := b4.ext hb
  replace hS := hS.trans (hb.mono hS.size)
  clear hb
  have c_b1 := b1.cell
  have l_b1 := b1.lt
  have c_b4 := b4.cell
  have l_b4 := b4.lt
  go_wp2_with fail
  clear c_b1 l_b1 c_b4 l_b4
  obtain ⟨W3, e, b5, hb, hlt⟩ := one_new v2 37 (R3 p q r)
  rw [e]; clear e hlt
  replace b1 := b1.ext hb
  replace b2 := b2.ext hb
  replace b3 := b3.ext hb
  replace b4 := b4.ext hb
  replace hS := hS.trans (hb.mono hS.size)
  clear hb
  refine ((by have := ready_any a1 a2 _ 1 [⟨p, q, r⟩] W3 (by simp) (ptsAt_blk b5); rwa [Hr.out] at this : Calls Try.prog 20 #[T2 a1 a2, .slice (some ⟨v2.heap.size, 0, none⟩) 1 1] W3 fun e w' => e = .returned (.bool true) ∧ Below W3.heap.size W3 w')).mono ?_
  rintro e v4 ⟨rfl, hb⟩
  replace b1 := b1.ext hb
  replace b2 := b2.ext hb
  replace b3 := b3.ext hb
  replace b4 := b4.ext hb
  replace b5 := b5.ext hb
  replace hS := hS.trans (hb.mono hS.size)
  clear hb
  have c_b2 := b2.cell
  have l_b2 := b2.lt
  go_wp2_with fail
  clear c_b2 l_b2
  refine ((by have := ready_any x1 x2 none 0 [] v4 (by simp) (nil_pts _); rwa [Hx.out] at this : Calls Try.prog 20 #[T2 x1 x2, .slice none 0 0] v4 fun e w' => e = .returned (.bool false) ∧ Below v4.heap.size v4 w')).mono ?_
  rintro e v5 ⟨rfl, hb⟩
  replace b1 := b1.ext hb
  replace b2 := b2.ext hb
  replace b3 := b3.ext hb
  replace b4 := b4.ext hb
  replace b5 := b5.ext hb
  replace hS := hS.trans (hb.mono hS.size)
  clear hb
  go_wp2_with fail
  go_ret
  exact ⟨rfl, by first | exact hS | exact hS.alloc hS.size _⟩
set_option maxHeartbeats 1000000 in
theorem grp_no3 (a1 a2 x1 x2 c1 c2 p q r : Int) (w : World) (hr : rdyB a1 a2 [⟨p, q, r⟩] = true) (hx : rdyB x1 x2 [] = true) (hc : rdyB c1 c2 [] = false) : Calls Try.prog 6 #[T2 a1 a2, T2 x1 x2, T2 c1 c2, A3 p q r] w fun e w' => e = .returned (.bool true) ∧ Below w.heap.size w w' := by
  have Hr := Lib.hid hr; clear hr
  have Hx := Lib.hid hx; clear hx
  have Hc := Lib.hid hc; clear hc
  go_enter Try.func6, Try.ntmps6
  go_wp2_with fail
  obtain ⟨W1, e, b1, b2, b3, b4, hS, hlt⟩ := four_new w 23 23 23 37 #[.int .i64 a1, .int .i64 a2] #[.int .i64 x1, .int .i64 x2] #[.int .i64 c1, .int .i64 c2] (R3 p q r)
  rw [e]; clear e hlt
  refine (awake_any _).mono ?_
  rintro e v2 ⟨rfl, hb⟩
  replace b1 := b1.ext hb
  replace b2 := b2.ext hb
  replace b3 := b3.ext hb
  replace b4 := b4.ext hb
  replace hS := hS.trans (hb.mono hS.size)
  clear hb
  have c_b1 := b1.cell
  have l_b1 := b1.lt
  have c_b4 := b4.cell
  have l_b4 := b4.lt
  go_wp2_with fail
  clear c_b1 l_b1 c_b4 l_b4
  obtain ⟨W3, e, b5, hb, hlt⟩ := one_new v2 37 (R3 p q r)
  rw [e]; clear e hlt
  replace b1 := b1.ext hb
  replace b2 := b2.ext hb
  replace b3 := b3.ext hb
  replace b4 := b4.ext hb
  replace hS := hS.trans (hb.mono hS.size)
  clear hb
  refine ((by have := ready_any a1 a2 _ 1 [⟨p, q, r⟩] W3 (by simp) (ptsAt_blk b5); rwa [Hr.out] at this : Calls Try.prog 20 #[T2 a1 a2, .slice (some ⟨v2.heap.size, 0, none⟩) 1 1] W3 fun e w' => e = .returned (.bool true) ∧ Below W3.heap.size W3 w')).mono ?_
  rintro e v4 ⟨rfl, hb⟩
  replace b1 := b1.ext hb
  replace b2 := b2.ext hb
  replace b3 := b3.ext hb
  replace b4 := b4.ext hb
  replace b5 := b5.ext hb
  replace hS := hS.trans (hb.mono hS.size)
  clear hb
  have c_b2 := b2.cell
  have l_b2 := b2.lt
  go_wp2_with fail
  clear c_b2 l_b2
  refine ((by have := ready_any x1 x2 none 0 [] v4 (by simp) (nil_pts _); rwa [Hx.out] at this : Calls Try.prog 20 #[T2 x1 x2, .slice none 0 0] v4 fun e w' => e = .returned (.bool true) ∧ Below v4.heap.size v4 w')).mono ?_
  rintro e v5 ⟨rfl, hb⟩
  replace b1 := b1.ext hb
  replace b2 := b2.ext hb
  replace b3 := b3.ext hb
  replace b4 := b4.ext hb
  replace b5 := b5.ext hb
  replace hS := hS.trans (hb.mono hS.size)
  clear hb
  have c_b3 := b3.cell
  have l_b3 := b3.lt
  go_wp2_with fail
  clear c_b3 l_b3
  refine ((by have := ready_any c1 c2 none 0 [] v5 (by simp) (nil_pts _); rwa [Hc.out] at this : Calls Try.prog 20 #[T2 c1 c2, .slice none 0 0] v5 fun e w' => e = .returned (.bool false) ∧ Below v5.heap.size v5 w')).mono ?_
  rintro e v6 ⟨rfl, hb⟩
  replace b1 := b1.ext hb
  replace b2 := b2.ext hb
  replace b3 := b3.ext hb
  replace b4 := b4.ext hb
  replace b5 := b5.ext hb
  replace hS := hS.trans (hb.mono hS.size)
  clear hb
  go_wp2_with fail
  go_ret
  exact ⟨rfl, by first | exact hS | exact hS.alloc hS.size _⟩
set_option maxHeartbeats 2000000 in
theorem grp_yes (a1 a2 x1 x2 c1 c2 p q r : Int) (w : World) (hr : rdyB a1 a2 [⟨p, q, r⟩] = true) (hx : rdyB x1 x2 [] = true) (hc : rdyB c1 c2 [] = true) : Calls Try.prog 6 #[T2 a1 a2, T2 x1 x2, T2 c1 c2, A3 p q r] w fun e w' => e = .returned (.bool true) ∧ Below w.heap.size w w' := by
  obtain ⟨ma, hp⟩ := rdy_mem hr
  replace hp := hp _ (.head _)
  obtain ⟨mb, _⟩ := rdy_mem hx
  obtain ⟨mc, _⟩ := rdy_mem hc
  have axa := vldB_ax (allL_vld _ ma)
  have vab := grp_valid _ mb _ ma
  have vbc := grp_valid _ mc _ mb
  have e1 := grp_ax _ mb _ mc a1 (ax_mem axa.1)
  have e2 := grp_ax _ mb _ mc a2 (ax_mem axa.2)
  have hm := mat_then _ mb _ ma
  simp only at vab vbc e1 e2 hm
  have vx := grp_valid _ mc _ (vldB_mem vab)
  simp only at vx
  have H1 := Lib.hid (fun w => then_ok a1 a2 x1 x2 w (allL_vld _ ma) (allL_vld _ mb))
  have H2 := Lib.hid (fun w => then_ok x1 x2 c1 c2 w (allL_vld _ mb) (allL_vld _ mc))
  have H3 := Lib.hid (fun w => then_ok _ _ c1 c2 w vab (allL_vld _ mc))
  have H4 := Lib.hid (fun w => (by have := then_ok a1 a2 _ _ w (allL_vld _ ma) vbc; rwa [← e1, ← e2] at this : Calls Try.prog 16 #[T2 a1 a2, T2 (thX c1 c2 x1) (thX c1 c2 x2)] w fun e w' => e = .returned (.tuple #[T2 (thX c1 c2 (thX x1 x2 a1)) (thX c1 c2 (thX x1 x2 a2)), .int .i64 0]) ∧ Below w.heap.size w w'))
  have H5 := Lib.hid (fun w => valid_lit true vx w)
  have H6 := Lib.hid (fun w => apply_pt ma hp w)
  have hp2 := (cx_ap ma hp).2
  have H7 := Lib.hid (fun w => (by have := apply_pt mb hp2 w; rwa [ap_mul, ← hm] at this : Calls Try.prog 21 #[T2 x1 x2, A3 (ap (mat (a1, a2)) ⟨p, q, r⟩).x (ap (mat (a1, a2)) ⟨p, q, r⟩).y (ap (mat (a1, a2)) ⟨p, q, r⟩).z] w fun e w' =>
    e = .returned (.tuple #[A3 (ap (mat (thX x1 x2 a1, thX x1 x2 a2)) ⟨p, q, r⟩).x (ap (mat (thX x1 x2 a1, thX x1 x2 a2)) ⟨p, q, r⟩).y (ap (mat (thX x1 x2 a1, thX x1 x2 a2)) ⟨p, q, r⟩).z, .int .i64 0]) ∧ Below w.heap.size w w'))
  have H8 := Lib.hid (fun w => apply_pt (vldB_mem vab) hp w)
  generalize ap (mat (a1, a2)) ⟨p, q, r⟩ = m at *
  generalize ap (mat (thX x1 x2 a1, thX x1 x2 a2)) ⟨p, q, r⟩ = n at *
  generalize thX c1 c2 (thX x1 x2 a1) = y1 at *
  generalize thX c1 c2 (thX x1 x2 a2) = y2 at *
  generalize thX x1 x2 a1 = d1 at *
  generalize thX x1 x2 a2 = d2 at *
  generalize thX c1 c2 x1 = g1 at *
  generalize thX c1 c2 x2 = g2 at *
  obtain ⟨m1, m2, m3⟩ := m
  obtain ⟨n1, n2, n3⟩ := n
  clear ma hp mb mc axa vab vbc e1 e2 hm vx hp2
  have Hr := Lib.hid hr; clear hr
  have Hx := Lib.hid hx; clear hx
  have Hc := Lib.hid hc; clear hc
  have e23 := neq23'
  have g23 := eqg23
  have e37 := eql37'
  have g37 := eqg37
  go_enter Try.func6, Try.ntmps6
  go_wp2_with fail
  obtain ⟨W1, e, b1, b2, b3, b4, hS, hlt⟩ := four_new w 23 23 23 37 #[.int .i64 a1, .int .i64 a2] #[.int .i64 x1, .int .i64 x2] #[.int .i64 c1, .int .i64 c2] (R3 p q r)
  rw [e]; clear e hlt
  refine (awake_any _).mono ?_
  rintro e v2 ⟨rfl, hb⟩
  replace b1 := b1.ext hb
  replace b2 := b2.ext hb
  replace b3 := b3.ext hb
  replace b4 := b4.ext hb
  replace hS := hS.trans (hb.mono hS.size)
  clear hb
  have c_b1 := b1.cell
  have l_b1 := b1.lt
  have c_b4 := b4.cell
  have l_b4 := b4.lt
  go_wp2_with fail
  clear c_b1 l_b1 c_b4 l_b4
  obtain ⟨W3, e, b5, hb, hlt⟩ := one_new v2 37 (R3 p q r)
  rw [e]; clear e hlt
  replace b1 := b1.ext hb
  replace b2 := b2.ext hb
  replace b3 := b3.ext hb
  replace b4 := b4.ext hb
  replace hS := hS.trans (hb.mono hS.size)
  clear hb
  refine ((by have := ready_any a1 a2 _ 1 [⟨p, q, r⟩] W3 (by simp) (ptsAt_blk b5); rwa [Hr.out] at this : Calls Try.prog 20 #[T2 a1 a2, .slice (some ⟨v2.heap.size, 0, none⟩) 1 1] W3 fun e w' => e = .returned (.bool true) ∧ Below W3.heap.size W3 w')).mono ?_
  rintro e v4 ⟨rfl, hb⟩
  replace b1 := b1.ext hb
  replace b2 := b2.ext hb
  replace b3 := b3.ext hb
  replace b4 := b4.ext hb
  replace b5 := b5.ext hb
  replace hS := hS.trans (hb.mono hS.size)
  clear hb
  clear b5
  have c_b2 := b2.cell
  have l_b2 := b2.lt
  go_wp2_with fail
  clear c_b2 l_b2
  refine ((by have := ready_any x1 x2 none 0 [] v4 (by simp) (nil_pts _); rwa [Hx.out] at this : Calls Try.prog 20 #[T2 x1 x2, .slice none 0 0] v4 fun e w' => e = .returned (.bool true) ∧ Below v4.heap.size v4 w')).mono ?_
  rintro e v5 ⟨rfl, hb⟩
  replace b1 := b1.ext hb
  replace b2 := b2.ext hb
  replace b3 := b3.ext hb
  replace b4 := b4.ext hb
  replace hS := hS.trans (hb.mono hS.size)
  clear hb
  have c_b3 := b3.cell
  have l_b3 := b3.lt
  go_wp2_with fail
  clear c_b3 l_b3
  refine ((by have := ready_any c1 c2 none 0 [] v5 (by simp) (nil_pts _); rwa [Hc.out] at this : Calls Try.prog 20 #[T2 c1 c2, .slice none 0 0] v5 fun e w' => e = .returned (.bool true) ∧ Below v5.heap.size v5 w')).mono ?_
  rintro e v6 ⟨rfl, hb⟩
  replace b1 := b1.ext hb
  replace b2 := b2.ext hb
  replace b3 := b3.ext hb
  replace b4 := b4.ext hb
  replace hS := hS.trans (hb.mono hS.size)
  clear hb
  have c_b1 := b1.cell
  have l_b1 := b1.lt
  have c_b2 := b2.cell
  have l_b2 := b2.lt
  go_wp2_with fail
  clear c_b1 l_b1 c_b2 l_b2
  refine (H1.out _).mono ?_
  rintro e v7 ⟨rfl, hb⟩
  replace b1 := b1.ext hb
  replace b2 := b2.ext hb
  replace b3 := b3.ext hb
  replace b4 := b4.ext hb
  replace hS := hS.trans (hb.mono hS.size)
  clear hb
  have c_b2 := b2.cell
  have l_b2 := b2.lt
  have c_b3 := b3.cell
  have l_b3 := b3.lt
  go_wp2_with fail
  clear c_b2 l_b2 c_b3 l_b3
  obtain ⟨W8, e, b6, hb, hlt⟩ := one_new v7 23 #[.int .i64 d1, .int .i64 d2]
  rw [e]; clear e hlt
  replace b1 := b1.ext hb
  replace b2 := b2.ext hb
  replace b3 := b3.ext hb
  replace b4 := b4.ext hb
  replace hS := hS.trans (hb.mono hS.size)
  clear hb
  refine (H2.out _).mono ?_
  rintro e v9 ⟨rfl, hb⟩
  replace b1 := b1.ext hb
  replace b2 := b2.ext hb
  replace b3 := b3.ext hb
  replace b4 := b4.ext hb
  replace b6 := b6.ext hb
  replace hS := hS.trans (hb.mono hS.size)
  clear hb
  have c_b6 := b6.cell
  have l_b6 := b6.lt
  have c_b3 := b3.cell
  have l_b3 := b3.lt
  go_wp2_with fail
  clear c_b6 l_b6 c_b3 l_b3
  obtain ⟨W10, e, b7, hb, hlt⟩ := one_new v9 23 #[.int .i64 g1, .int .i64 g2]
  rw [e]; clear e hlt
  replace b1 := b1.ext hb
  replace b2 := b2.ext hb
  replace b3 := b3.ext hb
  replace b4 := b4.ext hb
  replace b6 := b6.ext hb
  replace hS := hS.trans (hb.mono hS.size)
  clear hb
  refine (H3.out _).mono ?_
  rintro e v11 ⟨rfl, hb⟩
  replace b1 := b1.ext hb
  replace b2 := b2.ext hb
  replace b3 := b3.ext hb
  replace b4 := b4.ext hb
  replace b6 := b6.ext hb
  replace b7 := b7.ext hb
  replace hS := hS.trans (hb.mono hS.size)
  clear hb
  have c_b1 := b1.cell
  have l_b1 := b1.lt
  have c_b7 := b7.cell
  have l_b7 := b7.lt
  go_wp2_with fail
  clear c_b1 l_b1 c_b7 l_b7
  obtain ⟨W12, e, b8, hb, hlt⟩ := one_new v11 23 #[.int .i64 y1, .int .i64 y2]
  rw [e]; clear e hlt
  replace b1 := b1.ext hb
  replace b2 := b2.ext hb
  replace b3 := b3.ext hb
  replace b4 := b4.ext hb
  replace b6 := b6.ext hb
  replace b7 := b7.ext hb
  replace hS := hS.trans (hb.mono hS.size)
  clear hb
  refine (H4.out _).mono ?_
  rintro e v13 ⟨rfl, hb⟩
  replace b1 := b1.ext hb
  replace b2 := b2.ext hb
  replace b3 := b3.ext hb
  replace b4 := b4.ext hb
  replace b6 := b6.ext hb
  replace b7 := b7.ext hb
  replace b8 := b8.ext hb
  replace hS := hS.trans (hb.mono hS.size)
  clear hb
  have c_b8 := b8.cell
  have l_b8 := b8.lt
  go_wp2_with fail
  clear c_b8 l_b8
  obtain ⟨W14, e, b9, hb, hlt⟩ := one_new v13 23 #[.int .i64 y1, .int .i64 y2]
  rw [e]; clear e hlt
  replace b1 := b1.ext hb
  replace b2 := b2.ext hb
  replace b3 := b3.ext hb
  replace b4 := b4.ext hb
  replace b6 := b6.ext hb
  replace b7 := b7.ext hb
  replace b8 := b8.ext hb
  replace hS := hS.trans (hb.mono hS.size)
  clear hb
  refine (H5.out _).mono ?_
  rintro e v15 ⟨rfl, hb⟩
  replace b1 := b1.ext hb
  replace b2 := b2.ext hb
  replace b3 := b3.ext hb
  replace b4 := b4.ext hb
  replace b6 := b6.ext hb
  replace b7 := b7.ext hb
  replace b8 := b8.ext hb
  replace b9 := b9.ext hb
  replace hS := hS.trans (hb.mono hS.size)
  clear hb
  have c_b1 := b1.cell
  have l_b1 := b1.lt
  have c_b4 := b4.cell
  have l_b4 := b4.lt
  go_wp2_with fail
  clear c_b1 l_b1 c_b4 l_b4
  clear b8
  clear b9
  clear b7
  clear b3
  refine (H6.out _).mono ?_
  rintro e v16 ⟨rfl, hb⟩
  replace b1 := b1.ext hb
  replace b2 := b2.ext hb
  replace b4 := b4.ext hb
  replace b6 := b6.ext hb
  replace hS := hS.trans (hb.mono hS.size)
  clear hb
  have c_b2 := b2.cell
  have l_b2 := b2.lt
  go_wp2_with fail
  clear c_b2 l_b2
  have n_b1 := b1.lt
  have n_b2 := b2.lt
  have n_b4 := b4.lt
  have n_b6 := b6.lt
  obtain ⟨W17, e, b10, hb, hlt⟩ := one_new v16 37 (R3 m1 m2 m3)
  rw [e]; clear e hlt
  replace b1 := b1.ext hb
  replace b2 := b2.ext hb
  replace b4 := b4.ext hb
  replace b6 := b6.ext hb
  replace hS := hS.trans (hb.mono hS.size)
  clear hb
  refine (H7.out _).mono ?_
  rintro e v18 ⟨rfl, hb⟩
  replace b1 := b1.ext hb
  replace b2 := b2.ext hb
  replace b4 := b4.ext hb
  replace b6 := b6.ext hb
  replace b10 := b10.ext hb
  replace hS := hS.trans (hb.mono hS.size)
  clear hb
  have c_b4 := b4.cell
  have l_b4 := b4.lt
  have c_b6 := b6.cell
  have l_b6 := b6.lt
  obtain ⟨c_b10, f_b10⟩ := b10.cells
  have l_b10 := b10.lt
  go_wp2_with fail
  clear c_b4 l_b4 c_b6 l_b6 c_b10 f_b10 l_b10
  obtain ⟨W19, e, b10, t⟩ := set_row3 b10 (.int .i64 n1) (.int .i64 n2) (.int .i64 n3)
  rw [e]; clear e
  replace b1 := b1.turned t (by omega)
  replace b2 := b2.turned t (by omega)
  replace b4 := b4.turned t (by omega)
  replace b6 := b6.turned t (by omega)
  replace hS := Turned.below hS t (by omega)
  clear t
  refine (H8.out _).mono ?_
  rintro e v20 ⟨rfl, hb⟩
  replace b1 := b1.ext hb
  replace b2 := b2.ext hb
  replace b4 := b4.ext hb
  replace b6 := b6.ext hb
  replace b10 := b10.ext hb
  replace hS := hS.trans (hb.mono hS.size)
  clear hb
  have c_b10 := b10.cell
  have l_b10 := b10.lt
  go_wp2_with fail
  go_ret
  exact ⟨rfl, by first | exact hS | exact hS.alloc hS.size _⟩
theorem lawGroups_any (a1 a2 x1 x2 c1 c2 p q r : Int) (w : World) : Calls Try.prog 6 #[T2 a1 a2, T2 x1 x2, T2 c1 c2, A3 p q r] w fun e w' => e = .returned (.bool true) ∧ Below w.heap.size w w' := by
  cases hr : rdyB a1 a2 [⟨p, q, r⟩] with
  | false => exact grp_no1 a1 a2 x1 x2 c1 c2 p q r w hr
  | true =>
    cases hx : rdyB x1 x2 [] with
    | false => exact grp_no2 a1 a2 x1 x2 c1 c2 p q r w hr hx
    | true =>
      cases hc : rdyB c1 c2 [] with
      | false => exact grp_no3 a1 a2 x1 x2 c1 c2 p q r w hr hx hc
      | true => exact grp_yes a1 a2 x1 x2 c1 c2 p q r w hr hx hc
end Go.Proofs.Ytjpnijnbfjgnfaa
