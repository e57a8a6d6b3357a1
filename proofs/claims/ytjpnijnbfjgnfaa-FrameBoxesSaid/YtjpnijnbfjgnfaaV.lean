/- The walk of FrameKeeps: it returns true, whatever the turn and the points. -/
import Derived.Test.YtjpnijnbfjgnfaaU
namespace Go.Proofs.Ytjpnijnbfjgnfaa
open Go.RowKit BigFrame
/-- The same but for a multiple of 2^64. -/
def cg (a b : Int) : Prop := ∃ k : Int, a = b + 18446744073709551616 * k
theorem cg.refl (a : Int) : cg a a := ⟨0, by omega⟩
theorem cg.w (a : Int) : cg (wrap64 a) a := ⟨-((a + 9223372036854775808) / 18446744073709551616), by unfold wrap64; omega⟩
theorem cg.trans {a b c : Int} : cg a b → cg b c → cg a c := fun ⟨k, h⟩ ⟨j, i⟩ => ⟨k + j, by rw [h, i]; omega⟩
theorem cg.ww {a b : Int} (h : cg a b) : cg (wrap64 a) b := (cg.w a).trans h
theorem cg.add {a b c d : Int} : cg a b → cg c d → cg (a + c) (b + d) := fun ⟨k, h⟩ ⟨j, i⟩ => ⟨k + j, by rw [h, i]; omega⟩
theorem cg.sub {a b c d : Int} : cg a b → cg c d → cg (a - c) (b - d) := fun ⟨k, h⟩ ⟨j, i⟩ => ⟨k - j, by rw [h, i]; omega⟩
theorem cg.mul {a b c d : Int} : cg a b → cg c d → cg (a * c) (b * d) := fun ⟨k, h⟩ ⟨j, i⟩ => ⟨b * j + k * d + 18446744073709551616 * (k * j), by rw [h, i]; grind⟩
theorem cg.wrap {a b : Int} (h : cg a b) : wrap64 a = wrap64 b := by
  obtain ⟨k, rfl⟩ := h
  unfold wrap64
  omega
def sb (p q : Pt) : Pt := ⟨p.x - q.x, p.y - q.y, p.z - q.z⟩
theorem ap_sb (m : Mt) (p q : Pt) : sb (ap m p) (ap m q) = ap m (sb p q) := by
  unfold ap sb
  simp only [Pt.mk.injEq]
  refine ⟨?_, ?_, ?_⟩ <;> grind
theorem dot_raw (a0 a1 a2 b0 b1 b2 : Int) : wrap64 (wrap64 (wrap64 (a0 * b0) + wrap64 (a1 * b1)) + wrap64 (a2 * b2)) = wrap64 (dt ⟨a0, a1, a2⟩ ⟨b0, b1, b2⟩) :=
  ((((cg.w _).add (cg.w _)).ww).add (cg.w _)).wrap
set_option maxHeartbeats 400000 in
theorem dot_any (a0 a1 a2 b0 b1 b2 : Int) (w : World) : Calls Try.prog 23 #[A3 a0 a1 a2, A3 b0 b1 b2] w fun e w' => e = .returned (.int .i64 (wrap64 (dt ⟨a0, a1, a2⟩ ⟨b0, b1, b2⟩))) ∧ Below w.heap.size w w' := by
  rw [← dot_raw]
  go_enter Try.func23, Try.ntmps23
  go_wp2
  go_ret
  exact ⟨rfl, by go_grown⟩
set_option maxHeartbeats 400000 in
theorem minus_any (a0 a1 a2 b0 b1 b2 : Int) (w : World) :
    Calls Try.prog 24 #[A3 a0 a1 a2, A3 b0 b1 b2] w fun e w' => e = .returned (A3 (wrap64 (a0 - b0)) (wrap64 (a1 - b1)) (wrap64 (a2 - b2))) ∧ Below w.heap.size w w' := by
  go_enter Try.func24, Try.ntmps24
  go_wp2
  go_returns
  exact ⟨rfl, by go_grown⟩
theorem vol_raw (a0 a1 a2 b0 b1 b2 c0 c1 c2 : Int) :
    wrap64 (wrap64 (wrap64 (a0 * wrap64 (wrap64 (b1 * c2) - wrap64 (b2 * c1))) + wrap64 (a1 * wrap64 (wrap64 (b2 * c0) - wrap64 (b0 * c2)))) + wrap64 (a2 * wrap64 (wrap64 (b0 * c1) - wrap64 (b1 * c0)))) =
    wrap64 (vol ⟨a0, a1, a2⟩ ⟨b0, b1, b2⟩ ⟨c0, c1, c2⟩) := by
  have t : ∀ a b c d e : Int, cg (wrap64 (a * wrap64 (wrap64 (b * c) - wrap64 (d * e)))) (a * (b * c - d * e)) := fun a b c d e => ((cg.refl a).mul ((cg.w _).sub (cg.w _)).ww).ww
  exact (((t _ _ _ _ _).add (t _ _ _ _ _)).ww.add (t _ _ _ _ _)).wrap
set_option maxHeartbeats 800000 in
theorem vol_any (a0 a1 a2 b0 b1 b2 c0 c1 c2 : Int) (w : World) :
    Calls Try.prog 25 #[A3 a0 a1 a2, A3 b0 b1 b2, A3 c0 c1 c2] w fun e w' => e = .returned (.int .i64 (wrap64 (vol ⟨a0, a1, a2⟩ ⟨b0, b1, b2⟩ ⟨c0, c1, c2⟩))) ∧ Below w.heap.size w w' := by
  rw [← vol_raw]
  go_enter Try.func25, Try.ntmps25
  go_wp2
  go_ret
  exact ⟨rfl, by go_grown⟩
/-- The difference's product with itself, as the code reckons it, of two points and of their images. -/
theorem dd_eq {m : Mt} (h : unitary m = true) (p q : Pt) :
    wrap64 (dt ⟨wrap64 ((ap m p).x - (ap m q).x), wrap64 ((ap m p).y - (ap m q).y), wrap64 ((ap m p).z - (ap m q).z)⟩ ⟨wrap64 ((ap m p).x - (ap m q).x), wrap64 ((ap m p).y - (ap m q).y), wrap64 ((ap m p).z - (ap m q).z)⟩) =
    wrap64 (dt ⟨wrap64 (p.x - q.x), wrap64 (p.y - q.y), wrap64 (p.z - q.z)⟩ ⟨wrap64 (p.x - q.x), wrap64 (p.y - q.y), wrap64 (p.z - q.z)⟩) := by
  have one : ∀ p q : Pt, wrap64 (dt ⟨wrap64 (p.x - q.x), wrap64 (p.y - q.y), wrap64 (p.z - q.z)⟩ ⟨wrap64 (p.x - q.x), wrap64 (p.y - q.y), wrap64 (p.z - q.z)⟩) = wrap64 (dt (sb p q) (sb p q)) := fun p q =>
    ((((cg.w _).mul (cg.w _)).add ((cg.w _).mul (cg.w _))).add ((cg.w _).mul (cg.w _))).wrap
  rw [one, one, ap_sb, ap_dt h]
def mn3 (x y z : Int) : Int := if z < (if y < x then y else x) then z else (if y < x then y else x)
def mx3 (x y z : Int) : Int := if z > (if y > x then y else x) then z else (if y > x then y else x)
theorem run_mn3 (P : Program) (w : World) (ts : Array TypeId) (t : TypeId) (x y z : Int) : (Builtin.min_ ts t #[.int .i64 x, .int .i64 y, .int .i64 z]).run P w = .ok (.int .i64 (mn3 x y z)) w := run_min_int3 w ts t .i64 .i64 .i64 x y z
theorem run_mx3 (P : Program) (w : World) (ts : Array TypeId) (t : TypeId) (x y z : Int) : (Builtin.max_ ts t #[.int .i64 x, .int .i64 y, .int .i64 z]).run P w = .ok (.int .i64 (mx3 x y z)) w := run_max_int3 w ts t .i64 .i64 .i64 x y z
attribute [local go_sem high] run_mn3 run_mx3
set_option maxHeartbeats 1000000 in
theorem keep_no (x y p0 p1 p2 q0 q1 q2 s0 s1 s2 : Int) (w : World) (hr : rdyB x y [⟨p0, p1, p2⟩, ⟨q0, q1, q2⟩, ⟨s0, s1, s2⟩] = false) : Calls Try.prog 4 #[T2 x y, A3 p0 p1 p2, A3 q0 q1 q2, A3 s0 s1 s2] w fun e w' => e = .returned (.bool true) ∧ Below w.heap.size w w' := by
  have Hr := Lib.hid hr; clear hr
  go_enter Try.func4, Try.ntmps4
  go_wp2_with fail
  obtain ⟨W1, e, b1, b2, b3, b4, hS, hlt⟩ := four_new w 23 37 37 37 #[.int .i64 x, .int .i64 y] (R3 p0 p1 p2) (R3 q0 q1 q2) (R3 s0 s1 s2)
  rw [e]; clear e hlt
  refine (awake_any _).mono ?_
  rintro e v2 ⟨rfl, hb⟩
  replace b1 := b1.ext hb
  replace b2 := b2.ext hb
  replace b3 := b3.ext hb
  replace b4 := b4.ext hb
  replace hS := hS.trans (hb.mono hS.size)
  clear hb
  have c_b1 := b1.cell
  have l_b1 := b1.lt
  have c_b2 := b2.cell
  have l_b2 := b2.lt
  have c_b3 := b3.cell
  have l_b3 := b3.lt
  have c_b4 := b4.cell
  have l_b4 := b4.lt
  go_wp2_with fail
  clear c_b1 l_b1 c_b2 l_b2 c_b3 l_b3 c_b4 l_b4
  obtain ⟨W3, e, b5, hb, hlt⟩ := one_new v2 37 #[.int .i64 p0, .int .i64 p1, .int .i64 p2, .int .i64 q0, .int .i64 q1, .int .i64 q2, .int .i64 s0, .int .i64 s1, .int .i64 s2]
  rw [e]; clear e hlt
  replace b1 := b1.ext hb
  replace b2 := b2.ext hb
  replace b3 := b3.ext hb
  replace b4 := b4.ext hb
  replace hS := hS.trans (hb.mono hS.size)
  clear hb
  refine ((by have := ready_any x y _ 3 [⟨p0, p1, p2⟩, ⟨q0, q1, q2⟩, ⟨s0, s1, s2⟩] W3 (by simp) (ptsAt3_blk b5); rwa [Hr.out] at this : Calls Try.prog 20 #[T2 x y, .slice (some ⟨v2.heap.size, 0, none⟩) 3 3] W3 fun e w' => e = .returned (.bool false) ∧ Below W3.heap.size W3 w')).mono ?_
  rintro e v4 ⟨rfl, hb⟩
  replace b1 := b1.ext hb
  replace b2 := b2.ext hb
  replace b3 := b3.ext hb
  replace b4 := b4.ext hb
  replace b5 := b5.ext hb
  replace hS := hS.trans (hb.mono hS.size)
  clear hb
  go_wp2_with fail
  go_ret
  exact ⟨rfl, by first | exact hS | exact hS.alloc hS.size _⟩
set_option maxHeartbeats 4000000 in
theorem keep_yes (x y p0 p1 p2 q0 q1 q2 s0 s1 s2 : Int) (w : World) (hr : rdyB x y [⟨p0, p1, p2⟩, ⟨q0, q1, q2⟩, ⟨s0, s1, s2⟩] = true) : Calls Try.prog 4 #[T2 x y, A3 p0 p1 p2, A3 q0 q1 q2, A3 s0 s1 s2] w fun e w' => e = .returned (.bool true) ∧ Below w.heap.size w w' := by
  obtain ⟨ht, hp⟩ := rdy_mem hr
  have np := hp _ (.head _)
  have nq := hp _ (.tail _ (.head _))
  have ns := hp _ (.tail _ (.tail _ (.head _)))
  clear hp
  have hu := mat_unitary _ ht
  have hd := mat_det _ ht
  have Ha := Lib.hid (fun w => apply_pt ht np w)
  have Hb := Lib.hid (fun w => apply_pt ht nq w)
  have Hc := Lib.hid (fun w => apply_pt ht ns w)
  have na := (cx_ap ht np).2
  have nb := (cx_ap ht nq).2
  have nc := (cx_ap ht ns).2
  have edd := dd_eq hu ⟨p0, p1, p2⟩ ⟨q0, q1, q2⟩
  have edt := ap_dt hu ⟨p0, p1, p2⟩ ⟨q0, q1, q2⟩
  have evl := ap_vol hd ⟨p0, p1, p2⟩ ⟨q0, q1, q2⟩ ⟨s0, s1, s2⟩
  generalize ap (mat (x, y)) ⟨p0, p1, p2⟩ = A at *
  generalize ap (mat (x, y)) ⟨q0, q1, q2⟩ = B at *
  generalize ap (mat (x, y)) ⟨s0, s1, s2⟩ = C at *
  obtain ⟨a0, a1, a2⟩ := A
  obtain ⟨f0, f1, f2⟩ := B
  obtain ⟨c0, c1, c2⟩ := C
  simp only at edd edt evl
  have near : ∀ {a b c : Int}, neP ⟨a, b, c⟩ = true → ∀ w, Calls Try.prog 22 #[A3 a b c] w fun e w' => e = .returned (.bool true) ∧ Below w.heap.size w w' := fun {a b c} h w => by
    have := rnear_any a b c w
    rwa [show neB a b c = true from h] at this
  have Na := Lib.hid (near na)
  have Nb := Lib.hid (near nb)
  have Nc := Lib.hid (near nc)
  have M1 := Lib.hid (minus_any a0 a1 a2 f0 f1 f2)
  have M2 := Lib.hid (minus_any p0 p1 p2 q0 q1 q2)
  have D1 := Lib.hid (dot_any (wrap64 (a0 - f0)) (wrap64 (a1 - f1)) (wrap64 (a2 - f2)) (wrap64 (a0 - f0)) (wrap64 (a1 - f1)) (wrap64 (a2 - f2)))
  have D2 := Lib.hid (dot_any (wrap64 (p0 - q0)) (wrap64 (p1 - q1)) (wrap64 (p2 - q2)) (wrap64 (p0 - q0)) (wrap64 (p1 - q1)) (wrap64 (p2 - q2)))
  have D3 := Lib.hid (dot_any a0 a1 a2 f0 f1 f2)
  have D4 := Lib.hid (dot_any p0 p1 p2 q0 q1 q2)
  have V1 := Lib.hid (vol_any a0 a1 a2 f0 f1 f2 c0 c1 c2)
  have V2 := Lib.hid (vol_any p0 p1 p2 q0 q1 q2 s0 s1 s2)
  rw [edd] at D1
  rw [edt] at D3
  rw [evl] at V1
  generalize wrap64 (dt ⟨wrap64 (p0 - q0), wrap64 (p1 - q1), wrap64 (p2 - q2)⟩ ⟨wrap64 (p0 - q0), wrap64 (p1 - q1), wrap64 (p2 - q2)⟩) = d1 at *
  generalize wrap64 (dt ⟨p0, p1, p2⟩ ⟨q0, q1, q2⟩) = d2 at *
  generalize wrap64 (vol ⟨p0, p1, p2⟩ ⟨q0, q1, q2⟩ ⟨s0, s1, s2⟩) = v at *
  generalize wrap64 (a0 - f0) = u0' at *
  generalize wrap64 (a1 - f1) = u1' at *
  generalize wrap64 (a2 - f2) = u2' at *
  generalize wrap64 (p0 - q0) = v0' at *
  generalize wrap64 (p1 - q1) = v1' at *
  generalize wrap64 (p2 - q2) = v2' at *
  clear ht np nq ns hu hd na nb nc edd edt evl near
  have Hr := Lib.hid hr; clear hr
  go_enter Try.func4, Try.ntmps4
  go_wp2_with fail
  obtain ⟨W1, e, b1, b2, b3, b4, hS, hlt⟩ := four_new w 23 37 37 37 #[.int .i64 x, .int .i64 y] (R3 p0 p1 p2) (R3 q0 q1 q2) (R3 s0 s1 s2)
  rw [e]; clear e hlt
  refine (awake_any _).mono ?_
  rintro e v2 ⟨rfl, hb⟩
  replace b1 := b1.ext hb
  replace b2 := b2.ext hb
  replace b3 := b3.ext hb
  replace b4 := b4.ext hb
  replace hS := hS.trans (hb.mono hS.size)
  clear hb
  have c_b1 := b1.cell
  have l_b1 := b1.lt
  have c_b2 := b2.cell
  have l_b2 := b2.lt
  have c_b3 := b3.cell
  have l_b3 := b3.lt
  have c_b4 := b4.cell
  have l_b4 := b4.lt
  go_wp2_with fail
  clear c_b1 l_b1 c_b2 l_b2 c_b3 l_b3 c_b4 l_b4
  obtain ⟨W3, e, b5, hb, hlt⟩ := one_new v2 37 #[.int .i64 p0, .int .i64 p1, .int .i64 p2, .int .i64 q0, .int .i64 q1, .int .i64 q2, .int .i64 s0, .int .i64 s1, .int .i64 s2]
  rw [e]; clear e hlt
  replace b1 := b1.ext hb
  replace b2 := b2.ext hb
  replace b3 := b3.ext hb
  replace b4 := b4.ext hb
  replace hS := hS.trans (hb.mono hS.size)
  clear hb
  refine ((by have := ready_any x y _ 3 [⟨p0, p1, p2⟩, ⟨q0, q1, q2⟩, ⟨s0, s1, s2⟩] W3 (by simp) (ptsAt3_blk b5); rwa [Hr.out] at this : Calls Try.prog 20 #[T2 x y, .slice (some ⟨v2.heap.size, 0, none⟩) 3 3] W3 fun e w' => e = .returned (.bool true) ∧ Below W3.heap.size W3 w')).mono ?_
  rintro e v4 ⟨rfl, hb⟩
  replace b1 := b1.ext hb
  replace b2 := b2.ext hb
  replace b3 := b3.ext hb
  replace b4 := b4.ext hb
  replace b5 := b5.ext hb
  replace hS := hS.trans (hb.mono hS.size)
  clear hb
  have c_b1 := b1.cell
  have l_b1 := b1.lt
  have c_b2 := b2.cell
  have l_b2 := b2.lt
  go_wp2_with fail
  clear c_b1 l_b1 c_b2 l_b2
  refine (Ha.out _).mono ?_
  rintro e v5 ⟨rfl, hb⟩
  replace b1 := b1.ext hb
  replace b2 := b2.ext hb
  replace b3 := b3.ext hb
  replace b4 := b4.ext hb
  replace b5 := b5.ext hb
  replace hS := hS.trans (hb.mono hS.size)
  clear hb
  have c_b1 := b1.cell
  have l_b1 := b1.lt
  have c_b3 := b3.cell
  have l_b3 := b3.lt
  go_wp2_with fail
  clear c_b1 l_b1 c_b3 l_b3
  obtain ⟨W6, e, g1, hb, hlt⟩ := one_new v5 37 (R3 a0 a1 a2)
  rw [e]; clear e hlt
  replace b1 := b1.ext hb
  replace b2 := b2.ext hb
  replace b3 := b3.ext hb
  replace b4 := b4.ext hb
  replace b5 := b5.ext hb
  replace hS := hS.trans (hb.mono hS.size)
  clear hb
  refine (Hb.out _).mono ?_
  rintro e v7 ⟨rfl, hb⟩
  replace b1 := b1.ext hb
  replace b2 := b2.ext hb
  replace b3 := b3.ext hb
  replace b4 := b4.ext hb
  replace b5 := b5.ext hb
  replace g1 := g1.ext hb
  replace hS := hS.trans (hb.mono hS.size)
  clear hb
  have c_b1 := b1.cell
  have l_b1 := b1.lt
  have c_b4 := b4.cell
  have l_b4 := b4.lt
  go_wp2_with fail
  clear c_b1 l_b1 c_b4 l_b4
  obtain ⟨W8, e, g2, hb, hlt⟩ := one_new v7 37 (R3 f0 f1 f2)
  rw [e]; clear e hlt
  replace b1 := b1.ext hb
  replace b2 := b2.ext hb
  replace b3 := b3.ext hb
  replace b4 := b4.ext hb
  replace b5 := b5.ext hb
  replace g1 := g1.ext hb
  replace hS := hS.trans (hb.mono hS.size)
  clear hb
  refine (Hc.out _).mono ?_
  rintro e v9 ⟨rfl, hb⟩
  replace b1 := b1.ext hb
  replace b2 := b2.ext hb
  replace b3 := b3.ext hb
  replace b4 := b4.ext hb
  replace b5 := b5.ext hb
  replace g1 := g1.ext hb
  replace g2 := g2.ext hb
  replace hS := hS.trans (hb.mono hS.size)
  clear hb
  have c_g1 := g1.cell
  have l_g1 := g1.lt
  go_wp2_with fail
  clear c_g1 l_g1
  obtain ⟨W10, e, g3, hb, hlt⟩ := one_new v9 37 (R3 c0 c1 c2)
  rw [e]; clear e hlt
  replace b1 := b1.ext hb
  replace b2 := b2.ext hb
  replace b3 := b3.ext hb
  replace b4 := b4.ext hb
  replace b5 := b5.ext hb
  replace g1 := g1.ext hb
  replace g2 := g2.ext hb
  replace hS := hS.trans (hb.mono hS.size)
  clear hb
  refine (Na.out _).mono ?_
  rintro e v11 ⟨rfl, hb⟩
  replace b1 := b1.ext hb
  replace b2 := b2.ext hb
  replace b3 := b3.ext hb
  replace b4 := b4.ext hb
  replace b5 := b5.ext hb
  replace g1 := g1.ext hb
  replace g2 := g2.ext hb
  replace g3 := g3.ext hb
  replace hS := hS.trans (hb.mono hS.size)
  clear hb
  have c_g2 := g2.cell
  have l_g2 := g2.lt
  go_wp2_with fail
  clear c_g2 l_g2
  refine (Nb.out _).mono ?_
  rintro e v12 ⟨rfl, hb⟩
  replace b1 := b1.ext hb
  replace b2 := b2.ext hb
  replace b3 := b3.ext hb
  replace b4 := b4.ext hb
  replace b5 := b5.ext hb
  replace g1 := g1.ext hb
  replace g2 := g2.ext hb
  replace g3 := g3.ext hb
  replace hS := hS.trans (hb.mono hS.size)
  clear hb
  have c_g3 := g3.cell
  have l_g3 := g3.lt
  go_wp2_with fail
  clear c_g3 l_g3
  refine (Nc.out _).mono ?_
  rintro e v13 ⟨rfl, hb⟩
  replace b1 := b1.ext hb
  replace b2 := b2.ext hb
  replace b3 := b3.ext hb
  replace b4 := b4.ext hb
  replace b5 := b5.ext hb
  replace g1 := g1.ext hb
  replace g2 := g2.ext hb
  replace g3 := g3.ext hb
  replace hS := hS.trans (hb.mono hS.size)
  clear hb
  go_wp2_with fail
  have d_g1 := g1.cellsP
  have d_g2 := g2.cellsP
  have d_b2 := b2.cellsP
  have d_b3 := b3.cellsP
  refine wp_region_loose (by kernel_rfl) (by kernel_rfl) ?_
  repeat (refine loose_quiet rfl rfl rfl ?_; intro K hK; go_big_quiet_op; go_big_quiet_on)
  (refine loose_call _ _ _ rfl rfl (fun w => by kernel_rfl) (fun w' _ => M1.out w') ?_; simp only [Act.put, List.setIfInBounds_toArray, List.set_cons_zero, List.set_cons_succ])
  repeat (refine loose_quiet rfl rfl rfl ?_; intro K hK; go_big_quiet_op; go_big_quiet_on)
  (refine loose_call _ _ _ rfl rfl (fun w => by kernel_rfl) (fun w' _ => M1.out w') ?_; simp only [Act.put, List.setIfInBounds_toArray, List.set_cons_zero, List.set_cons_succ])
  repeat (refine loose_quiet rfl rfl rfl ?_; intro K hK; go_big_quiet_op; go_big_quiet_on)
  (refine loose_call _ _ _ rfl rfl (fun w => by kernel_rfl) (fun w' _ => D1.out w') ?_; simp only [Act.put, List.setIfInBounds_toArray, List.set_cons_zero, List.set_cons_succ])
  repeat (refine loose_quiet rfl rfl rfl ?_; intro K hK; go_big_quiet_op; go_big_quiet_on)
  (refine loose_call _ _ _ rfl rfl (fun w => by kernel_rfl) (fun w' _ => M2.out w') ?_; simp only [Act.put, List.setIfInBounds_toArray, List.set_cons_zero, List.set_cons_succ])
  repeat (refine loose_quiet rfl rfl rfl ?_; intro K hK; go_big_quiet_op; go_big_quiet_on)
  (refine loose_call _ _ _ rfl rfl (fun w => by kernel_rfl) (fun w' _ => M2.out w') ?_; simp only [Act.put, List.setIfInBounds_toArray, List.set_cons_zero, List.set_cons_succ])
  repeat (refine loose_quiet rfl rfl rfl ?_; intro K hK; go_big_quiet_op; go_big_quiet_on)
  (refine loose_call _ _ _ rfl rfl (fun w => by kernel_rfl) (fun w' _ => D2.out w') ?_; simp only [Act.put, List.setIfInBounds_toArray, List.set_cons_zero, List.set_cons_succ])
  repeat (refine loose_quiet rfl rfl rfl ?_; intro K hK; go_big_quiet_op; go_big_quiet_on)
  (refine loose_call _ _ _ rfl rfl (fun w => by kernel_rfl) (fun w' _ => D3.out w') ?_; simp only [Act.put, List.setIfInBounds_toArray, List.set_cons_zero, List.set_cons_succ])
  repeat (refine loose_quiet rfl rfl rfl ?_; intro K hK; go_big_quiet_op; go_big_quiet_on)
  (refine loose_call _ _ _ rfl rfl (fun w => by kernel_rfl) (fun w' _ => D4.out w') ?_; simp only [Act.put, List.setIfInBounds_toArray, List.set_cons_zero, List.set_cons_succ])
  repeat (refine loose_quiet rfl rfl rfl ?_; intro K hK; go_big_quiet_op; go_big_quiet_on)
  clear d_g1 d_g2 d_b2 d_b3
  refine loose_nil' ?_
  intro v14 hb
  replace b1 := b1.ext hb
  replace b2 := b2.ext hb
  replace b3 := b3.ext hb
  replace b4 := b4.ext hb
  replace b5 := b5.ext hb
  replace g1 := g1.ext hb
  replace g2 := g2.ext hb
  replace g3 := g3.ext hb
  replace hS := hS.trans (hb.mono hS.size)
  clear hb
  have c_b2 := b2.cell
  have l_b2 := b2.lt
  have c_b3 := b3.cell
  have l_b3 := b3.lt
  have c_b4 := b4.cell
  have l_b4 := b4.lt
  go_wp2_with fail
  clear c_b2 l_b2 c_b3 l_b3 c_b4 l_b4
  obtain ⟨W15, e, b6, hb, hlt⟩ := one_new v14 37 #[.int .i64 p0, .int .i64 p1, .int .i64 p2, .int .i64 q0, .int .i64 q1, .int .i64 q2, .int .i64 s0, .int .i64 s1, .int .i64 s2]
  rw [e]; clear e hlt
  replace b1 := b1.ext hb
  replace b2 := b2.ext hb
  replace b3 := b3.ext hb
  replace b4 := b4.ext hb
  replace b5 := b5.ext hb
  replace g1 := g1.ext hb
  replace g2 := g2.ext hb
  replace g3 := g3.ext hb
  replace hS := hS.trans (hb.mono hS.size)
  clear hb
  have P6 := ptsAt3_blk b6
  go_loopw [99] (fun i wr => ∃ k : Nat, k ≤ 3 ∧ i = .int .i64 k ∧ Below W15.heap.size W15 wr) (fun i _ => 3 - (intOf i).toNat)
  case atStart => exact ⟨0, Nat.zero_le _, rfl, Below.refl _ _⟩
  case round =>
    obtain ⟨k, hk, rfl, hT⟩ := hrel
    by_cases hlt : k < 3
    · obtain ⟨b, off, e, hb, hcell⟩ := P6 (by simp)
      cases e
      obtain ⟨h0, h1, h2⟩ := hcell k hlt
      rw [← hT.cell (p := ⟨v14.heap.size, _, none⟩) hb] at h0 h1 h2
      simp only [Nat.zero_add] at h0 h1 h2
      clear hcell P6
      generalize ([⟨p0, p1, p2⟩, ⟨q0, q1, q2⟩, ⟨s0, s1, s2⟩] : List Pt)[k] = P at *
      go_wp2_with fail
      all_goals first
        | (go_ret; exact ⟨rfl, hS.trans ((hT.alloc hT.size _).mono hS.size)⟩)
        | exact ⟨⟨k + 1, by omega, by go_num, hT.alloc hT.size _⟩, by simp [intOf]; omega⟩
    · have hk3 : k = 3 := by omega
      subst hk3
      clear P6 hlt hk b5 b6
      replace b1 := b1.ext hT
      replace b2 := b2.ext hT
      replace b3 := b3.ext hT
      replace b4 := b4.ext hT
      replace g1 := g1.ext hT
      replace g2 := g2.ext hT
      replace g3 := g3.ext hT
      replace hS := hS.trans (hT.mono hS.size)
      clear hT
      go_wp2_with fail
      have d_g1 := g1.cellsP
      have d_g2 := g2.cellsP
      have d_g3 := g3.cellsP
      have d_b2 := b2.cellsP
      have d_b3 := b3.cellsP
      have d_b4 := b4.cellsP
      refine wp_region_loose_tail 11 (by kernel_rfl) (by kernel_rfl) (by kernel_rfl) ?_
      simp only [List.take_succ_cons, List.take_zero, List.drop_succ_cons, List.drop_zero]
      repeat (refine loose_quiet rfl rfl rfl ?_; intro K hK; go_big_quiet_op; go_big_quiet_on)
      (refine loose_call _ _ _ rfl rfl (fun w => by kernel_rfl) (fun w' _ => V1.out w') ?_; simp only [Act.put, List.setIfInBounds_toArray, List.set_cons_zero, List.set_cons_succ])
      repeat (refine loose_quiet rfl rfl rfl ?_; intro K hK; go_big_quiet_op; go_big_quiet_on)
      (refine loose_call _ _ _ rfl rfl (fun w => by kernel_rfl) (fun w' _ => V2.out w') ?_; simp only [Act.put, List.setIfInBounds_toArray, List.set_cons_zero, List.set_cons_succ])
      repeat (refine loose_quiet rfl rfl rfl ?_; intro K hK; go_big_quiet_op; go_big_quiet_on)
      clear d_g1 d_g2 d_g3 d_b2 d_b3 d_b4
      refine loose_nil' ?_
      intro v16 hb
      replace b1 := b1.ext hb
      replace b2 := b2.ext hb
      replace b3 := b3.ext hb
      replace b4 := b4.ext hb
      replace g1 := g1.ext hb
      replace g2 := g2.ext hb
      replace g3 := g3.ext hb
      replace hS := hS.trans (hb.mono hS.size)
      clear hb
      go_wp2_with fail
      go_ret
      exact ⟨rfl, by first | exact hS | exact hS.alloc hS.size _⟩
theorem keeps_any (x y p0 p1 p2 q0 q1 q2 s0 s1 s2 : Int) (w : World) : Calls Try.prog 4 #[T2 x y, A3 p0 p1 p2, A3 q0 q1 q2, A3 s0 s1 s2] w fun e w' => e = .returned (.bool true) ∧ Below w.heap.size w w' := by
  cases hr : rdyB x y [⟨p0, p1, p2⟩, ⟨q0, q1, q2⟩, ⟨s0, s1, s2⟩] with
  | false => exact keep_no _ _ _ _ _ _ _ _ _ _ _ w hr
  | true => exact keep_yes _ _ _ _ _ _ _ _ _ _ _ w hr
end Go.Proofs.Ytjpnijnbfjgnfaa
