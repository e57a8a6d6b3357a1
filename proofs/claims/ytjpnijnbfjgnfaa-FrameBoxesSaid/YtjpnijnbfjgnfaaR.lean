/- Contracts: placed, Box, the reference's order and Box. -/
import Derived.Test.YtjpnijnbfjgnfaaQ
namespace Go.Proofs.Ytjpnijnbfjgnfaa
open Go.RowKit BigFrame
abbrev A6 (a b c d e f : Int) : Value := .agg #[.int .i64 a, .int .i64 b, .int .i64 c, .int .i64 d, .int .i64 e, .int .i64 f]
abbrev R6 (a b c d e f : Int) : Array Value := #[.int .i64 a, .int .i64 b, .int .i64 c, .int .i64 d, .int .i64 e, .int .i64 f]
set_option maxHeartbeats 1000000 in
theorem placed_any (x y a b c p q r : Int) (w : World) (hx : axB x = true) (hy : axB y = true) :
    Calls Try.prog 46 #[T2 x y, A3 a b c, A3 p q r] w fun e w' => e = .returned (A3 (wrap64 (a + Cx0 x y p q r)) (wrap64 (b + Cx1 x y p q r)) (wrap64 (c + Cx2 x y p q r))) ∧ Below w.heap.size w w' := by
  have Hx := Lib.hid hx; clear hx
  have Hy := Lib.hid hy; clear hy
  have Hi := Lib.hid (fun w => image_any x y p q r w Hx.out Hy.out)
  unfold Cx0 Cx1 Cx2 at *
  generalize m3 (u0 x) (u0 y) (k0 x y) p q r = m0 at *
  generalize m3 (u1 x) (u1 y) (k1 x y) p q r = m1 at *
  generalize m3 (u2 x) (u2 y) (k2 x y) p q r = m2 at *
  go_enter Try.func46, Try.ntmps46
  go_wp2_with fail
  obtain ⟨W1, e, b1, b2, b3, b4, hS, hlt⟩ := four_new w 23 37 37 37 #[.int .i64 x, .int .i64 y] (R3 a b c) (R3 p q r) (R3 0 0 0)
  rw [e]; clear e hlt
  refine (Hi.out _).mono ?_
  rintro e v2 ⟨rfl, hb⟩
  replace b1 := b1.ext hb
  replace b2 := b2.ext hb
  replace b3 := b3.ext hb
  replace b4 := b4.ext hb
  replace hS := hS.trans (hb.mono hS.size)
  clear hb
  have c_b2 := b2.cell
  have l_b2 := b2.lt
  obtain ⟨c_b4, f_b4⟩ := b4.cells
  have l_b4 := b4.lt
  go_wp2_with fail
  clear c_b2 l_b2 c_b4 f_b4 l_b4
  obtain ⟨W, e, b4, t⟩ := set_row3 b4 (.int .i64 (wrap64 (a + m0))) (.int .i64 (wrap64 (b + m1))) (.int .i64 (wrap64 (c + m2)))
  rw [e]
  replace hS := Turned.below hS t (by omega)
  exact bodyPost_ret (results_cell_row Try.results46 _ _ (w.heap.size + 1 + 1 + 1) 37 _ (0, 0) _ rfl (b4.alloc _) Try.underlying37 rfl (by kernel_rfl)) rfl ⟨rfl, hS.alloc hS.size _⟩
def boxOK (a b c d e f : Int) : Bool := decide (a ≤ d ∧ b ≤ e ∧ c ≤ f)
theorem ptsAt3_blk {w : World} {g : Nat} {a b c d e f p q r : Int} (h : Blk w g 37 #[.int .i64 a, .int .i64 b, .int .i64 c, .int .i64 d, .int .i64 e, .int .i64 f, .int .i64 p, .int .i64 q, .int .i64 r]) : PtsAt w (some ⟨g, 0, none⟩) [⟨a, b, c⟩, ⟨d, e, f⟩, ⟨p, q, r⟩] := by
  intro _
  refine ⟨_, _, rfl, h.lt, fun i hi => ?_⟩
  have : i = 0 ∨ i = 1 ∨ i = 2 := by simp at hi; omega
  rcases this with rfl | rfl | rfl <;> simp [h.cell]
set_option maxHeartbeats 1000000 in
theorem box_arg (x y a b c l0 l1 l2 h0 h1 h2 : Int) (w : World) (hv : vldB x y = false ∨ boxOK l0 l1 l2 h0 h1 h2 = false) :
    Calls Try.prog 26 #[T2 x y, A3 a b c, A6 l0 l1 l2 h0 h1 h2] w fun e w' => e = .returned (.tuple #[A6 0 0 0 0 0 0, .int .i64 1]) ∧ Below w.heap.size w w' := by
  have Hv := Lib.hid hv; clear hv
  go_enter Try.func26, Try.ntmps26
  go_wp2_with fail
  obtain ⟨W1, e, b1, b2, b3, b4, hS, hlt⟩ := four_new w 23 37 50 50 #[.int .i64 x, .int .i64 y] (R3 a b c) (R6 l0 l1 l2 h0 h1 h2) (R6 0 0 0 0 0 0)
  rw [e]; clear e hlt
  cases hv : vldB x y with
  | false =>
    refine ((by have := valid_any x y W1; rwa [hv] at this : Calls Try.prog 11 #[T2 x y] W1 fun e w' => e = .returned (.bool false) ∧ Below W1.heap.size W1 w')).mono ?_
    rintro e v1 ⟨rfl, hb⟩
    replace b1 := b1.ext hb
    replace b2 := b2.ext hb
    replace b3 := b3.ext hb
    replace b4 := b4.ext hb
    replace hS := hS.trans (hb.mono hS.size)
    clear hb
    clear hv
    obtain ⟨c_b4, f_b4⟩ := b4.cells
    have l_b4 := b4.lt
    go_wp2_with fail
    obtain ⟨W, e, b4, t⟩ := set_row6 b4 (.int .i64 0) (.int .i64 0) (.int .i64 0) (.int .i64 0) (.int .i64 0) (.int .i64 0)
    rw [e]
    exact bodyPost_ret (results_cell_row_tmp Try.results26 _ _ (w.heap.size + 1 + 1 + 1) 50 _ (0, 0) _ rfl b4 Try.underlying50 rfl (by kernel_rfl)) rfl ⟨rfl, Turned.below hS t (by omega)⟩
  | true =>
    refine ((by have := valid_any x y W1; rwa [hv] at this : Calls Try.prog 11 #[T2 x y] W1 fun e w' => e = .returned (.bool true) ∧ Below W1.heap.size W1 w')).mono ?_
    rintro e v1 ⟨rfl, hb⟩
    replace b1 := b1.ext hb
    replace b2 := b2.ext hb
    replace b3 := b3.ext hb
    replace b4 := b4.ext hb
    replace hS := hS.trans (hb.mono hS.size)
    clear hb
    have hv0 := hv
    clear hv
    have c_b3 := b3.cell
    have l_b3 := b3.lt
    obtain ⟨c_b4, f_b4⟩ := b4.cells
    have l_b4 := b4.lt
    have hbox : ¬(l0 ≤ h0 ∧ l1 ≤ h1 ∧ l2 ≤ h2) := by
      have := Hv.out.resolve_left (by simp [hv0])
      exact of_decide_eq_false this
    by_cases q1 : l0 ≤ h0
    · by_cases q2 : l1 ≤ h1
      · have q3 : ¬ l2 ≤ h2 := fun h => hbox ⟨q1, q2, h⟩
        clear hbox hv0
        go_wp2_with fail
        obtain ⟨W, e, b4, t⟩ := set_row6 b4 (.int .i64 0) (.int .i64 0) (.int .i64 0) (.int .i64 0) (.int .i64 0) (.int .i64 0)
        rw [e]
        exact bodyPost_ret (results_cell_row_tmp Try.results26 _ _ (w.heap.size + 1 + 1 + 1) 50 _ (0, 0) _ rfl b4 Try.underlying50 rfl (by kernel_rfl)) rfl ⟨rfl, Turned.below hS t (by omega)⟩
      · clear hbox hv0
        go_wp2_with fail
        obtain ⟨W, e, b4, t⟩ := set_row6 b4 (.int .i64 0) (.int .i64 0) (.int .i64 0) (.int .i64 0) (.int .i64 0) (.int .i64 0)
        rw [e]
        exact bodyPost_ret (results_cell_row_tmp Try.results26 _ _ (w.heap.size + 1 + 1 + 1) 50 _ (0, 0) _ rfl b4 Try.underlying50 rfl (by kernel_rfl)) rfl ⟨rfl, Turned.below hS t (by omega)⟩
    · clear hbox hv0
      go_wp2_with fail
      obtain ⟨W, e, b4, t⟩ := set_row6 b4 (.int .i64 0) (.int .i64 0) (.int .i64 0) (.int .i64 0) (.int .i64 0) (.int .i64 0)
      rw [e]
      exact bodyPost_ret (results_cell_row_tmp Try.results26 _ _ (w.heap.size + 1 + 1 + 1) 50 _ (0, 0) _ rfl b4 Try.underlying50 rfl (by kernel_rfl)) rfl ⟨rfl, Turned.below hS t (by omega)⟩
end Go.Proofs.Ytjpnijnbfjgnfaa
