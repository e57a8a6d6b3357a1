/- Contracts of the package frame: what each call returns, and that it leaves what was there as it was: image. -/
import Derived.Test.YtjpnijnbfjgnfaaB
namespace Go.Proofs.Ytjpnijnbfjgnfaa
open Go.RowKit BigFrame
def m3 (a b c p q r : Int) : Int := wrap64 (wrap64 (wrap64 (a * p) + wrap64 (b * q)) + wrap64 (c * r))
abbrev R3 (a b c : Int) : Array Value := #[.int .i64 a, .int .i64 b, .int .i64 c]
abbrev R9 (a b c d e f g h i : Int) : Array Value := #[.int .i64 a, .int .i64 b, .int .i64 c, .int .i64 d, .int .i64 e, .int .i64 f, .int .i64 g, .int .i64 h, .int .i64 i]
def at3 (a b c : Int) (k : Nat) : Int := match k with | 0 => a | 1 => b | _ => c
def vAt (a b c : Int) (k : Nat) : Array Value := match k with | 0 => R3 0 0 0 | 1 => R3 a 0 0 | 2 => R3 a b 0 | _ => R3 a b c
def imRel (w : World) (g1 p q r c0 c1 c2 c3 c4 c5 c6 c7 c8 : Int) (n1 : Nat) (k : Nat) (wr : World) : Prop :=
  Blk wr (w.heap.size + 1) 37 (R3 p q r) ∧ Blk wr (w.heap.size + 1 + 1) 37 (R3 0 0 0) ∧ Blk wr n1 81 (R9 c0 c1 c2 c3 c4 c5 c6 c7 c8) ∧ Blk wr (n1 + 1) 80 (vAt (m3 c0 c3 c6 p q r) (m3 c1 c4 c7 p q r) (m3 c2 c5 c8 p q r) k) ∧ Below w.heap.size w wr ∧ w.heap.size + 1 + 1 < n1 ∧ g1 = 0
def Cx0 (x y p q r : Int) : Int := m3 (u0 x) (u0 y) (k0 x y) p q r
def Cx1 (x y p q r : Int) : Int := m3 (u1 x) (u1 y) (k1 x y) p q r
def Cx2 (x y p q r : Int) : Int := m3 (u2 x) (u2 y) (k2 x y) p q r
set_option maxHeartbeats 2000000 in
theorem image_any (x y p q r : Int) (w : World) (hx : axB x = true) (hy : axB y = true) :
    Calls Try.prog 38 #[.agg #[.int .i64 x, .int .i64 y], A3 p q r] w fun e w' => e = .returned (A3 (Cx0 x y p q r) (Cx1 x y p q r) (Cx2 x y p q r)) ∧ Below w.heap.size w w' := by
  have Hx := Lib.hid hx; clear hx
  have Hy := Lib.hid hy; clear hy
  go_enter Try.func38, Try.ntmps38
  go_wp2_with (go_at_call 53; refine (columns_any x y _ Hx.out Hy.out).mono ?_; rintro e w1 ⟨rfl, hb⟩)
  generalize hn : w1.heap.size = n1
  generalize hd0 : u0 x = d0
  generalize hd1 : u1 x = d1
  generalize hd2 : u2 x = d2
  generalize hd3 : u0 y = d3
  generalize hd4 : u1 y = d4
  generalize hd5 : u2 y = d5
  generalize hd6 : k0 x y = d6
  generalize hd7 : k1 x y = d7
  generalize hd8 : k2 x y = d8
  have hst : imRel w 0 p q r d0 d1 d2 d3 d4 d5 d6 d7 d8 n1 0 ((w1.alloc (Obj.cells (R9 d0 d1 d2 d3 d4 d5 d6 d7 d8) 81)).alloc (Obj.cells (R3 0 0 0) 80)) := by
    subst hn
    obtain ⟨W, e, b0, b1, b2, hS, hlt⟩ := three_new w 23 37 37 #[.int .i64 x, .int .i64 y] (R3 p q r) (R3 0 0 0)
    rw [e] at hb
    have hsz := hb.size
    refine ⟨((b1.ext hb).alloc _).alloc _, ((b2.ext hb).alloc _).alloc _, (Blk.new _ _ _).alloc _, ?_, ?_, by omega, rfl⟩
    · have := Blk.new (w1.alloc (Obj.cells (R9 d0 d1 d2 d3 d4 d5 d6 d7 d8) 81)) 80 (R3 0 0 0)
      rwa [World.size_alloc] at this
    · have := hS.trans (hb.mono hS.size)
      exact (this.alloc this.size _).alloc (by rw [World.size_alloc]; have := this.size; omega) _
  have Hst := Lib.hid hst
  have H0 := Lib.hid hd0; have H1 := Lib.hid hd1; have H2 := Lib.hid hd2; have H3 := Lib.hid hd3; have H4 := Lib.hid hd4; have H5 := Lib.hid hd5; have H6 := Lib.hid hd6; have H7 := Lib.hid hd7; have H8 := Lib.hid hd8
  clear hd0 hd1 hd2 hd3 hd4 hd5 hd6 hd7 hd8 hst hb hn
  go_loopw [10] (fun c wr => ∃ k : Nat, k ≤ 3 ∧ c = .int .i64 k ∧ imRel w 0 p q r d0 d1 d2 d3 d4 d5 d6 d7 d8 n1 k wr) (fun c _ => 3 - (intOf c).toNat)
  case atStart => exact ⟨0, by omega, rfl, Hst.out⟩
  case round =>
    obtain ⟨k, hk, rfl, b3, b4, b5, b6, hS, hlt, _⟩ := hrel
    have hk3 : k = 0 ∨ k = 1 ∨ k = 2 ∨ k = 3 := by omega
    rcases hk3 with rfl | rfl | rfl | rfl
    all_goals simp only [vAt] at b6
    · have c3 := b3.cellsP
      have c5 := b5.cellsP
      go_wp2_with fail
      refine wp_region_loose_tail 25 (by kernel_rfl) (by kernel_rfl) (by kernel_rfl) ?_
      simp only [List.take_succ_cons, List.take_zero, List.drop_succ_cons, List.drop_zero]
      repeat (refine loose_quiet rfl rfl rfl ?_; intro K hK; go_big_quiet_op; go_big_quiet_on)
      refine loose_nil' ?_
      intro W1 hb
      have b3 := b3.ext hb
      have b4 := b4.ext hb
      have b5 := b5.ext hb
      have b6 := b6.ext hb
      have hS := hS.trans (hb.mono hS.size)
      clear hb c3 c5
      obtain ⟨c6, f6⟩ := b6.cells
      go_wp2_with fail
      obtain ⟨W2, e, b6, t⟩ := set_row1 b6 0 (.int .i64 (m3 d0 d3 d6 p q r))
      refine ⟨⟨1, by omega, rfl, ?_⟩, by simp [intOf]⟩
      show imRel _ _ _ _ _ _ _ _ _ _ _ _ _ _ _ _ (W1.setCell _ (Value.int IntKind.i64 (m3 d0 d3 d6 p q r)))
      rw [e]
      exact ⟨b3.turned t (by omega), b4.turned t (by omega), b5.turned t (by omega), b6, Turned.below hS t (by omega), hlt, rfl⟩
    · have c3 := b3.cellsP
      have c5 := b5.cellsP
      go_wp2_with fail
      refine wp_region_loose_tail 25 (by kernel_rfl) (by kernel_rfl) (by kernel_rfl) ?_
      simp only [List.take_succ_cons, List.take_zero, List.drop_succ_cons, List.drop_zero]
      repeat (refine loose_quiet rfl rfl rfl ?_; intro K hK; go_big_quiet_op; go_big_quiet_on)
      refine loose_nil' ?_
      intro W1 hb
      have b3 := b3.ext hb
      have b4 := b4.ext hb
      have b5 := b5.ext hb
      have b6 := b6.ext hb
      have hS := hS.trans (hb.mono hS.size)
      clear hb c3 c5
      obtain ⟨c6, f6⟩ := b6.cells
      go_wp2_with fail
      obtain ⟨W2, e, b6, t⟩ := set_row1 b6 1 (.int .i64 (m3 d1 d4 d7 p q r))
      refine ⟨⟨2, by omega, rfl, ?_⟩, by simp [intOf]⟩
      show imRel _ _ _ _ _ _ _ _ _ _ _ _ _ _ _ _ (W1.setCell _ (Value.int IntKind.i64 (m3 d1 d4 d7 p q r)))
      rw [e]
      exact ⟨b3.turned t (by omega), b4.turned t (by omega), b5.turned t (by omega), b6, Turned.below hS t (by omega), hlt, rfl⟩
    · have c3 := b3.cellsP
      have c5 := b5.cellsP
      go_wp2_with fail
      refine wp_region_loose_tail 25 (by kernel_rfl) (by kernel_rfl) (by kernel_rfl) ?_
      simp only [List.take_succ_cons, List.take_zero, List.drop_succ_cons, List.drop_zero]
      repeat (refine loose_quiet rfl rfl rfl ?_; intro K hK; go_big_quiet_op; go_big_quiet_on)
      refine loose_nil' ?_
      intro W1 hb
      have b3 := b3.ext hb
      have b4 := b4.ext hb
      have b5 := b5.ext hb
      have b6 := b6.ext hb
      have hS := hS.trans (hb.mono hS.size)
      clear hb c3 c5
      obtain ⟨c6, f6⟩ := b6.cells
      go_wp2_with fail
      obtain ⟨W2, e, b6, t⟩ := set_row1 b6 2 (.int .i64 (m3 d2 d5 d8 p q r))
      refine ⟨⟨3, by omega, rfl, ?_⟩, by simp [intOf]⟩
      show imRel _ _ _ _ _ _ _ _ _ _ _ _ _ _ _ _ (W1.setCell _ (Value.int IntKind.i64 (m3 d2 d5 d8 p q r)))
      rw [e]
      exact ⟨b3.turned t (by omega), b4.turned t (by omega), b5.turned t (by omega), b6, Turned.below hS t (by omega), hlt, rfl⟩
    · have c6 := b6.cell
      obtain ⟨c4, f4⟩ := b4.cells
      go_wp2_with fail
      obtain ⟨W2, e, b4, t⟩ := set_row3 b4 (.int .i64 (m3 d0 d3 d6 p q r)) (.int .i64 (m3 d1 d4 d7 p q r)) (.int .i64 (m3 d2 d5 d8 p q r))
      rw [e]
      refine bodyPost_ret (results_cell_row Try.results38 _ _ (w.heap.size + 1 + 1) 37 _ (0, 0) _ rfl b4 Try.underlying37 rfl (by kernel_rfl)) rfl ⟨?_, Turned.below hS t (by omega)⟩
      unfold Cx0 Cx1 Cx2
      rw [H0.out, H1.out, H2.out, H3.out, H4.out, H5.out, H6.out, H7.out, H8.out]
end Go.Proofs.Ytjpnijnbfjgnfaa
