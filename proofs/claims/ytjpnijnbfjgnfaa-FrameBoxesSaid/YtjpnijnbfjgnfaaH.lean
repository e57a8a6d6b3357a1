/- Contracts of the package frame: what each call returns, and that it leaves what was there as it was: All, and the reference s All. -/
import Derived.Test.YtjpnijnbfjgnfaaG
namespace Go.Proofs.Ytjpnijnbfjgnfaa
open Go.RowKit BigFrame
def allL : List (Int × Int) := [-3, -2, -1, 0, 1, 2, 3].flatMap fun x => ([-3, -2, -1, 0, 1, 2, 3].filter fun y => vldB x y).map fun y => (x, y)
def pre (x y : Int) : List (Int × Int) := allL.filter fun p => decide (p.1 < x ∨ (p.1 = x ∧ p.2 < y))
def tcells (l : List (Int × Int)) : List Value := l.flatMap fun p => [.int .i64 p.1, .int .i64 p.2]
theorem seven {x : Int} (h1 : -3 ≤ x) (h2 : x ≤ 3) : x = -3 ∨ x = -2 ∨ x = -1 ∨ x = 0 ∨ x = 1 ∨ x = 2 ∨ x = 3 := by omega
theorem pre_in {x y : Int} (h1 : -3 ≤ x) (h2 : x ≤ 3) (h3 : -3 ≤ y) (h4 : y ≤ 3) (hv : vldB x y = true) : pre x (y + 1) = pre x y ++ [(x, y)] := by
  rcases seven h1 h2 with rfl | rfl | rfl | rfl | rfl | rfl | rfl <;> rcases seven h3 h4 with rfl | rfl | rfl | rfl | rfl | rfl | rfl <;> first | (exact absurd hv (by decide)) | decide
theorem pre_out {x y : Int} (h1 : -3 ≤ x) (h2 : x ≤ 3) (h3 : -3 ≤ y) (h4 : y ≤ 3) (hv : vldB x y = false) : pre x (y + 1) = pre x y := by
  rcases seven h1 h2 with rfl | rfl | rfl | rfl | rfl | rfl | rfl <;> rcases seven h3 h4 with rfl | rfl | rfl | rfl | rfl | rfl | rfl <;> first | (exact absurd hv (by decide)) | decide
theorem pre_next {x : Int} (h1 : -3 ≤ x) (h2 : x ≤ 3) : pre x 4 = pre (x + 1) (-3) := by
  rcases seven h1 h2 with rfl | rfl | rfl | rfl | rfl | rfl | rfl <;> decide
theorem pre_end : pre 4 (-3) = allL := by decide
theorem pre_start : pre (-3) (-3) = [] := by decide
theorem pre_len (x y : Int) : (pre x y).length ≤ 24 := Nat.le_trans (List.length_filter_le _ _) (by decide)
theorem tcells_snoc (l : List (Int × Int)) (p : Int × Int) : tcells (l ++ [p]) = tcells l ++ [.int .i64 p.1, .int .i64 p.2] := by simp [tcells]
theorem Try.info23 : (Try.prog.info? 23).map (fun i => (i.zero, i.size, i.bytes)) = some (some (.agg #[.int .i64 0, .int .i64 0]), 2, 16) := by kernel_rfl
theorem World.add_zero_block (b j : Nat) : (⟨b, 0, none⟩ : Addr).add j = ⟨b, j, none⟩ := by
  unfold Addr.add; split <;> simp [*]
/-- A slice of turns, in new memory. -/
def TurnsIn (B : Nat) (l : List (Int × Int)) (v : Value) (w : World) : Prop := w.ownsRow B 23 2 v l.length (tcells l)
set_option maxHeartbeats 1000000 in
theorem all_any (w : World) :
    Calls Try.prog 14 #[] w fun e w' => ∃ v, e = .returned v ∧ TurnsIn w.heap.size allL v w' ∧ Below w.heap.size w w' := by
  obtain ⟨i0, hi, hz0, hz1, hz2⟩ := info_parts Try.info23
  have Hi := Lib.hid hi; have Hz0 := Lib.hid hz0; have Hz1 := Lib.hid hz1; have Hz2 := Lib.hid hz2
  clear hi hz0 hz1 hz2
  go_enter Try.func14, Try.ntmps14
  go_wp2_with fail
  go_loopw [1, 2] (fun v x wr => ∃ n : Int, -3 ≤ n ∧ n ≤ 4 ∧ x = .int .i64 n ∧ TurnsIn w.heap.size (pre n (-3)) v wr ∧ Below w.heap.size w wr) (fun _ x _ => (4 - intOf x).toNat)
  case atStart => exact ⟨-3, by omega, by omega, rfl, by rw [pre_start]; exact World.ownsRow_nil _ _ _ _, Below.refl _ _⟩
  case round =>
    obtain ⟨n, hn1, hn2, rfl, hown, hS⟩ := hrel
    have Hown := Lib.hid hown; clear hown
    by_cases hlt : n ≤ 3
    · go_wp2_with fail
      go_loopw [1, 3] (fun v y wr => ∃ m : Int, -3 ≤ m ∧ m ≤ 4 ∧ y = .int .i64 m ∧ TurnsIn w.heap.size (pre n m) v wr ∧ Below w.heap.size w wr) (fun _ y _ => (4 - intOf y).toNat)
      case atStart => exact ⟨-3, by omega, by omega, rfl, Hown.out, hS⟩
      case round =>
        clear Hown hS
        obtain ⟨m, hm1, hm2, rfl, hown, hS⟩ := hrel
        have Hown := Lib.hid hown; clear hown
        by_cases hlm : m ≤ 3
        · by_cases hv : vldB n m = true
          · have Hv := Lib.hid hv; clear hv
            go_wp2_with fail
            obtain ⟨W, e, b0, hb, _⟩ := one_new wr 23 #[.int .i64 n, .int .i64 m]
            rw [e]; clear e
            refine (valid_any n m _).mono ?_
            rw [Hv.out]
            rintro e w1 ⟨rfl, hb1⟩
            replace b0 := b0.ext hb1
            have hb2 := hb.trans (hb1.mono hb.size)
            have hown1 := own_ext Hown.out hb2
            replace hS := hS.trans (hb2.mono hS.size)
            clear hb hb1 hb2 Hown
            have hlen := pre_len n m
            have Hown := Lib.hid hown1; clear hown1
            have c0 := b0.cell
            go_wp2_with (at_builtin; refine wpList_append_own _ rfl _ _ 27 rfl w.heap.size 23 i0 (.agg #[.int .i64 0, .int .i64 0]) 2 16 Try.underlying27 Hi.out Hz0.out Hz1.out Hz2.out rfl (by decide) _ _ _ rfl (Hown.out.alloc _) ⟨w1.heap.size, 0, none⟩ 1 1 [.int .i64 n, .int .i64 m] rfl rfl ?c1 ?c2 ?c3 ?c4 ?c5 ?_)
            case c1 =>
              intro j u hu
              have hbn := Blk.new w1 23 #[.int .i64 n, .int .i64 m]
              rw [World.add_zero_block, hbn.cell]
              simpa using hu
            case c2 => simp [Value.oneCell']
            case c3 => unfold maxLen; omega
            case c4 => omega
            case c5 => have := hS.size; simp; omega
            intro v' w2 hown2 hg _
            have hS2 : Below w.heap.size w w2 := below_grown (hS.alloc hS.size _) (Hown.out.alloc _) hg (by have := hS.size; simp; omega) (Nat.le_refl _)
            have hfin : TurnsIn w.heap.size (pre n (m + 1)) v' w2 := by
              unfold TurnsIn
              rw [pre_in hn1 hlt hm1 hlm Hv.out, tcells_snoc, List.length_append]
              exact hown2
            clear hown2 hg Hown c0
            have Hfin := Lib.hid hfin; clear hfin
            go_wp2_with fail
            exact ⟨⟨m + 1, by omega, by omega, rfl, Hfin.out, hS2⟩, by simp [intOf]; omega⟩
          · replace hv : vldB n m = false := by simpa using hv
            have Hv := Lib.hid hv; clear hv
            go_wp2_with fail
            obtain ⟨W, e, b0, hb, _⟩ := one_new wr 23 #[.int .i64 n, .int .i64 m]
            rw [e]; clear e
            refine (valid_any n m _).mono ?_
            rw [Hv.out]
            rintro e w1 ⟨rfl, hb1⟩
            have hb2 := hb.trans (hb1.mono hb.size)
            have hown1 := own_ext Hown.out hb2
            replace hS := hS.trans (hb2.mono hS.size)
            clear hb hb1 hb2 Hown
            have Hown := Lib.hid hown1; clear hown1
            go_wp2_with fail
            exact ⟨⟨m + 1, by omega, by omega, rfl, by rw [pre_out hn1 hlt hm1 hlm Hv.out]; exact Hown.out, hS⟩, by simp [intOf]; omega⟩
        · go_wp2_with fail
          have : m = 4 := by omega
          subst this
          exact ⟨⟨n + 1, by omega, by omega, rfl, by rw [← pre_next hn1 hlt]; exact Hown.out, hS⟩, by simp [intOf]; omega⟩
    · go_wp2_with fail
      have : n = 4 := by omega
      subst this
      go_ret
      rw [pre_end] at Hown
      exact ⟨_, rfl, Hown.out, hS⟩
set_option maxHeartbeats 1000000 in
theorem rall_any (w : World) :
    Calls Try.prog 15 #[] w fun e w' => ∃ v, e = .returned v ∧ TurnsIn w.heap.size allL v w' ∧ Below w.heap.size w w' := by
  obtain ⟨i0, hi, hz0, hz1, hz2⟩ := info_parts Try.info23
  have Hi := Lib.hid hi; have Hz0 := Lib.hid hz0; have Hz1 := Lib.hid hz1; have Hz2 := Lib.hid hz2
  clear hi hz0 hz1 hz2
  go_enter Try.func15, Try.ntmps15
  go_wp2_with fail
  go_loopw [1, 2] (fun v x wr => ∃ n : Int, -3 ≤ n ∧ n ≤ 4 ∧ x = .int .i64 n ∧ TurnsIn w.heap.size (pre n (-3)) v wr ∧ Below w.heap.size w wr) (fun _ x _ => (4 - intOf x).toNat)
  case atStart => exact ⟨-3, by omega, by omega, rfl, by rw [pre_start]; exact World.ownsRow_nil _ _ _ _, Below.refl _ _⟩
  case round =>
    obtain ⟨n, hn1, hn2, rfl, hown, hS⟩ := hrel
    have Hown := Lib.hid hown; clear hown
    by_cases hlt : n ≤ 3
    · go_wp2_with fail
      go_loopw [1, 3] (fun v y wr => ∃ m : Int, -3 ≤ m ∧ m ≤ 4 ∧ y = .int .i64 m ∧ TurnsIn w.heap.size (pre n m) v wr ∧ Below w.heap.size w wr) (fun _ y _ => (4 - intOf y).toNat)
      case atStart => exact ⟨-3, by omega, by omega, rfl, Hown.out, hS⟩
      case round =>
        clear Hown hS
        obtain ⟨m, hm1, hm2, rfl, hown, hS⟩ := hrel
        have Hown := Lib.hid hown; clear hown
        by_cases hlm : m ≤ 3
        · by_cases hv : vldB n m = true
          · have Hv := Lib.hid hv; clear hv
            go_wp2_with fail
            obtain ⟨W, e, b0, hb, _⟩ := one_new wr 23 #[.int .i64 n, .int .i64 m]
            rw [e]; clear e
            refine (rvalid_any n m _).mono ?_
            rw [Hv.out]
            rintro e w1 ⟨rfl, hb1⟩
            replace b0 := b0.ext hb1
            have hb2 := hb.trans (hb1.mono hb.size)
            have hown1 := own_ext Hown.out hb2
            replace hS := hS.trans (hb2.mono hS.size)
            clear hb hb1 hb2 Hown
            have hlen := pre_len n m
            have Hown := Lib.hid hown1; clear hown1
            have c0 := b0.cell
            go_wp2_with (at_builtin; refine wpList_append_own _ rfl _ _ 27 rfl w.heap.size 23 i0 (.agg #[.int .i64 0, .int .i64 0]) 2 16 Try.underlying27 Hi.out Hz0.out Hz1.out Hz2.out rfl (by decide) _ _ _ rfl (Hown.out.alloc _) ⟨w1.heap.size, 0, none⟩ 1 1 [.int .i64 n, .int .i64 m] rfl rfl ?c1 ?c2 ?c3 ?c4 ?c5 ?_)
            case c1 =>
              intro j u hu
              have hbn := Blk.new w1 23 #[.int .i64 n, .int .i64 m]
              rw [World.add_zero_block, hbn.cell]
              simpa using hu
            case c2 => simp [Value.oneCell']
            case c3 => unfold maxLen; omega
            case c4 => omega
            case c5 => have := hS.size; simp; omega
            intro v' w2 hown2 hg _
            have hS2 : Below w.heap.size w w2 := below_grown (hS.alloc hS.size _) (Hown.out.alloc _) hg (by have := hS.size; simp; omega) (Nat.le_refl _)
            have hfin : TurnsIn w.heap.size (pre n (m + 1)) v' w2 := by
              unfold TurnsIn
              rw [pre_in hn1 hlt hm1 hlm Hv.out, tcells_snoc, List.length_append]
              exact hown2
            clear hown2 hg Hown c0
            have Hfin := Lib.hid hfin; clear hfin
            go_wp2_with fail
            exact ⟨⟨m + 1, by omega, by omega, rfl, Hfin.out, hS2⟩, by simp [intOf]; omega⟩
          · replace hv : vldB n m = false := by simpa using hv
            have Hv := Lib.hid hv; clear hv
            go_wp2_with fail
            obtain ⟨W, e, b0, hb, _⟩ := one_new wr 23 #[.int .i64 n, .int .i64 m]
            rw [e]; clear e
            refine (rvalid_any n m _).mono ?_
            rw [Hv.out]
            rintro e w1 ⟨rfl, hb1⟩
            have hb2 := hb.trans (hb1.mono hb.size)
            have hown1 := own_ext Hown.out hb2
            replace hS := hS.trans (hb2.mono hS.size)
            clear hb hb1 hb2 Hown
            have Hown := Lib.hid hown1; clear hown1
            go_wp2_with fail
            exact ⟨⟨m + 1, by omega, by omega, rfl, by rw [pre_out hn1 hlt hm1 hlm Hv.out]; exact Hown.out, hS⟩, by simp [intOf]; omega⟩
        · go_wp2_with fail
          have : m = 4 := by omega
          subst this
          exact ⟨⟨n + 1, by omega, by omega, rfl, by rw [← pre_next hn1 hlt]; exact Hown.out, hS⟩, by simp [intOf]; omega⟩
    · go_wp2_with fail
      have : n = 4 := by omega
      subst this
      go_ret
      rw [pre_end] at Hown
      exact ⟨_, rfl, Hown.out, hS⟩
end Go.Proofs.Ytjpnijnbfjgnfaa
