/- Contracts of the package frame: what each call returns, and that it leaves what was there as it was: Back. -/
import Derived.Test.YtjpnijnbfjgnfaaI
namespace Go.Proofs.Ytjpnijnbfjgnfaa
open Go.RowKit BigFrame
theorem tcells_get : ∀ (l : List (Int × Int)) (i : Nat) (h : i < l.length), (tcells l)[i * 2]? = some (.int .i64 l[i].1) ∧ (tcells l)[i * 2 + 1]? = some (.int .i64 l[i].2)
  | [], i, h => absurd h (by simp)
  | p :: l, 0, _ => ⟨rfl, rfl⟩
  | p :: l, i + 1, h => by
    have := tcells_get l i (by simpa using h)
    have e : tcells (p :: l) = .int .i64 p.1 :: .int .i64 p.2 :: tcells l := rfl
    rw [e, show (i + 1) * 2 = i * 2 + 1 + 1 by omega]
    simpa using this
theorem turnsIn_form {B : Nat} {l : List (Int × Int)} {v : Value} {w : World} (h : TurnsIn B l v w) : ∃ A c, v = .slice A l.length c ∧ TsAt w A l := by
  rcases h.2 with ⟨rfl, h0⟩ | ⟨g, cap, cur, rfl, _, hg, hn, _, hs, htake⟩
  · exact ⟨none, 0, by rw [h0], fun h1 => by omega⟩
  · refine ⟨_, cap, rfl, fun _ => ⟨g, 0, rfl, ?_, fun i hi => ?_⟩⟩
    · exact Blk.lt (show Blk w g 23 cur from hg)
    · have hb : Blk w g 23 cur := hg
      obtain ⟨h1, h2⟩ := tcells_get l i hi
      have key : ∀ j u, (tcells l)[j]? = some u → w.cell? ⟨g, 0 + j, none⟩ = some u := fun j u hu => by
        rw [Nat.zero_add, hb.cell]
        rw [← htake] at hu
        have hj : j < l.length * 2 := by
          have := (List.getElem?_eq_some_iff.1 hu).1
          simp at this
          omega
        rw [List.getElem?_take_of_lt hj] at hu
        simpa using hu
      exact ⟨key _ _ h1, key _ _ h2⟩
def eq3 (a0 a1 a2 b0 b1 b2 : Int) : Bool := a0 == b0 && a1 == b1 && a2 == b2
theorem eq3_run (a0 a1 a2 b0 b1 b2 : Int) (w : World) : (binOp .eql 37 (A3 a0 a1 a2) (A3 b0 b1 b2)).run Try.prog w = .ok (.bool (eq3 a0 a1 a2 b0 b1 b2)) w := eql37 _ _ _ _ _ _ w
def bkA (x : Int) (p : Int × Int) : Bool := eq3 (Cx0 p.1 p.2 (u0 x) (u1 x) (u2 x)) (Cx1 p.1 p.2 (u0 x) (u1 x) (u2 x)) (Cx2 p.1 p.2 (u0 x) (u1 x) (u2 x)) (u0 1) (u1 1) (u2 1)
def bkB (y : Int) (p : Int × Int) : Bool := eq3 (Cx0 p.1 p.2 (u0 y) (u1 y) (u2 y)) (Cx1 p.1 p.2 (u0 y) (u1 y) (u2 y)) (Cx2 p.1 p.2 (u0 y) (u1 y) (u2 y)) (u0 2) (u1 2) (u2 2)
def bk (x y : Int) : Int × Int → Bool := fun p => bkA x p && bkB y p
theorem find_at {l : List (Int × Int)} {f : Int × Int → Bool} {k : Nat} {p : Int × Int} (hk : k < l.length) (hp : l[k] = p) (hno : (l.take k).all (fun p => !f p) = true) (h : f p = true) : l.find? f = some p := by
  rw [← List.take_append_drop k l, List.find?_append, List.drop_eq_getElem_cons hk, hp, List.find?_cons_of_pos h]
  have : (l.take k).find? f = none := by
    rw [List.find?_eq_none]
    intro q hq
    have := List.all_eq_true.1 hno q hq
    simpa using this
  rw [this]; rfl
theorem all_snoc {l : List (Int × Int)} {f : Int × Int → Bool} {k : Nat} {p : Int × Int} (hk : k < l.length) (hp : l[k] = p) (hno : (l.take k).all (fun p => !f p) = true) (h : f p = false) : (l.take (k + 1)).all (fun p => !f p) = true := by
  rw [List.take_succ_eq_append_getElem hk, List.all_append, hno, hp]
  simp [h]
def backV (r : Option (Int × Int)) : Value := match r with | some p => .tuple #[T2 p.1 p.2, .int .i64 0] | none => .tuple #[T2 0 0, .int .i64 1]
theorem allL_ax : ∀ p ∈ allL, axB p.1 = true ∧ axB p.2 = true := by decide
set_option maxHeartbeats 1000000 in
theorem back_ok (x y : Int) (w : World) (hv : vldB x y = true) :
    Calls Try.prog 17 #[T2 x y] w fun e w' => e = .returned (backV (allL.find? (bk x y))) ∧ Below w.heap.size w w' := by
  have Hx := Lib.hid (vldB_ax hv).1
  have Hy := Lib.hid (vldB_ax hv).2
  have Hv := Lib.hid hv; clear hv
  have e37 := eq3_run
  have g37 := eqg37
  go_enter Try.func17, Try.ntmps17
  go_wp2_with fail
  obtain ⟨W, e, b1, b2, hS, hlt⟩ := two_new w 23 23 #[.int .i64 x, .int .i64 y] #[.int .i64 0, .int .i64 0]
  rw [e]; clear e
  have d1 := b1.cellsP
  refine (calm_of (Below.refl _ _) (valid_any x y _)).mono ?_
  rw [Hv.out]
  rintro e w1 ⟨rfl, x1, rfl⟩
  go_wp2_with fail
  refine (all_any _).mono ?_
  rintro e w2 ⟨v, rfl, hown, hb⟩
  obtain ⟨A, c, rfl, hts⟩ := turnsIn_form hown
  replace hb : Below W.heap.size W w2 := below_plus.trans (hb.mono (by rw [size_plus]; omega))
  clear hown d1
  replace b1 := b1.ext hb
  replace b2 := b2.ext hb
  replace hS := hS.trans (hb.mono hS.size)
  have hlt2 := Nat.lt_of_lt_of_le hlt hb.size
  clear hb hlt W
  have Hts := Lib.hid hts; clear hts
  have hle : allL.length ≤ 24 := by decide
  go_wp2_with fail
  go_loopw [12] (fun i wr => ∃ k : Nat, k ≤ allL.length ∧ i = .int .i64 k ∧ (allL.take k).all (fun p => !bk x y p) = true ∧ Below w2.heap.size w2 wr) (fun i _ => allL.length - (intOf i).toNat)
  case atStart => exact ⟨0, Nat.zero_le _, rfl, rfl, Below.refl _ _⟩
  case round =>
    obtain ⟨k, hk, rfl, hno, hSr⟩ := hrel
    have Hno := Lib.hid hno; clear hno
    by_cases hlk : k < allL.length
    · obtain ⟨b, o, rfl, hb, hc⟩ := (Hts.out.ext hSr) (by omega)
      obtain ⟨x0, x1⟩ := hc k hlk
      clear hc
      have Hax := Lib.hid (allL_ax _ (List.getElem_mem hlk))
      generalize hp : allL[k] = p at *
      have Hp := Lib.hid hp; clear hp
      go_wp2_with fail
      obtain ⟨W, e, b3, hbW, hltW⟩ := one_new wr 23 #[.int .i64 p.1, .int .i64 p.2]
      rw [e]; clear e
      have hSW : Below w2.heap.size w2 W := hSr.trans (hbW.mono hSr.size)
      have b1 := b1.ext hSW
      have d1 := b1.cellsP
      have d3 := b3.cellsP
      by_cases hA : bkA x p = true
      · by_cases hB : bkB y p = true
        · have Hbk : Hid (bk x y p = true) := Lib.hid (by unfold bk; rw [hA, hB]; rfl)
          unfold bkA at hA
          unfold bkB at hB
          refine wp_region_loose (by kernel_rfl) (by kernel_rfl) ?_
          repeat (refine loose_quiet rfl rfl rfl ?_; intro K hK; go_big_quiet_op; go_big_quiet_on)
          (refine loose_call _ _ _ rfl rfl (fun w => by kernel_rfl) (fun w' _ => direction_any x w' Hx.out) ?_; simp only [Act.put, List.setIfInBounds_toArray, List.set_cons_zero, List.set_cons_succ])
          (refine loose_call _ _ _ rfl rfl (fun w => by kernel_rfl) (fun w' _ => image_any p.1 p.2 (u0 x) (u1 x) (u2 x) w' Hax.out.1 Hax.out.2) ?_; simp only [Act.put, List.setIfInBounds_toArray, List.set_cons_zero, List.set_cons_succ])
          (refine loose_call _ _ _ rfl rfl (fun w => by kernel_rfl) (fun w' _ => direction_any 1 w' (by decide)) ?_; simp only [Act.put, List.setIfInBounds_toArray, List.set_cons_zero, List.set_cons_succ])
          repeat (refine loose_quiet rfl rfl rfl ?_; intro K hK; go_big_quiet_op; go_big_quiet_on)
          (refine loose_call _ _ _ rfl rfl (fun w => by kernel_rfl) (fun w' _ => direction_any y w' Hy.out) ?_; simp only [Act.put, List.setIfInBounds_toArray, List.set_cons_zero, List.set_cons_succ])
          (refine loose_call _ _ _ rfl rfl (fun w => by kernel_rfl) (fun w' _ => image_any p.1 p.2 (u0 y) (u1 y) (u2 y) w' Hax.out.1 Hax.out.2) ?_; simp only [Act.put, List.setIfInBounds_toArray, List.set_cons_zero, List.set_cons_succ])
          (refine loose_call _ _ _ rfl rfl (fun w => by kernel_rfl) (fun w' _ => direction_any 2 w' (by decide)) ?_; simp only [Act.put, List.setIfInBounds_toArray, List.set_cons_zero, List.set_cons_succ])
          repeat (refine loose_quiet rfl rfl rfl ?_; intro K hK; go_big_quiet_op; go_big_quiet_on)
          refine loose_nil' ?_
          intro W1 hb1
          clear d1 d3
          have hS1 : Below w2.heap.size w2 W1 := hSW.trans (hb1.mono hSW.size)
          replace b3 := b3.ext hb1
          have b2 := b2.ext hS1
          have c3 := b3.cell
          obtain ⟨c2, f2⟩ := b2.cells
          go_wp2_with fail
          obtain ⟨W2, e, b2, t⟩ := set_row2 b2 (.int .i64 p.1) (.int .i64 p.2)
          rw [e]
          refine bodyPost_ret (results_cell_row_tmp Try.results17 _ _ (w.heap.size + 1) 23 _ (0, 0) _ rfl b2 Try.underlying23 rfl (by kernel_rfl)) rfl ⟨?_, Turned.below (hS.trans (hS1.mono hS.size)) t (by omega)⟩
          rw [find_at hlk Hp.out Hno.out Hbk.out]
          rfl
        · replace hB : bkB y p = false := by simpa using hB
          have Hbk : Hid (bk x y p = false) := Lib.hid (by unfold bk; rw [hA, hB]; rfl)
          unfold bkA at hA
          unfold bkB at hB
          refine wp_region_loose (by kernel_rfl) (by kernel_rfl) ?_
          repeat (refine loose_quiet rfl rfl rfl ?_; intro K hK; go_big_quiet_op; go_big_quiet_on)
          (refine loose_call _ _ _ rfl rfl (fun w => by kernel_rfl) (fun w' _ => direction_any x w' Hx.out) ?_; simp only [Act.put, List.setIfInBounds_toArray, List.set_cons_zero, List.set_cons_succ])
          (refine loose_call _ _ _ rfl rfl (fun w => by kernel_rfl) (fun w' _ => image_any p.1 p.2 (u0 x) (u1 x) (u2 x) w' Hax.out.1 Hax.out.2) ?_; simp only [Act.put, List.setIfInBounds_toArray, List.set_cons_zero, List.set_cons_succ])
          (refine loose_call _ _ _ rfl rfl (fun w => by kernel_rfl) (fun w' _ => direction_any 1 w' (by decide)) ?_; simp only [Act.put, List.setIfInBounds_toArray, List.set_cons_zero, List.set_cons_succ])
          repeat (refine loose_quiet rfl rfl rfl ?_; intro K hK; go_big_quiet_op; go_big_quiet_on)
          (refine loose_call _ _ _ rfl rfl (fun w => by kernel_rfl) (fun w' _ => direction_any y w' Hy.out) ?_; simp only [Act.put, List.setIfInBounds_toArray, List.set_cons_zero, List.set_cons_succ])
          (refine loose_call _ _ _ rfl rfl (fun w => by kernel_rfl) (fun w' _ => image_any p.1 p.2 (u0 y) (u1 y) (u2 y) w' Hax.out.1 Hax.out.2) ?_; simp only [Act.put, List.setIfInBounds_toArray, List.set_cons_zero, List.set_cons_succ])
          (refine loose_call _ _ _ rfl rfl (fun w => by kernel_rfl) (fun w' _ => direction_any 2 w' (by decide)) ?_; simp only [Act.put, List.setIfInBounds_toArray, List.set_cons_zero, List.set_cons_succ])
          repeat (refine loose_quiet rfl rfl rfl ?_; intro K hK; go_big_quiet_op; go_big_quiet_on)
          refine loose_nil' ?_
          intro W1 hb1
          clear d1 d3
          have hS1 : Below w2.heap.size w2 W1 := hSW.trans (hb1.mono hSW.size)
          go_wp2_with fail
          exact ⟨⟨k + 1, by omega, by go_num, all_snoc hlk Hp.out Hno.out Hbk.out, hS1⟩, by simp [intOf]; omega⟩
      · replace hA : bkA x p = false := by simpa using hA
        have Hbk : Hid (bk x y p = false) := Lib.hid (by unfold bk; rw [hA]; rfl)
        unfold bkA at hA
        refine wp_region_loose (by kernel_rfl) (by kernel_rfl) ?_
        repeat (refine loose_quiet rfl rfl rfl ?_; intro K hK; go_big_quiet_op; go_big_quiet_on)
        (refine loose_call _ _ _ rfl rfl (fun w => by kernel_rfl) (fun w' _ => direction_any x w' Hx.out) ?_; simp only [Act.put, List.setIfInBounds_toArray, List.set_cons_zero, List.set_cons_succ])
        (refine loose_call _ _ _ rfl rfl (fun w => by kernel_rfl) (fun w' _ => image_any p.1 p.2 (u0 x) (u1 x) (u2 x) w' Hax.out.1 Hax.out.2) ?_; simp only [Act.put, List.setIfInBounds_toArray, List.set_cons_zero, List.set_cons_succ])
        (refine loose_call _ _ _ rfl rfl (fun w => by kernel_rfl) (fun w' _ => direction_any 1 w' (by decide)) ?_; simp only [Act.put, List.setIfInBounds_toArray, List.set_cons_zero, List.set_cons_succ])
        repeat (refine loose_quiet rfl rfl rfl ?_; intro K hK; go_big_quiet_op; go_big_quiet_on)
        repeat (refine loose_skip rfl rfl ?_; simp only [Act.put, List.setIfInBounds_toArray, List.set_cons_zero, List.set_cons_succ])
        repeat (refine loose_quiet rfl rfl rfl ?_; intro K hK; go_big_quiet_op; go_big_quiet_on)
        refine loose_nil' ?_
        intro W1 hb1
        clear d1 d3
        have hS1 : Below w2.heap.size w2 W1 := hSW.trans (hb1.mono hSW.size)
        go_wp2_with fail
        exact ⟨⟨k + 1, by omega, by go_num, all_snoc hlk Hp.out Hno.out Hbk.out, hS1⟩, by simp [intOf]; omega⟩
    · have hkn : k = allL.length := by omega
      subst hkn
      have b2 := b2.ext hSr
      obtain ⟨c2, f2⟩ := b2.cells
      go_wp2_with fail
      obtain ⟨W2, e, b2, t⟩ := set_row2 b2 (.int .i64 0) (.int .i64 0)
      rw [e]
      refine bodyPost_ret (results_cell_row_tmp Try.results17 _ _ (w.heap.size + 1) 23 _ (0, 0) _ rfl b2 Try.underlying23 rfl (by kernel_rfl)) rfl ⟨?_, Turned.below (hS.trans (hSr.mono hS.size)) t (by omega)⟩
      have : allL.find? (bk x y) = none := by
        rw [List.find?_eq_none]
        intro q hq
        have h := Hno.out
        rw [List.take_length] at h
        simpa using List.all_eq_true.1 h q hq
      rw [this]
      rfl
set_option maxHeartbeats 400000 in
theorem back_bad (x y : Int) (w : World) (hv : vldB x y = false) :
    Calls Try.prog 17 #[T2 x y] w fun e w' => e = .returned (.tuple #[T2 0 0, .int .i64 1]) ∧ Below w.heap.size w w' := by
  have Hv := Lib.hid hv; clear hv
  go_enter Try.func17, Try.ntmps17
  go_wp2_with fail
  obtain ⟨W, e, b1, b2, hS, hlt⟩ := two_new w 23 23 #[.int .i64 x, .int .i64 y] #[.int .i64 0, .int .i64 0]
  rw [e]; clear e
  obtain ⟨d2, f2⟩ := b2.bothP
  refine (calm_of (Below.refl _ _) (valid_any x y _)).mono ?_
  rw [Hv.out]
  rintro e w1 ⟨rfl, x1, rfl⟩
  go_wp2_with fail
  replace b2 := b2.plus x1
  replace hS := hS.trans ((below_plus (w := W) (xx := x1)).mono hS.size)
  obtain ⟨W2, e, b2, t⟩ := set_row2 b2 (.int .i64 0) (.int .i64 0)
  rw [e]
  exact bodyPost_ret (results_cell_row_tmp Try.results17 _ _ (w.heap.size + 1) 23 _ (0, 0) _ rfl b2 Try.underlying23 rfl (by kernel_rfl)) rfl ⟨rfl, Turned.below hS t (by omega)⟩
end Go.Proofs.Ytjpnijnbfjgnfaa
