/- Contracts of the package frame: what each call returns, and that it leaves what was there as it was: the reference s Back. -/
import Derived.Test.YtjpnijnbfjgnfaaJ
namespace Go.Proofs.Ytjpnijnbfjgnfaa
open Go.RowKit BigFrame
def eq2 (a0 a1 b0 b1 : Int) : Bool := a0 == b0 && a1 == b1
theorem eq2_run (a0 a1 b0 b1 : Int) (w : World) : (binOp .eql 23 (T2 a0 a1) (T2 b0 b1)).run Try.prog w = .ok (.bool (eq2 a0 a1 b0 b1)) w := eql23 _ _ _ _ w
def rbk (x y : Int) : Int × Int → Bool := fun p => eq2 (rthX p.1 p.2 x) (rthX p.1 p.2 y) 1 2
def rbackV (r : Option (Int × Int)) : Value := match r with | some p => T2 p.1 p.2 | none => T2 0 0
set_option maxHeartbeats 1000000 in
theorem rback_ok (x y : Int) (w : World) (hx : axB x = true) (hy : axB y = true) :
    Calls Try.prog 18 #[T2 x y] w fun e w' => e = .returned (rbackV (allL.find? (rbk x y))) ∧ Below w.heap.size w w' := by
  have Hx := Lib.hid hx; clear hx
  have Hy := Lib.hid hy; clear hy
  have e23 := eq2_run
  have g23 := eqg23
  go_enter Try.func18, Try.ntmps18
  go_wp2_with fail
  obtain ⟨W, e, b1, b2, hS, hlt⟩ := two_new w 23 23 #[.int .i64 x, .int .i64 y] #[.int .i64 0, .int .i64 0]
  rw [e]; clear e
  refine (rall_any _).mono ?_
  rintro e w2 ⟨v, rfl, hown, hb⟩
  obtain ⟨A, c, rfl, hts⟩ := turnsIn_form hown
  clear hown
  replace b1 := b1.ext hb
  replace b2 := b2.ext hb
  replace hS := hS.trans (hb.mono hS.size)
  have hlt2 := Nat.lt_of_lt_of_le hlt hb.size
  clear hb hlt W
  have Hts := Lib.hid hts; clear hts
  have hle : allL.length ≤ 24 := by decide
  go_wp2_with fail
  go_loopw [4] (fun i wr => ∃ k : Nat, k ≤ allL.length ∧ i = .int .i64 k ∧ (allL.take k).all (fun p => !rbk x y p) = true ∧ Below w2.heap.size w2 wr) (fun i _ => allL.length - (intOf i).toNat)
  case atStart => exact ⟨0, Nat.zero_le _, rfl, rfl, Below.refl _ _⟩
  case round =>
    obtain ⟨k, hk, rfl, hno, hSr⟩ := hrel
    have Hno := Lib.hid hno; clear hno
    by_cases hlk : k < allL.length
    · obtain ⟨b, o, rfl, hb, hc⟩ := (Hts.out.ext hSr) (by omega)
      obtain ⟨x0, x1⟩ := hc k hlk
      clear hc
      have Hax := Lib.hid (allL_ax _ (List.getElem_mem hlk))
      generalize hp : allL[k] = p at *
      have Hp := Lib.hid hp; clear hp
      have b1 := b1.ext hSr
      have d1 := b1.cellsP
      have z0 := cell_plus x0
      have z1 := cell_plus x1
      have hk0 : (0 : Int) ≤ (k : Int) := by omega
      have hk1 : (k : Int) < (allL.length : Int) := by omega
      go_wp2_with fail

      by_cases hB : rbk x y p = true
      · have Hbk := Lib.hid hB
        unfold rbk at hB
        refine wp_region_loose (by kernel_rfl) (by kernel_rfl) ?_
        repeat (refine loose_quiet rfl rfl rfl ?_; intro K hK; go_big_quiet_op; go_big_quiet_on)
        (refine loose_call _ _ _ rfl rfl (fun w => by kernel_rfl) (fun w' _ => rthen_any x y p.1 p.2 w' Hx.out Hy.out Hax.out.1 Hax.out.2) ?_; simp only [Act.put, List.setIfInBounds_toArray, List.set_cons_zero, List.set_cons_succ])
        repeat (refine loose_quiet rfl rfl rfl ?_; intro K hK; go_big_quiet_op; go_big_quiet_on)
        refine loose_nil' ?_
        intro W1 hb1
        clear d1 z0 z1
        have hS1 : Below w2.heap.size w2 W1 := hSr.trans (hb1.mono hSr.size)
        rw [← hb1.cell (p := ⟨b, _, none⟩) hb] at x0 x1
        have b2 := b2.ext hS1
        obtain ⟨c2, f2⟩ := b2.cells
        go_wp2_with fail
        obtain ⟨W2, e, b2, t⟩ := set_row2 b2 (.int .i64 p.1) (.int .i64 p.2)
        rw [e]
        refine bodyPost_ret (results_cell_row Try.results18 _ _ (w.heap.size + 1) 23 _ (0, 0) _ rfl b2 Try.underlying23 rfl (by kernel_rfl)) rfl ⟨?_, Turned.below (hS.trans (hS1.mono hS.size)) t (by omega)⟩
        rw [find_at hlk Hp.out Hno.out Hbk.out]
        rfl
      · replace hB : rbk x y p = false := by simpa using hB
        have Hbk := Lib.hid hB
        unfold rbk at hB
        refine wp_region_loose (by kernel_rfl) (by kernel_rfl) ?_
        repeat (refine loose_quiet rfl rfl rfl ?_; intro K hK; go_big_quiet_op; go_big_quiet_on)
        (refine loose_call _ _ _ rfl rfl (fun w => by kernel_rfl) (fun w' _ => rthen_any x y p.1 p.2 w' Hx.out Hy.out Hax.out.1 Hax.out.2) ?_; simp only [Act.put, List.setIfInBounds_toArray, List.set_cons_zero, List.set_cons_succ])
        repeat (refine loose_quiet rfl rfl rfl ?_; intro K hK; go_big_quiet_op; go_big_quiet_on)
        refine loose_nil' ?_
        intro W1 hb1
        clear d1 z0 z1
        have hS1 : Below w2.heap.size w2 W1 := hSr.trans (hb1.mono hSr.size)
        rw [← hb1.cell (p := ⟨b, _, none⟩) hb] at x0 x1
        have b2 := b2.ext hS1
        obtain ⟨c2, f2⟩ := b2.cells
        go_wp2_with fail
        exact ⟨⟨k + 1, by omega, by go_num, all_snoc hlk Hp.out Hno.out Hbk.out, hS1⟩, by simp [intOf]; omega⟩
    · have hkn : k = allL.length := by omega
      subst hkn
      have b2 := b2.ext hSr
      obtain ⟨c2, f2⟩ := b2.cells
      go_wp2_with fail
      obtain ⟨W2, e, b2, t⟩ := set_row2 b2 (.int .i64 0) (.int .i64 0)
      rw [e]
      refine bodyPost_ret (results_cell_row Try.results18 _ _ (w.heap.size + 1) 23 _ (0, 0) _ rfl b2 Try.underlying23 rfl (by kernel_rfl)) rfl ⟨?_, Turned.below (hS.trans (hSr.mono hS.size)) t (by omega)⟩
      have : allL.find? (rbk x y) = none := by
        rw [List.find?_eq_none]
        intro q hq
        have h := Hno.out
        rw [List.take_length] at h
        simpa using List.all_eq_true.1 h q hq
      rw [this]
      rfl
end Go.Proofs.Ytjpnijnbfjgnfaa
