/- Contracts: slices.Sort of three numbers. -/
import Derived.Test.YtjpnijnbfjgnfaaS
import Derived.RegionTactic
import Derived.BigRegion
namespace Go.Proofs.Ytjpnijnbfjgnfaa
open Go.RowKit BigFrame
theorem nan_any (a : Int) (w : World) : Calls Try.prog 73 #[.int .i64 a] w fun e w' => e = .returned (.bool false) ∧ w' = w := by
  go_enter Try.func73, Try.ntmps73
  go_wp2
  go_ret
  exact ⟨rfl, rfl⟩
theorem less_any (a b : Int) (w : World) : Calls Try.prog 62 #[.int .i64 a, .int .i64 b] w fun e w' => e = .returned (.bool (decide (a < b))) ∧ w' = w := by
  go_enter Try.func62, Try.ntmps62
  go_wp2_with (go_at_call 73; refine (nan_any _ _).mono ?_; rintro e w' ⟨rfl, rfl⟩)
  all_goals (go_ret; exact ⟨by simp [*], rfl⟩)
set_option maxRecDepth 100000 in
theorem len64_3 (w : World) : Calls Try.prog 66 #[.int .u64 3] w fun e w' => e = .returned (.int .i64 2) ∧ w' = w := by
  go_enter Try.func66, Try.ntmps66
  go_wp2
  go_ret
  exact ⟨congrArg Ending.returned (congrArg (Value.int IntKind.i64) (by decide +kernel)), rfl⟩
theorem len_3 (w : World) : Calls Try.prog 52 #[.int .u64 3] w fun e w' => e = .returned (.int .i64 2) ∧ w' = w := by
  go_enter Try.func52, Try.ntmps52
  go_wp2_with (go_at_call 66; refine (len64_3 _).mono ?_; rintro e w' ⟨rfl, rfl⟩)
  go_ret
  exact ⟨rfl, rfl⟩
/-- Of what was there, only block g is turned. -/
structure Off (g : Nat) (a b : World) : Prop where
  os : b.os = a.os
  tape : b.tape = a.tape
  output : b.output = a.output
  size : a.heap.size ≤ b.heap.size
  block : ∀ i, i < a.heap.size → i ≠ g → b.heap[i]? = a.heap[i]?
theorem Off.refl (g : Nat) (a : World) : Off g a a := ⟨rfl, rfl, rfl, Nat.le_refl _, fun _ _ _ => rfl⟩
theorem Off.trans {g : Nat} {a b c : World} (h : Off g a b) (k : Off g b c) : Off g a c :=
  ⟨k.os.trans h.os, k.tape.trans h.tape, k.output.trans h.output, Nat.le_trans h.size k.size, fun i hl hi => (k.block i (Nat.lt_of_lt_of_le hl h.size) hi).trans (h.block i hl hi)⟩
theorem Off.below {g B : Nat} {a b c : World} (h : Below B a b) (k : Off g b c) (hB : B ≤ b.heap.size) (hg : B ≤ g) : Below B a c :=
  ⟨k.os.trans h.os, k.tape.trans h.tape, k.output.trans h.output, Nat.le_trans h.size k.size, fun i hi => (k.block i (Nat.lt_of_lt_of_le hi hB) (by omega)).trans (h.block i hi)⟩
theorem Blk.off {w w' : World} {g g' : Nat} {t : TypeId} {cs : Array Value} (h : Blk w g t cs) (k : Off g' w w') (hne : g ≠ g') : Blk w' g t cs := (k.block g h.lt hne).trans h
theorem off_below {g : Nat} {a b : World} (h : Below a.heap.size a b) : Off g a b := ⟨h.os, h.tape, h.output, h.size, fun i hl _ => h.block i hl⟩
theorem off_turned {g : Nat} {a b : World} (h : Turned g a b) : Off g a b := ⟨h.os, h.tape, h.output, Nat.le_of_eq h.size.symm, fun i _ hi => h.block i hi⟩
/-- The three cells of block g hold the three numbers in order; nothing else is turned. -/
def SortR (a b c : Int) (g : Nat) (w : World) (e : Ending) (w' : World) : Prop := e = .returned (.tuple #[]) ∧ ∃ x y z, Blk w' g 3 (R3 x y z) ∧ [x, y, z].Perm [a, b, c] ∧ x ≤ y ∧ y ≤ z ∧ Off g w w'
theorem off_drew (g : Nat) (w : World) : Off g w w.drew := ⟨rfl, rfl, rfl, Nat.le_refl _, fun _ _ _ => rfl⟩
theorem swp {V : World} {g : Nat} {x y z : Int} (h : Blk V g 3 (R3 x y z)) (i j : Nat) (u v : Value) {cs : Array Value} (e : ((R3 x y z).setIfInBounds i u).setIfInBounds j v = cs) :
    Blk ((V.setCell ⟨g, i, none⟩ u).setCell ⟨g, j, none⟩ v).drew g 3 cs ∧ Off g V ((V.setCell ⟨g, i, none⟩ u).setCell ⟨g, j, none⟩ v).drew := by
  subst e
  exact ⟨(h.set_ i u).set_ j v, (off_turned ((turned_set V g i u).trans (turned_set _ g j v))).trans (off_drew _ _)⟩
def InvS (k m x y z : Int) : Prop := (k = 1 → m = 0 → x ≤ y) ∧ (k = 2 → (m = 2 → x ≤ y) ∧ (m = 1 → x ≤ z ∧ y ≤ z) ∧ (m = 0 → x ≤ y ∧ y ≤ z))
theorem less_lit {a b : Int} (v : Bool) (h : decide (a < b) = v) (w : World) : Calls Try.prog 62 #[.int .i64 a, .int .i64 b] w fun e w' => e = .returned (.bool v) ∧ w = w' := by
  rw [← h]
  exact (less_any a b w).mono fun e w' ⟨h1, h2⟩ => ⟨h1, h2.symm⟩
set_option maxHeartbeats 2000000 in
theorem ins_3 (a b c : Int) (g : Nat) (w : World) (h : Blk w g 3 (R3 a b c)) :
    Calls Try.prog 56 #[.slice (some ⟨g, 0, none⟩) 3 3, .int .i64 0, .int .i64 3] w (SortR a b c g w) := by
  have H := Lib.hid h; clear h
  go_enter Try.func56, Try.ntmps56
  go_wp2_with fail
  go_loopw [6] (fun i wr => ∃ k : Int, 1 ≤ k ∧ k ≤ 3 ∧ i = .int .i64 k ∧ ∃ x y z, Blk wr g 3 (R3 x y z) ∧ [x, y, z].Perm [a, b, c] ∧ (2 ≤ k → x ≤ y) ∧ (3 ≤ k → y ≤ z) ∧ Off g w wr) (fun i _ => (3 - intOf i).toNat)
  case atStart => exact ⟨1, by omega, by omega, rfl, a, b, c, H.out, List.Perm.refl _, by omega, by omega, Off.refl _ _⟩
  case round =>
    obtain ⟨k, hk1, hk3, rfl, x, y, z, hb, hp, h2, h3, hT⟩ := hrel
    by_cases hlt : k < 3
    · go_wp2_with fail
      go_loopw [7] (fun j wi => ∃ m : Int, 0 ≤ m ∧ m ≤ k ∧ j = .int .i64 m ∧ ∃ x y z, Blk wi g 3 (R3 x y z) ∧ [x, y, z].Perm [a, b, c] ∧ InvS k m x y z ∧ Off g w wi) (fun j _ => (intOf j).toNat)
      case atStart => exact ⟨k, by omega, by omega, rfl, x, y, z, hb, hp, by unfold InvS; omega, hT⟩
      case round =>
        clear hb hp h2 h3 hT x y z
        obtain ⟨m, hm1, hm2, rfl, x, y, z, hb, hp, hi, hT⟩ := hrel
        have hm : m = 0 ∨ m = 1 ∨ m = 2 := by omega
        rcases hm with rfl | rfl | rfl
        · have d1 := hb.cellsP
          go_wp2_with fail
          refine wp_region_loose (by kernel_rfl) (by kernel_rfl) ?_
          repeat (first | (refine loose_skip rfl rfl ?_; simp only [Act.put, List.setIfInBounds_toArray, List.set_cons_zero, List.set_cons_succ]) | (refine loose_quiet rfl rfl rfl ?_; intro K hK; go_big_quiet_op; go_big_quiet_on))
          clear d1
          refine loose_nil' ?_
          intro V hV
          replace hb := hb.ext hV
          replace hT := hT.trans (off_below hV)
          clear hV
          go_wp2_with fail
          exact ⟨⟨k + 1, by omega, by omega, rfl, x, y, z, hb, hp, by unfold InvS at hi; omega, by unfold InvS at hi; omega, hT⟩, by simp [intOf]; omega⟩
        · have d1 := hb.cellsP
          cases hc : decide (y < x) with
          | true =>
            go_wp2_with fail
            refine wp_region_loose (by kernel_rfl) (by kernel_rfl) ?_
            repeat (refine loose_quiet rfl rfl rfl ?_; intro K hK; go_big_quiet_op; go_big_quiet_on)
            (refine loose_callp _ _ _ rfl rfl (fun w => by kernel_rfl) (fun w' => less_lit true hc w') ?_; simp only [Act.put, List.setIfInBounds_toArray, List.set_cons_zero, List.set_cons_succ])
            repeat (refine loose_quiet rfl rfl rfl ?_; intro K hK; go_big_quiet_op; go_big_quiet_on)
            clear d1
            refine loose_nil' ?_
            intro V hV
            replace hb := hb.ext hV
            replace hT := hT.trans (off_below hV)
            clear hV
            obtain ⟨c1, f1⟩ := hb.cells
            go_wp2_with fail
            go_region
            go_wp2_with fail
            obtain ⟨hb2, hO⟩ := swp hb 1 0 (.int .i64 x) (.int .i64 y) (cs := R3 y x z) rfl
            have hlt := of_decide_eq_true hc
            exact ⟨⟨0, by omega, by omega, rfl, y, x, z, hb2, (List.Perm.swap x y [z]).trans hp, by unfold InvS at hi ⊢; omega, hT.trans hO⟩, by simp [intOf]⟩
          | false =>
            go_wp2_with fail
            refine wp_region_loose (by kernel_rfl) (by kernel_rfl) ?_
            repeat (refine loose_quiet rfl rfl rfl ?_; intro K hK; go_big_quiet_op; go_big_quiet_on)
            (refine loose_callp _ _ _ rfl rfl (fun w => by kernel_rfl) (fun w' => less_lit false hc w') ?_; simp only [Act.put, List.setIfInBounds_toArray, List.set_cons_zero, List.set_cons_succ])
            repeat (refine loose_quiet rfl rfl rfl ?_; intro K hK; go_big_quiet_op; go_big_quiet_on)
            clear d1
            refine loose_nil' ?_
            intro V hV
            replace hb := hb.ext hV
            replace hT := hT.trans (off_below hV)
            clear hV
            go_wp2_with fail
            have hge := of_decide_eq_false hc
            exact ⟨⟨k + 1, by omega, by omega, rfl, x, y, z, hb, hp, by unfold InvS at hi; omega, by unfold InvS at hi; omega, hT⟩, by simp [intOf]; omega⟩
        · have d1 := hb.cellsP
          cases hc : decide (z < y) with
          | true =>
            go_wp2_with fail
            refine wp_region_loose (by kernel_rfl) (by kernel_rfl) ?_
            repeat (refine loose_quiet rfl rfl rfl ?_; intro K hK; go_big_quiet_op; go_big_quiet_on)
            (refine loose_callp _ _ _ rfl rfl (fun w => by kernel_rfl) (fun w' => less_lit true hc w') ?_; simp only [Act.put, List.setIfInBounds_toArray, List.set_cons_zero, List.set_cons_succ])
            repeat (refine loose_quiet rfl rfl rfl ?_; intro K hK; go_big_quiet_op; go_big_quiet_on)
            clear d1
            refine loose_nil' ?_
            intro V hV
            replace hb := hb.ext hV
            replace hT := hT.trans (off_below hV)
            clear hV
            obtain ⟨c1, f1⟩ := hb.cells
            go_wp2_with fail
            go_region
            go_wp2_with fail
            obtain ⟨hb2, hO⟩ := swp hb 2 1 (.int .i64 y) (.int .i64 z) (cs := R3 x z y) rfl
            have hlt := of_decide_eq_true hc
            exact ⟨⟨1, by omega, by omega, rfl, x, z, y, hb2, (List.Perm.cons x (List.Perm.swap y z [])).trans hp, by unfold InvS at hi ⊢; omega, hT.trans hO⟩, by simp [intOf]⟩
          | false =>
            go_wp2_with fail
            refine wp_region_loose (by kernel_rfl) (by kernel_rfl) ?_
            repeat (refine loose_quiet rfl rfl rfl ?_; intro K hK; go_big_quiet_op; go_big_quiet_on)
            (refine loose_callp _ _ _ rfl rfl (fun w => by kernel_rfl) (fun w' => less_lit false hc w') ?_; simp only [Act.put, List.setIfInBounds_toArray, List.set_cons_zero, List.set_cons_succ])
            repeat (refine loose_quiet rfl rfl rfl ?_; intro K hK; go_big_quiet_op; go_big_quiet_on)
            clear d1
            refine loose_nil' ?_
            intro V hV
            replace hb := hb.ext hV
            replace hT := hT.trans (off_below hV)
            clear hV
            go_wp2_with fail
            have hge := of_decide_eq_false hc
            exact ⟨⟨k + 1, by omega, by omega, rfl, x, y, z, hb, hp, by unfold InvS at hi; omega, by unfold InvS at hi; omega, hT⟩, by simp [intOf]; omega⟩
    · go_wp2_with fail
      go_end0
      unfold SortR
      exact ⟨rfl, x, y, z, hb, hp, h2 (by omega), h3 (by omega), hT⟩
set_option maxHeartbeats 1000000 in
theorem pdq_3 (a b c : Int) (g : Nat) (w : World) (h : Blk w g 3 (R3 a b c)) :
    Calls Try.prog 51 #[.slice (some ⟨g, 0, none⟩) 3 3, .int .i64 0, .int .i64 3, .int .i64 2] w (SortR a b c g w) := by
  have H := Lib.hid h; clear h
  go_enter Try.func51, Try.ntmps51
  go_wp2_with fail
  go_loopw [1, 2] (fun x y wr => x = .int .i64 0 ∧ y = .int .i64 3 ∧ wr = w) (fun _ _ _ => 0)
  case atStart => exact ⟨rfl, rfl, rfl⟩
  case round =>
    obtain ⟨rfl, rfl, rfl⟩ := hrel
    go_wp2_with fail
    refine (ins_3 a b c g _ H.out).mono ?_
    intro e w1 hs
    unfold SortR at hs
    obtain ⟨rfl, x, y, z, hb, hp, h1, h2, hO⟩ := hs
    go_wp2_with fail
    go_end0
    unfold SortR
    exact ⟨rfl, x, y, z, hb, hp, h1, h2, hO⟩
theorem sort_3 (a b c : Int) (g : Nat) (w : World) (h : Blk w g 3 (R3 a b c)) :
    Calls Try.prog 33 #[.slice (some ⟨g, 0, none⟩) 3 3] w (SortR a b c g w) := by
  have H := Lib.hid h; clear h
  go_enter Try.func33, Try.ntmps33
  go_wp2_with fail
  refine (len_3 _).mono ?_
  rintro e w1 ⟨rfl, rfl⟩
  go_wp2_with fail
  refine (pdq_3 a b c g _ H.out).mono ?_
  intro e w1 hs
  unfold SortR at hs
  obtain ⟨rfl, x, y, z, hb, hp, h1, h2, hO⟩ := hs
  go_wp2_with fail
  go_end0
  unfold SortR
  exact ⟨rfl, x, y, z, hb, hp, h1, h2, hO⟩
end Go.Proofs.Ytjpnijnbfjgnfaa
