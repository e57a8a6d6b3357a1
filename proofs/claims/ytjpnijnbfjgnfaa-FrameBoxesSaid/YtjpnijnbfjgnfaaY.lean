/- Contracts: the reference's Path. -/
import Derived.Test.YtjpnijnbfjgnfaaX
namespace Go.Proofs.Ytjpnijnbfjgnfaa
open Go.RowKit BigFrame
set_option maxHeartbeats 1000000 in
theorem rpath_bad (x y a b c : Int) (A : Option Addr) (n : Nat) (l : List Pt) (w : World) (h : PtsAt w A l) (hv : vldB x y = false) : Calls Try.prog 30 #[T2 x y, A3 a b c, .slice A l.length n] w fun e w' => e = .returned (.tuple #[.slice none 0 0, .int .i64 1]) ∧ Below w.heap.size w w' := by
  clear h
  have Hv := Lib.hid hv; clear hv
  go_enter Try.func30, Try.ntmps30
  go_wp2_with fail
  obtain ⟨W1, e, b1, b2, hS, hlt⟩ := two_new w 23 37 #[.int .i64 x, .int .i64 y] (R3 a b c)
  rw [e]; clear e hlt
  refine ((by have := rvalid_any x y W1; rwa [Hv.out] at this : Calls Try.prog 12 #[T2 x y] W1 fun e w' => e = .returned (.bool false) ∧ Below W1.heap.size W1 w')).mono ?_
  rintro e v2 ⟨rfl, hb⟩
  replace b1 := b1.ext hb
  replace b2 := b2.ext hb
  replace hS := hS.trans (hb.mono hS.size)
  clear hb
  go_wp2_with fail
  go_ret2
  exact ⟨rfl, by first | exact hS | exact hS.alloc hS.size _⟩
set_option maxHeartbeats 1000000 in
theorem rpath_full (x y a b c : Int) (A : Option Addr) (n : Nat) (l : List Pt) (w : World) (h : PtsAt w A l) (hv : vldB x y = true) (hm : 1000 < l.length) : Calls Try.prog 30 #[T2 x y, A3 a b c, .slice A l.length n] w fun e w' => e = .returned (.tuple #[.slice none 0 0, .int .i64 4]) ∧ Below w.heap.size w w' := by
  clear h
  have Hv := Lib.hid hv; clear hv
  have hm' : (1000 : Int) < (l.length : Int) := by omega
  go_enter Try.func30, Try.ntmps30
  go_wp2_with fail
  obtain ⟨W1, e, b1, b2, hS, hlt⟩ := two_new w 23 37 #[.int .i64 x, .int .i64 y] (R3 a b c)
  rw [e]; clear e hlt
  refine ((by have := rvalid_any x y W1; rwa [Hv.out] at this : Calls Try.prog 12 #[T2 x y] W1 fun e w' => e = .returned (.bool true) ∧ Below W1.heap.size W1 w')).mono ?_
  rintro e v2 ⟨rfl, hb⟩
  replace b1 := b1.ext hb
  replace b2 := b2.ext hb
  replace hS := hS.trans (hb.mono hS.size)
  clear hb
  go_wp2_with fail
  go_ret2
  exact ⟨rfl, by first | exact hS | exact hS.alloc hS.size _⟩
set_option maxHeartbeats 1000000 in
theorem rpath_far1 (x y a b c : Int) (A : Option Addr) (n : Nat) (l : List Pt) (w : World) (h : PtsAt w A l) (hv : vldB x y = true) (hm : l.length ≤ 1000) (hn : neB a b c = false) : Calls Try.prog 30 #[T2 x y, A3 a b c, .slice A l.length n] w fun e w' => e = .returned (.tuple #[.slice none 0 0, .int .i64 2]) ∧ Below w.heap.size w w' := by
  clear h
  have Hv := Lib.hid hv; clear hv
  have Hn := Lib.hid hn; clear hn
  have hm' : (l.length : Int) ≤ 1000 := by omega
  go_enter Try.func30, Try.ntmps30
  go_wp2_with fail
  obtain ⟨W1, e, b1, b2, hS, hlt⟩ := two_new w 23 37 #[.int .i64 x, .int .i64 y] (R3 a b c)
  rw [e]; clear e hlt
  refine ((by have := rvalid_any x y W1; rwa [Hv.out] at this : Calls Try.prog 12 #[T2 x y] W1 fun e w' => e = .returned (.bool true) ∧ Below W1.heap.size W1 w')).mono ?_
  rintro e v2 ⟨rfl, hb⟩
  replace b1 := b1.ext hb
  replace b2 := b2.ext hb
  replace hS := hS.trans (hb.mono hS.size)
  clear hb
  have c_b2 := b2.cell
  have l_b2 := b2.lt
  go_wp2_with fail
  clear c_b2 l_b2
  refine ((by have := rnear_any a b c v2; rwa [Hn.out] at this : Calls Try.prog 22 #[A3 a b c] v2 fun e w' => e = .returned (.bool false) ∧ Below v2.heap.size v2 w')).mono ?_
  rintro e v3 ⟨rfl, hb⟩
  replace b1 := b1.ext hb
  replace b2 := b2.ext hb
  replace hS := hS.trans (hb.mono hS.size)
  clear hb
  go_wp2_with fail
  go_ret2
  exact ⟨rfl, by first | exact hS | exact hS.alloc hS.size _⟩
def PathS (l : List Pt) (F : Pt → Pt) (w : World) (e : Ending) (w' : World) : Prop := PathR (if l.all neP = true then l.map F else []) (if l.all neP = true then 0 else 2) w e w'
theorem pathR_far {l : List Pt} {F : Pt → Pt} {w w' : World} {e : Ending} (hl : l.all neP = false) (h : e = .returned (.tuple #[.slice none 0 0, .int .i64 2]) ∧ Below w.heap.size w w') : PathS l F w e w' := by
  unfold PathS
  simp only [hl, Bool.false_eq_true, if_false]
  exact pathR_nil h
theorem pathR_ok {l : List Pt} {F : Pt → Pt} {w w' : World} {e : Ending} (hl : l.all neP = true) (h : PathR (l.map F) 0 w e w') : PathS l F w e w' := by
  unfold PathS
  simp only [hl, if_true]
  exact h
set_option maxHeartbeats 2000000 in
theorem rpath_list (x y a b c : Int) (A : Option Addr) (n : Nat) (l : List Pt) (w : World) (h : PtsAt w A l) (hv : vldB x y = true) (hm : l.length ≤ 1000) (hn : neB a b c = true) : Calls Try.prog 30 #[T2 x y, A3 a b c, .slice A l.length n] w (PathS l (plP x y a b c) w) := by
  have Hax := Lib.hid (vldB_ax hv)
  have hm' : (l.length : Int) ≤ 1000 := by omega
  have H := Lib.hid h; clear h
  have Hv := Lib.hid hv; clear hv
  have Hn := Lib.hid hn; clear hn
  go_enter Try.func30, Try.ntmps30
  go_wp2_with fail
  obtain ⟨W1, e, b1, b2, hS, hlt⟩ := two_new w 23 37 #[.int .i64 x, .int .i64 y] (R3 a b c)
  rw [e]; clear e hlt
  refine ((by have := rvalid_any x y W1; rwa [Hv.out] at this : Calls Try.prog 12 #[T2 x y] W1 fun e w' => e = .returned (.bool true) ∧ Below W1.heap.size W1 w')).mono ?_
  rintro e v2 ⟨rfl, hb⟩
  replace b1 := b1.ext hb
  replace b2 := b2.ext hb
  replace hS := hS.trans (hb.mono hS.size)
  clear hb
  have c_b2 := b2.cell
  have l_b2 := b2.lt
  go_wp2_with fail
  clear c_b2 l_b2
  refine ((by have := rnear_any a b c v2; rwa [Hn.out] at this : Calls Try.prog 22 #[A3 a b c] v2 fun e w' => e = .returned (.bool true) ∧ Below v2.heap.size v2 w')).mono ?_
  rintro e v3 ⟨rfl, hb⟩
  replace b1 := b1.ext hb
  replace b2 := b2.ext hb
  replace hS := hS.trans (hb.mono hS.size)
  clear hb
  go_wp2_with fail
  go_loopw [8, 9] (fun v i wr => ∃ k : Nat, k ≤ l.length ∧ i = .int .i64 k ∧ (l.take k).all neP = true ∧ PtsIn v3.heap.size ((l.take k).map (plP x y a b c)) v wr ∧ Below v3.heap.size v3 wr) (fun _ i _ => l.length - (intOf i).toNat)
  case atStart => exact ⟨0, Nat.zero_le _, rfl, rfl, World.ownsRow_nil _ _ _ _, Below.refl _ _⟩
  case round =>
    obtain ⟨k, hk, rfl, hall, hown, hT⟩ := hrel
    have Hown := Lib.hid hown; clear hown
    have Hall := Lib.hid hall; clear hall
    by_cases hlt : k < l.length
    · obtain ⟨gb, off, rfl, hb, hcell⟩ := (H.out.ext hS) (by omega)
      obtain ⟨h0, h1, h2⟩ := hcell k hlt
      rw [← hT.cell (p := ⟨gb, _, none⟩) hb] at h0 h1 h2
      clear hcell
      generalize hp : l[k] = p at *
      have Hp := Lib.hid hp; clear hp
      have b1 := b1.ext hT
      have b2 := b2.ext hT
      have hk0 : (0 : Int) ≤ (k : Int) := by omega
      have hk1 : (k : Int) < (l.length : Int) := by omega
      go_wp2_with fail
      cases hnp : neP p with
      | false =>
        refine ((by have := rnear_any p.x p.y p.z wr; rwa [show neB p.x p.y p.z = false from hnp] at this : Calls Try.prog 22 #[A3 p.x p.y p.z] wr fun e w' => e = .returned (.bool false) ∧ Below wr.heap.size wr w')).mono ?_
        rintro e w1 ⟨rfl, hb1⟩
        replace hT := hT.trans (hb1.mono hT.size)
        have hbad := Lib.hid (all_bad hlt Hp.out hnp)
        clear hb1 Hown Hall hnp
        go_wp2_with fail
        go_ret2
        exact pathR_far hbad.out ⟨rfl, hS.trans (hT.mono hS.size)⟩
      | true =>
      refine ((by have := rnear_any p.x p.y p.z wr; rwa [show neB p.x p.y p.z = true from hnp] at this : Calls Try.prog 22 #[A3 p.x p.y p.z] wr fun e w' => e = .returned (.bool true) ∧ Below wr.heap.size wr w')).mono ?_
      rintro e w1 ⟨rfl, hb1⟩
      have hgb : gb < wr.heap.size := World.block_lt_of_cell? wr _ h0
      rw [← hb1.cell (p := ⟨gb, _, none⟩) hgb] at h0 h1 h2
      replace b1 := b1.ext hb1
      replace b2 := b2.ext hb1
      have hown1 := own_ext Hown.out hb1
      replace hT := hT.trans (hb1.mono hT.size)
      clear hb1 Hown
      have Hown := Lib.hid hown1; clear hown1
      have Hgood := Lib.hid (take_good hlt Hp.out Hall.out hnp)
      obtain ⟨e0, e1, e2⟩ := cx_rx Hv.out (show neB p.x p.y p.z = true from hnp)
      have Hplus := Lib.hid (fun w => (by have := plus_any (Rx0 x y p.x p.y p.z) (Rx1 x y p.x p.y p.z) (Rx2 x y p.x p.y p.z) a b c w; rwa [rl_pl e0, rl_pl e1, rl_pl e2] at this : Calls Try.prog 48 #[A3 (Rx0 x y p.x p.y p.z) (Rx1 x y p.x p.y p.z) (Rx2 x y p.x p.y p.z), A3 a b c] w fun e w' => e = .returned (A3 (wrap64 (a + Cx0 x y p.x p.y p.z)) (wrap64 (b + Cx1 x y p.x p.y p.z)) (wrap64 (c + Cx2 x y p.x p.y p.z))) ∧ Below w.heap.size w w'))
      clear e0 e1 e2 hnp Hall
      go_wp2_with fail
      have d1 := b1.cellsP
      have d2 := b2.cellsP
      have z0 := cell_plus h0
      have z1 := cell_plus h1
      have z2 := cell_plus h2
      refine wp_region_loose_tail 10 (by kernel_rfl) (by kernel_rfl) (by kernel_rfl) ?_
      simp only [List.take_succ_cons, List.take_zero, List.drop_succ_cons, List.drop_zero]
      repeat (refine loose_quiet rfl rfl rfl ?_; intro K hK; go_big_quiet_op; go_big_quiet_on)
      (refine loose_call _ _ _ rfl rfl (fun w => by kernel_rfl) (fun w' _ => rimage_any x y p.x p.y p.z w' Hax.out.1 Hax.out.2) ?_; simp only [Act.put, List.setIfInBounds_toArray, List.set_cons_zero, List.set_cons_succ])
      repeat (refine loose_quiet rfl rfl rfl ?_; intro K hK; go_big_quiet_op; go_big_quiet_on)
      (refine loose_call _ _ _ rfl rfl (fun w => by kernel_rfl) (fun w' _ => Hplus.out w') ?_; simp only [Act.put, List.setIfInBounds_toArray, List.set_cons_zero, List.set_cons_succ])
      refine loose_new 37 (R3 (wrap64 (a + Cx0 x y p.x p.y p.z)) (wrap64 (b + Cx1 x y p.x p.y p.z)) (wrap64 (c + Cx2 x y p.x p.y p.z))) (fun g => .slice (some ⟨g, 0, none⟩) 1 1) (fun _ => rfl) rfl rfl (fun w => by kernel_rfl) ?_
      clear d1 d2 z0 z1 z2 h0 h1 h2 b1 b2 hb
      refine loose_nil ?_
      intro vals xx hk' hap
      obtain ⟨g, eg, hg1, hg2, hg3⟩ := hk' _ (.head _)
      simp only at eg
      simp only [putK, List.foldr_cons, List.foldr_nil, eg, Act.put, List.setIfInBounds_toArray, List.set_cons_zero, List.set_cons_succ]
      clear eg hk' hap vals
      have hown1 := own_ext Hown.out (below_plus (w := w1) (xx := xx))
      replace hT := hT.trans ((below_plus (w := w1) (xx := xx)).mono hT.size)
      generalize pls w1 xx = V1 at *
      replace hg3 := blk_new hg3
      clear Hown hg1 hg2
      have Hown := Lib.hid hown1; clear hown1
      have hlen : ((l.take k).map (plP x y a b c)).length = k := by simp; omega
      go_wp2_with (at_builtin; obtain ⟨i0, hi, hz0, hz1, hz2⟩ := info_parts Try.info37; refine wpList_append_own _ rfl _ _ 45 rfl v3.heap.size 37 i0 (.agg #[.int .i64 0, .int .i64 0, .int .i64 0]) 3 24 Try.underlying45 hi hz0 hz1 hz2 rfl (by decide) _ _ _ rfl Hown.out ⟨g, 0, none⟩ 1 1 [.int .i64 (plP x y a b c p).x, .int .i64 (plP x y a b c p).y, .int .i64 (plP x y a b c p).z] rfl rfl ?c1 ?c2 ?c3 ?c4 ?c5 ?_)
      case c1 =>
        intro j u hu
        rw [World.add_zero_block]
        refine (hg3.cell _).trans ?_
        simpa [plP] using hu
      case c2 => simp [Value.oneCell']
      case c3 => unfold maxLen; omega
      case c4 => omega
      case c5 => exact hT.size
      intro v' w2 hown2 hg _
      clear hi hz0 hz1 hz2
      have hT2 : Below v3.heap.size v3 w2 := below_grown hT Hown.out hg hT.size (Nat.le_refl _)
      have hfin : PtsIn v3.heap.size ((l.take (k + 1)).map (plP x y a b c)) v' w2 := by
        unfold PtsIn
        rw [take_one hlt Hp.out, List.map_append, List.map_singleton, pcells_snoc, List.length_append, hlen, List.map_take]
        exact hown2
      clear hown2 hg Hown
      have Hfin := Lib.hid hfin; clear hfin
      go_wp2_with fail
      exact ⟨⟨k + 1, by omega, by go_num, Hgood.out, Hfin.out, hT2⟩, by simp [intOf]; omega⟩
    · have hkl : k = l.length := by omega
      subst hkl
      go_wp2_with fail
      obtain ⟨A', n', rfl, hpt⟩ := ptsIn_form Hown.out
      rw [List.take_length] at hpt
      have hgood := Hall.out
      rw [List.take_length] at hgood
      go_ret2
      rw [List.take_length]
      refine pathR_ok hgood ?_
      unfold PathR
      exact ⟨_, _, rfl, hpt, hS.trans (hT.mono hS.size)⟩
end Go.Proofs.Ytjpnijnbfjgnfaa
