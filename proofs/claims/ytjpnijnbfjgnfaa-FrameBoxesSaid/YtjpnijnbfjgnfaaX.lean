/- Contracts: Path and the reference's Path. -/
import Derived.Test.YtjpnijnbfjgnfaaU
namespace Go.Proofs.Ytjpnijnbfjgnfaa
open Go.RowKit BigFrame
def plP (x y a b c : Int) (p : Pt) : Pt := ⟨wrap64 (a + Cx0 x y p.x p.y p.z), wrap64 (b + Cx1 x y p.x p.y p.z), wrap64 (c + Cx2 x y p.x p.y p.z)⟩
def pcells (l : List Pt) : List Value := l.flatMap fun p => [.int .i64 p.x, .int .i64 p.y, .int .i64 p.z]
theorem pcells_snoc (l : List Pt) (p : Pt) : pcells (l ++ [p]) = pcells l ++ [.int .i64 p.x, .int .i64 p.y, .int .i64 p.z] := by simp [pcells]
theorem pcells_get : ∀ (l : List Pt) (i : Nat) (h : i < l.length), (pcells l)[i * 3]? = some (.int .i64 l[i].x) ∧ (pcells l)[i * 3 + 1]? = some (.int .i64 l[i].y) ∧ (pcells l)[i * 3 + 2]? = some (.int .i64 l[i].z)
  | [], i, h => absurd h (by simp)
  | p :: l, 0, _ => ⟨rfl, rfl, rfl⟩
  | p :: l, i + 1, h => by
    have := pcells_get l i (by simpa using h)
    have e : pcells (p :: l) = .int .i64 p.x :: .int .i64 p.y :: .int .i64 p.z :: pcells l := rfl
    rw [e, show (i + 1) * 3 = i * 3 + 1 + 1 + 1 by omega]
    simpa using this
theorem Try.info37 : (Try.prog.info? 37).map (fun i => (i.zero, i.size, i.bytes)) = some (some (.agg #[.int .i64 0, .int .i64 0, .int .i64 0]), 3, 24) := by kernel_rfl
/-- A slice of points, in new memory. -/
def PtsIn (B : Nat) (l : List Pt) (v : Value) (w : World) : Prop := w.ownsRow B 37 3 v l.length (pcells l)
theorem ptsIn_form {B : Nat} {l : List Pt} {v : Value} {w : World} (h : PtsIn B l v w) : ∃ A c, v = .slice A l.length c ∧ PtsAt w A l := by
  rcases h.2 with ⟨rfl, h0⟩ | ⟨g, cap, cur, rfl, _, hg, hn, _, hs, htake⟩
  · exact ⟨none, 0, by rw [h0], fun h1 => by omega⟩
  · refine ⟨_, cap, rfl, fun _ => ⟨g, 0, rfl, ?_, fun i hi => ?_⟩⟩
    · exact Blk.lt (show Blk w g 37 cur from hg)
    · have hb : Blk w g 37 cur := hg
      obtain ⟨h1, h2, h3⟩ := pcells_get l i hi
      have key : ∀ j u, (pcells l)[j]? = some u → w.cell? ⟨g, 0 + j, none⟩ = some u := fun j u hu => by
        rw [Nat.zero_add, hb.cell]
        rw [← htake] at hu
        have hj : j < l.length * 3 := by
          have := (List.getElem?_eq_some_iff.1 hu).1
          simp at this
          omega
        rw [List.getElem?_take_of_lt hj] at hu
        simpa using hu
      exact ⟨key _ _ h1, key _ _ h2, key _ _ h3⟩
def PathR (l : List Pt) (k : Int) (w : World) (e : Ending) (w' : World) : Prop := ∃ A n, e = .returned (.tuple #[.slice A l.length n, .int .i64 k]) ∧ PtsAt w' A l ∧ Below w.heap.size w w'
theorem pathR_nil {k : Int} {w w' : World} {e : Ending} (h : e = .returned (.tuple #[.slice none 0 0, .int .i64 k]) ∧ Below w.heap.size w w') : PathR [] k w e w' := ⟨none, 0, h.1, fun h => absurd h (by simp), h.2⟩
theorem take_one {l : List Pt} {k : Nat} {p : Pt} (hk : k < l.length) (hp : l[k] = p) : l.take (k + 1) = l.take k ++ [p] := by
  rw [List.take_add_one, List.getElem?_eq_getElem hk, hp]; rfl
set_option maxHeartbeats 1000000 in
theorem path_bad (x y a b c : Int) (A : Option Addr) (n : Nat) (l : List Pt) (w : World) (h : PtsAt w A l) (hv : vldB x y = false) : Calls Try.prog 29 #[T2 x y, A3 a b c, .slice A l.length n] w fun e w' => e = .returned (.tuple #[.slice none 0 0, .int .i64 1]) ∧ Below w.heap.size w w' := by
  clear h
  have Hv := Lib.hid hv; clear hv
  go_enter Try.func29, Try.ntmps29
  go_wp2_with fail
  obtain ⟨W1, e, b1, b2, hS, hlt⟩ := two_new w 23 37 #[.int .i64 x, .int .i64 y] (R3 a b c)
  rw [e]; clear e hlt
  refine ((by have := valid_any x y W1; rwa [Hv.out] at this : Calls Try.prog 11 #[T2 x y] W1 fun e w' => e = .returned (.bool false) ∧ Below W1.heap.size W1 w')).mono ?_
  rintro e v2 ⟨rfl, hb⟩
  replace b1 := b1.ext hb
  replace b2 := b2.ext hb
  replace hS := hS.trans (hb.mono hS.size)
  clear hb
  go_wp2_with fail
  go_ret2
  exact ⟨rfl, by first | exact hS | exact hS.alloc hS.size _⟩
set_option maxHeartbeats 1000000 in
theorem path_full (x y a b c : Int) (A : Option Addr) (n : Nat) (l : List Pt) (w : World) (h : PtsAt w A l) (hv : vldB x y = true) (hm : 1000 < l.length) : Calls Try.prog 29 #[T2 x y, A3 a b c, .slice A l.length n] w fun e w' => e = .returned (.tuple #[.slice none 0 0, .int .i64 4]) ∧ Below w.heap.size w w' := by
  clear h
  have Hv := Lib.hid hv; clear hv
  have hm' : (1000 : Int) < (l.length : Int) := by omega
  go_enter Try.func29, Try.ntmps29
  go_wp2_with fail
  obtain ⟨W1, e, b1, b2, hS, hlt⟩ := two_new w 23 37 #[.int .i64 x, .int .i64 y] (R3 a b c)
  rw [e]; clear e hlt
  refine ((by have := valid_any x y W1; rwa [Hv.out] at this : Calls Try.prog 11 #[T2 x y] W1 fun e w' => e = .returned (.bool true) ∧ Below W1.heap.size W1 w')).mono ?_
  rintro e v2 ⟨rfl, hb⟩
  replace b1 := b1.ext hb
  replace b2 := b2.ext hb
  replace hS := hS.trans (hb.mono hS.size)
  clear hb
  go_wp2_with fail
  go_ret2
  exact ⟨rfl, by first | exact hS | exact hS.alloc hS.size _⟩
set_option maxHeartbeats 1000000 in
theorem path_far1 (x y a b c : Int) (A : Option Addr) (n : Nat) (l : List Pt) (w : World) (h : PtsAt w A l) (hv : vldB x y = true) (hm : l.length ≤ 1000) (hn : neB a b c = false) : Calls Try.prog 29 #[T2 x y, A3 a b c, .slice A l.length n] w fun e w' => e = .returned (.tuple #[.slice none 0 0, .int .i64 2]) ∧ Below w.heap.size w w' := by
  clear h
  have Hv := Lib.hid hv; clear hv
  have Hn := Lib.hid hn; clear hn
  have hm' : (l.length : Int) ≤ 1000 := by omega
  go_enter Try.func29, Try.ntmps29
  go_wp2_with fail
  obtain ⟨W1, e, b1, b2, hS, hlt⟩ := two_new w 23 37 #[.int .i64 x, .int .i64 y] (R3 a b c)
  rw [e]; clear e hlt
  refine ((by have := valid_any x y W1; rwa [Hv.out] at this : Calls Try.prog 11 #[T2 x y] W1 fun e w' => e = .returned (.bool true) ∧ Below W1.heap.size W1 w')).mono ?_
  rintro e v2 ⟨rfl, hb⟩
  replace b1 := b1.ext hb
  replace b2 := b2.ext hb
  replace hS := hS.trans (hb.mono hS.size)
  clear hb
  have c_b2 := b2.cell
  have l_b2 := b2.lt
  go_wp2_with fail
  clear c_b2 l_b2
  obtain ⟨W3, e, b3, hb, hlt⟩ := one_new v2 37 (R3 a b c)
  rw [e]; clear e hlt
  replace b1 := b1.ext hb
  replace b2 := b2.ext hb
  replace hS := hS.trans (hb.mono hS.size)
  clear hb
  refine ((by have := near_any (some ⟨v2.heap.size, 0, none⟩) 1 [⟨a, b, c⟩] W3 (by simp) (ptsAt_blk b3); rwa [show ([⟨a, b, c⟩] : List Pt).all neP = false by rw [← Hn.out]; simp [neP]] at this : Calls Try.prog 44 #[.slice (some ⟨v2.heap.size, 0, none⟩) 1 1] W3 fun e w' => e = .returned (.bool false) ∧ Below W3.heap.size W3 w')).mono ?_
  rintro e v4 ⟨rfl, hb⟩
  replace b1 := b1.ext hb
  replace b2 := b2.ext hb
  replace b3 := b3.ext hb
  replace hS := hS.trans (hb.mono hS.size)
  clear hb
  go_wp2_with fail
  go_ret2
  exact ⟨rfl, by first | exact hS | exact hS.alloc hS.size _⟩
set_option maxHeartbeats 1000000 in
theorem path_far2 (x y a b c : Int) (A : Option Addr) (n : Nat) (l : List Pt) (w : World) (h : PtsAt w A l) (hv : vldB x y = true) (hm : l.length ≤ 1000) (hn : neB a b c = true) (hl : l.all neP = false) : Calls Try.prog 29 #[T2 x y, A3 a b c, .slice A l.length n] w fun e w' => e = .returned (.tuple #[.slice none 0 0, .int .i64 2]) ∧ Below w.heap.size w w' := by
  have H := Lib.hid h; clear h
  have Hv := Lib.hid hv; clear hv
  have Hn := Lib.hid hn; clear hn
  have Hl := Lib.hid hl; clear hl
  have hm' : (l.length : Int) ≤ 1000 := by omega
  go_enter Try.func29, Try.ntmps29
  go_wp2_with fail
  obtain ⟨W1, e, b1, b2, hS, hlt⟩ := two_new w 23 37 #[.int .i64 x, .int .i64 y] (R3 a b c)
  rw [e]; clear e hlt
  refine ((by have := valid_any x y W1; rwa [Hv.out] at this : Calls Try.prog 11 #[T2 x y] W1 fun e w' => e = .returned (.bool true) ∧ Below W1.heap.size W1 w')).mono ?_
  rintro e v2 ⟨rfl, hb⟩
  replace b1 := b1.ext hb
  replace b2 := b2.ext hb
  replace hS := hS.trans (hb.mono hS.size)
  clear hb
  have c_b2 := b2.cell
  have l_b2 := b2.lt
  go_wp2_with fail
  clear c_b2 l_b2
  obtain ⟨W3, e, b3, hb, hlt⟩ := one_new v2 37 (R3 a b c)
  rw [e]; clear e hlt
  replace b1 := b1.ext hb
  replace b2 := b2.ext hb
  replace hS := hS.trans (hb.mono hS.size)
  clear hb
  refine ((by have := near_any (some ⟨v2.heap.size, 0, none⟩) 1 [⟨a, b, c⟩] W3 (by simp) (ptsAt_blk b3); rwa [show ([⟨a, b, c⟩] : List Pt).all neP = true by rw [← Hn.out]; simp [neP]] at this : Calls Try.prog 44 #[.slice (some ⟨v2.heap.size, 0, none⟩) 1 1] W3 fun e w' => e = .returned (.bool true) ∧ Below W3.heap.size W3 w')).mono ?_
  rintro e v4 ⟨rfl, hb⟩
  replace b1 := b1.ext hb
  replace b2 := b2.ext hb
  replace b3 := b3.ext hb
  replace hS := hS.trans (hb.mono hS.size)
  clear hb
  go_wp2_with fail
  refine ((by have := near_any A n l v4 (by omega) (H.out.ext hS); rwa [Hl.out] at this : Calls Try.prog 44 #[.slice A l.length n] v4 fun e w' => e = .returned (.bool false) ∧ Below v4.heap.size v4 w')).mono ?_
  rintro e v5 ⟨rfl, hb⟩
  replace b1 := b1.ext hb
  replace b2 := b2.ext hb
  replace b3 := b3.ext hb
  replace hS := hS.trans (hb.mono hS.size)
  clear hb
  go_wp2_with fail
  go_ret2
  exact ⟨rfl, by first | exact hS | exact hS.alloc hS.size _⟩
set_option maxHeartbeats 2000000 in
theorem path_ok (x y a b c : Int) (A : Option Addr) (n : Nat) (l : List Pt) (w : World) (h : PtsAt w A l) (hv : vldB x y = true) (hm : l.length ≤ 1000) (hn : neB a b c = true) (hl : l.all neP = true) : Calls Try.prog 29 #[T2 x y, A3 a b c, .slice A l.length n] w (PathR (l.map (plP x y a b c)) 0 w) := by
  have Hax := Lib.hid (vldB_ax hv)
  have hm' : (l.length : Int) ≤ 1000 := by omega
  have H := Lib.hid h; clear h
  have Hv := Lib.hid hv; clear hv
  have Hn := Lib.hid hn; clear hn
  have Hl := Lib.hid hl; clear hl
  go_enter Try.func29, Try.ntmps29
  go_wp2_with fail
  obtain ⟨W1, e, b1, b2, hS, hlt⟩ := two_new w 23 37 #[.int .i64 x, .int .i64 y] (R3 a b c)
  rw [e]; clear e hlt
  refine ((by have := valid_any x y W1; rwa [Hv.out] at this : Calls Try.prog 11 #[T2 x y] W1 fun e w' => e = .returned (.bool true) ∧ Below W1.heap.size W1 w')).mono ?_
  rintro e v2 ⟨rfl, hb⟩
  replace b1 := b1.ext hb
  replace b2 := b2.ext hb
  replace hS := hS.trans (hb.mono hS.size)
  clear hb
  have c_b2 := b2.cell
  have l_b2 := b2.lt
  go_wp2_with fail
  clear c_b2 l_b2
  obtain ⟨W3, e, b3, hb, hlt⟩ := one_new v2 37 (R3 a b c)
  rw [e]; clear e hlt
  replace b1 := b1.ext hb
  replace b2 := b2.ext hb
  replace hS := hS.trans (hb.mono hS.size)
  clear hb
  refine ((by have := near_any (some ⟨v2.heap.size, 0, none⟩) 1 [⟨a, b, c⟩] W3 (by simp) (ptsAt_blk b3); rwa [show ([⟨a, b, c⟩] : List Pt).all neP = true by rw [← Hn.out]; simp [neP]] at this : Calls Try.prog 44 #[.slice (some ⟨v2.heap.size, 0, none⟩) 1 1] W3 fun e w' => e = .returned (.bool true) ∧ Below W3.heap.size W3 w')).mono ?_
  rintro e v4 ⟨rfl, hb⟩
  replace b1 := b1.ext hb
  replace b2 := b2.ext hb
  replace b3 := b3.ext hb
  replace hS := hS.trans (hb.mono hS.size)
  clear hb
  go_wp2_with fail
  refine ((by have := near_any A n l v4 (by omega) (H.out.ext hS); rwa [Hl.out] at this : Calls Try.prog 44 #[.slice A l.length n] v4 fun e w' => e = .returned (.bool true) ∧ Below v4.heap.size v4 w')).mono ?_
  rintro e v5 ⟨rfl, hb⟩
  replace b1 := b1.ext hb
  replace b2 := b2.ext hb
  replace b3 := b3.ext hb
  replace hS := hS.trans (hb.mono hS.size)
  clear hb
  go_wp2_with fail
  go_loopw [8, 31] (fun v i wr => ∃ k : Nat, k ≤ l.length ∧ i = .int .i64 k ∧ PtsIn v5.heap.size ((l.take k).map (plP x y a b c)) v wr ∧ Below v5.heap.size v5 wr) (fun _ i _ => l.length - (intOf i).toNat)
  case atStart => exact ⟨0, Nat.zero_le _, rfl, World.ownsRow_nil _ _ _ _, Below.refl _ _⟩
  case round =>
    obtain ⟨k, hk, rfl, hown, hT⟩ := hrel
    have Hown := Lib.hid hown; clear hown
    by_cases hlt : k < l.length
    · obtain ⟨gb, off, rfl, hb, hcell⟩ := (H.out.ext hS) (by omega)
      obtain ⟨h0, h1, h2⟩ := hcell k hlt
      rw [← hT.cell (p := ⟨gb, _, none⟩) hb] at h0 h1 h2
      clear hcell
      generalize hp : l[k] = p at *
      have Hp := Lib.hid hp; clear hp
      have b1 := b1.ext hT
      have b2 := b2.ext hT
      have c_b1 := b1.cell
      have l_b1 := b1.lt
      have c_b2 := b2.cell
      have l_b2 := b2.lt
      go_wp2_with fail
      obtain ⟨W, e, b0, hb0, _⟩ := one_new wr 37 (R3 p.x p.y p.z)
      rw [e]; clear e
      refine (placed_any x y a b c p.x p.y p.z _ Hax.out.1 Hax.out.2).mono ?_
      rintro e w1 ⟨rfl, hb1⟩
      have hb2 := hb0.trans (hb1.mono hb0.size)
      have hown1 := own_ext Hown.out hb2
      replace hT := hT.trans (hb2.mono hT.size)
      clear hb0 hb1 hb2 Hown c_b1 l_b1 c_b2 l_b2 h0 h1 h2
      have Hown := Lib.hid hown1; clear hown1
      have hlen : ((l.take k).map (plP x y a b c)).length = k := by simp; omega
      go_wp2_with (at_builtin; obtain ⟨i0, hi, hz0, hz1, hz2⟩ := info_parts Try.info37; refine wpList_append_own _ rfl _ _ 45 rfl v5.heap.size 37 i0 (.agg #[.int .i64 0, .int .i64 0, .int .i64 0]) 3 24 Try.underlying45 hi hz0 hz1 hz2 rfl (by decide) _ _ _ rfl (Hown.out.alloc _) ⟨w1.heap.size, 0, none⟩ 1 1 [.int .i64 (plP x y a b c p).x, .int .i64 (plP x y a b c p).y, .int .i64 (plP x y a b c p).z] rfl rfl ?c1 ?c2 ?c3 ?c4 ?c5 ?_)
      case c1 =>
        intro j u hu
        have hbn := Blk.new w1 37 #[.int .i64 (plP x y a b c p).x, .int .i64 (plP x y a b c p).y, .int .i64 (plP x y a b c p).z]
        rw [World.add_zero_block]
        refine (hbn.cell _).trans ?_
        simpa using hu
      case c2 => simp [Value.oneCell']
      case c3 => unfold maxLen; omega
      case c4 => omega
      case c5 => have := hT.size; simp; omega
      intro v' w2 hown2 hg _
      clear hi hz0 hz1 hz2
      have hT2 : Below v5.heap.size v5 w2 := below_grown (hT.alloc hT.size _) (Hown.out.alloc _) hg (by have := hT.size; simp; omega) (Nat.le_refl _)
      have hfin : PtsIn v5.heap.size ((l.take (k + 1)).map (plP x y a b c)) v' w2 := by
        unfold PtsIn
        rw [take_one hlt Hp.out, List.map_append, List.map_singleton, pcells_snoc, List.length_append, hlen, List.map_take]
        exact hown2
      clear hown2 hg Hown
      have Hfin := Lib.hid hfin; clear hfin
      go_wp2_with fail
      exact ⟨⟨k + 1, by omega, by go_num, Hfin.out, hT2⟩, by simp [intOf]; omega⟩
    · have hkl : k = l.length := by omega
      subst hkl
      go_wp2_with fail
      obtain ⟨A', n', rfl, hpt⟩ := ptsIn_form Hown.out
      rw [List.take_length] at hpt
      go_ret2
      rw [List.take_length]
      unfold PathR
      exact ⟨_, _, rfl, hpt, hS.trans (hT.mono hS.size)⟩
end Go.Proofs.Ytjpnijnbfjgnfaa
