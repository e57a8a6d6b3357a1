/- The walk of FramePaths: it returns true, whatever the turn, the point and the list. -/
import Derived.Test.YtjpnijnbfjgnfaaY
namespace Go.Proofs.Ytjpnijnbfjgnfaa
open Go.RowKit BigFrame
theorem path_both (x y a b c : Int) (A : Option Addr) (n : Nat) (l : List Pt) (hl : l.length ≤ 9223372036854775807) : ∃ (l' : List Pt) (k : Int), l'.length ≤ 9223372036854775807 ∧
    (∀ w, PtsAt w A l → Calls Try.prog 29 #[T2 x y, A3 a b c, .slice A l.length n] w (PathR l' k w)) ∧ (∀ w, PtsAt w A l → Calls Try.prog 30 #[T2 x y, A3 a b c, .slice A l.length n] w (PathR l' k w)) := by
  cases hv : vldB x y with
  | false => exact ⟨[], 1, by simp, fun w h => (path_bad x y a b c A n l w h hv).mono fun _ _ => pathR_nil, fun w h => (rpath_bad x y a b c A n l w h hv).mono fun _ _ => pathR_nil⟩
  | true =>
    by_cases hm : l.length ≤ 1000
    · cases hn : neB a b c with
      | false => exact ⟨[], 2, by simp, fun w h => (path_far1 x y a b c A n l w h hv hm hn).mono fun _ _ => pathR_nil, fun w h => (rpath_far1 x y a b c A n l w h hv hm hn).mono fun _ _ => pathR_nil⟩
      | true =>
        cases hg : l.all neP with
        | false => exact ⟨[], 2, by simp, fun w h => (path_far2 x y a b c A n l w h hv hm hn hg).mono fun _ _ => pathR_nil, fun w h => (rpath_list x y a b c A n l w h hv hm hn).mono fun e w' hp => by simpa [PathS, hg] using hp⟩
        | true => exact ⟨l.map (plP x y a b c), 0, by simpa using hl, fun w h => path_ok x y a b c A n l w h hv hm hn hg, fun w h => (rpath_list x y a b c A n l w h hv hm hn).mono fun e w' hp => by simpa only [PathS, hg, if_true] using hp⟩
    · exact ⟨[], 4, by simp, fun w h => (path_full x y a b c A n l w h hv (by omega)).mono fun _ _ => pathR_nil, fun w h => (rpath_full x y a b c A n l w h hv (by omega)).mono fun _ _ => pathR_nil⟩
set_option maxHeartbeats 1000000 in
theorem paths_s1 (x y a b c : Int) (A : Option Addr) (n : Nat) (l : List Pt) (w : World) (h : PtsAt w A l) (h1 : (60 : Int) < (l.length : Int)) (h2 : (l.length : Int) ≤ 1000) : Calls Try.prog 8 #[T2 x y, A3 a b c, .slice A l.length n] w fun e w' => e = .returned (.bool true) ∧ Below w.heap.size w w' := by
  clear h
  go_enter Try.func8, Try.ntmps8
  go_wp2_with fail
  obtain ⟨W1, e, b1, b2, hS, hlt⟩ := two_new w 23 37 #[.int .i64 x, .int .i64 y] (R3 a b c)
  rw [e]; clear e hlt
  refine (awake_any _).mono ?_
  rintro e v2 ⟨rfl, hb⟩
  replace b1 := b1.ext hb
  replace b2 := b2.ext hb
  replace hS := hS.trans (hb.mono hS.size)
  clear hb
  go_wp2_with fail
  all_goals (go_ret; exact ⟨rfl, hS⟩)
set_option maxHeartbeats 1000000 in
theorem paths_s2 (x y a b c : Int) (A : Option Addr) (n : Nat) (l : List Pt) (w : World) (h : PtsAt w A l) (h1 : (1010 : Int) < (l.length : Int)) : Calls Try.prog 8 #[T2 x y, A3 a b c, .slice A l.length n] w fun e w' => e = .returned (.bool true) ∧ Below w.heap.size w w' := by
  clear h
  go_enter Try.func8, Try.ntmps8
  go_wp2_with fail
  obtain ⟨W1, e, b1, b2, hS, hlt⟩ := two_new w 23 37 #[.int .i64 x, .int .i64 y] (R3 a b c)
  rw [e]; clear e hlt
  refine (awake_any _).mono ?_
  rintro e v2 ⟨rfl, hb⟩
  replace b1 := b1.ext hb
  replace b2 := b2.ext hb
  replace hS := hS.trans (hb.mono hS.size)
  clear hb
  go_wp2_with fail
  all_goals (go_ret; exact ⟨rfl, hS⟩)
set_option maxHeartbeats 1000000 in
theorem paths_g1 (x y a b c : Int) (A : Option Addr) (n : Nat) (l : List Pt) (w : World) (h : PtsAt w A l) (h1 : (l.length : Int) ≤ 60) : Calls Try.prog 8 #[T2 x y, A3 a b c, .slice A l.length n] w fun e w' => e = .returned (.bool true) ∧ Below w.heap.size w w' := by
  obtain ⟨l', k, hl', hP, hR⟩ := path_both x y a b c A n l (by omega)
  have H := Lib.hid h; clear h
  have HP := Lib.hid hP; clear hP
  have HR := Lib.hid hR; clear hR
  go_enter Try.func8, Try.ntmps8
  go_wp2_with fail
  obtain ⟨W1, e, b1, b2, hS, hlt⟩ := two_new w 23 37 #[.int .i64 x, .int .i64 y] (R3 a b c)
  rw [e]; clear e hlt
  refine (awake_any _).mono ?_
  rintro e v2 ⟨rfl, hb⟩
  replace b1 := b1.ext hb
  replace b2 := b2.ext hb
  replace hS := hS.trans (hb.mono hS.size)
  clear hb
  have c_b1 := b1.cell
  have l_b1 := b1.lt
  have c_b2 := b2.cell
  have l_b2 := b2.lt
  go_wp2_with fail
  clear c_b1 l_b1 c_b2 l_b2
  refine (HP.out _ (H.out.ext hS)).mono ?_
  intro e v3 hr
  unfold PathR at hr
  obtain ⟨A1, n1, rfl, p1, hb⟩ := hr
  replace b1 := b1.ext hb
  replace b2 := b2.ext hb
  replace hS := hS.trans (hb.mono hS.size)
  clear hb
  have c_b1 := b1.cell
  have l_b1 := b1.lt
  have c_b2 := b2.cell
  have l_b2 := b2.lt
  go_wp2_with fail
  clear c_b1 l_b1 c_b2 l_b2
  refine (HR.out _ (H.out.ext hS)).mono ?_
  intro e v4 hr
  unfold PathR at hr
  obtain ⟨A2, n2, rfl, p2, hb⟩ := hr
  replace b1 := b1.ext hb
  replace b2 := b2.ext hb
  replace hS := hS.trans (hb.mono hS.size)
  replace p1 := p1.ext hb
  clear hb
  have P1 := Lib.hid p1; clear p1
  have P2 := Lib.hid p2; clear p2
  go_wp2_with fail
  refine ((by have := eqP_any A1 A2 n1 n2 l' l' v4 hl' hl' P1.out P2.out; rwa [decide_eq_true (rfl : l' = l')] at this : Calls Try.prog 31 #[.slice A1 l'.length n1, .slice A2 l'.length n2] v4 fun e w' => e = .returned (.bool true) ∧ Below v4.heap.size v4 w')).mono ?_
  rintro e v5 ⟨rfl, hb⟩
  replace b1 := b1.ext hb
  replace b2 := b2.ext hb
  replace hS := hS.trans (hb.mono hS.size)
  clear hb
  go_wp2_with fail
  go_ret
  exact ⟨rfl, by first | exact hS | exact hS.alloc hS.size _⟩
set_option maxHeartbeats 1000000 in
theorem paths_g2 (x y a b c : Int) (A : Option Addr) (n : Nat) (l : List Pt) (w : World) (h : PtsAt w A l) (h1 : (1000 : Int) < (l.length : Int)) (h2 : (l.length : Int) ≤ 1010) : Calls Try.prog 8 #[T2 x y, A3 a b c, .slice A l.length n] w fun e w' => e = .returned (.bool true) ∧ Below w.heap.size w w' := by
  obtain ⟨l', k, hl', hP, hR⟩ := path_both x y a b c A n l (by omega)
  have H := Lib.hid h; clear h
  have HP := Lib.hid hP; clear hP
  have HR := Lib.hid hR; clear hR
  go_enter Try.func8, Try.ntmps8
  go_wp2_with fail
  obtain ⟨W1, e, b1, b2, hS, hlt⟩ := two_new w 23 37 #[.int .i64 x, .int .i64 y] (R3 a b c)
  rw [e]; clear e hlt
  refine (awake_any _).mono ?_
  rintro e v2 ⟨rfl, hb⟩
  replace b1 := b1.ext hb
  replace b2 := b2.ext hb
  replace hS := hS.trans (hb.mono hS.size)
  clear hb
  have c_b1 := b1.cell
  have l_b1 := b1.lt
  have c_b2 := b2.cell
  have l_b2 := b2.lt
  go_wp2_with fail
  clear c_b1 l_b1 c_b2 l_b2
  refine (HP.out _ (H.out.ext hS)).mono ?_
  intro e v3 hr
  unfold PathR at hr
  obtain ⟨A1, n1, rfl, p1, hb⟩ := hr
  replace b1 := b1.ext hb
  replace b2 := b2.ext hb
  replace hS := hS.trans (hb.mono hS.size)
  clear hb
  have c_b1 := b1.cell
  have l_b1 := b1.lt
  have c_b2 := b2.cell
  have l_b2 := b2.lt
  go_wp2_with fail
  clear c_b1 l_b1 c_b2 l_b2
  refine (HR.out _ (H.out.ext hS)).mono ?_
  intro e v4 hr
  unfold PathR at hr
  obtain ⟨A2, n2, rfl, p2, hb⟩ := hr
  replace b1 := b1.ext hb
  replace b2 := b2.ext hb
  replace hS := hS.trans (hb.mono hS.size)
  replace p1 := p1.ext hb
  clear hb
  have P1 := Lib.hid p1; clear p1
  have P2 := Lib.hid p2; clear p2
  go_wp2_with fail
  refine ((by have := eqP_any A1 A2 n1 n2 l' l' v4 hl' hl' P1.out P2.out; rwa [decide_eq_true (rfl : l' = l')] at this : Calls Try.prog 31 #[.slice A1 l'.length n1, .slice A2 l'.length n2] v4 fun e w' => e = .returned (.bool true) ∧ Below v4.heap.size v4 w')).mono ?_
  rintro e v5 ⟨rfl, hb⟩
  replace b1 := b1.ext hb
  replace b2 := b2.ext hb
  replace hS := hS.trans (hb.mono hS.size)
  clear hb
  go_wp2_with fail
  go_ret
  exact ⟨rfl, by first | exact hS | exact hS.alloc hS.size _⟩
theorem paths_any (x y a b c : Int) (A : Option Addr) (n : Nat) (l : List Pt) (w : World) (h : PtsAt w A l) (hm : l.length ≤ 9223372036854775807) : Calls Try.prog 8 #[T2 x y, A3 a b c, .slice A l.length n] w fun e w' => e = .returned (.bool true) ∧ Below w.heap.size w w' := by
  by_cases h1 : l.length ≤ 60
  · exact paths_g1 x y a b c A n l w h (by omega)
  · by_cases h2 : l.length ≤ 1000
    · exact paths_s1 x y a b c A n l w h (by omega) (by omega)
    · by_cases h3 : l.length ≤ 1010
      · exact paths_g2 x y a b c A n l w h (by omega) (by omega)
      · exact paths_s2 x y a b c A n l w h (by omega)
end Go.Proofs.Ytjpnijnbfjgnfaa
