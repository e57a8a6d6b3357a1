/- Contracts: ready, and slices.ContainsFunc, slices.IndexFunc where it calls them. -/
import Derived.Test.YtjpnijnbfjgnfaaM
namespace Go.Proofs.Ytjpnijnbfjgnfaa
open Go.RowKit BigFrame
abbrev notNear : Value := .func (.func 43) #[] #[]
set_option maxHeartbeats 400000 in
theorem ready1_any (a b c : Int) (w : World) : Calls Try.prog 43 #[A3 a b c] w fun e w' => e = .returned (.bool (!neB a b c)) ∧ Below w.heap.size w w' := by
  go_enter Try.func43, Try.ntmps43
  go_wp2_with (go_at_call 22; refine (rnear_any _ _ _ _).mono ?_; rintro e w1 ⟨rfl, hb⟩)
  go_ret
  exact ⟨rfl, ((Below.refl _ _).alloc (Nat.le_refl _) _).trans (hb.mono (by simp))⟩
def firstBad : List Pt → Int → Int
  | [], _ => -1
  | p :: l, k => if neP p then firstBad l (k + 1) else k
theorem firstBad_neg : ∀ (l : List Pt) (k : Int), 0 ≤ k → (decide (0 ≤ firstBad l k) = !(l.all neP))
  | [], k, _ => by simp [firstBad]
  | p :: l, k, hk => by
    unfold firstBad
    cases hp : neP p with
    | true => simp [hp, firstBad_neg l (k + 1) (by omega)]
    | false => simp [hp, hk]
theorem firstBad_at : ∀ (l : List Pt) (j : Nat) (k : Int) (_ : j < l.length), (l.take j).all neP = true → neP l[j] = false → firstBad l k = k + j
  | [], j, k, h, _, _ => absurd h (by simp)
  | p :: l, 0, k, _, _, hn => by
    unfold firstBad
    simp only [List.getElem_cons_zero] at hn
    rw [hn]; simp
  | p :: l, j + 1, k, h, ha, hn => by
    simp only [List.take_succ_cons, List.all_cons, Bool.and_eq_true] at ha
    unfold firstBad
    rw [ha.1]
    simp only [if_true]
    rw [firstBad_at l j (k + 1) (by simpa using h) ha.2 (by simpa using hn)]
    omega
theorem firstBad_none (l : List Pt) (k : Int) (h : l.all neP = true) : firstBad l k = -1 := by
  induction l generalizing k with
  | nil => rfl
  | cons p l ih =>
    simp only [List.all_cons, Bool.and_eq_true] at h
    unfold firstBad
    rw [h.1]
    simp [ih (k + 1) h.2]
set_option maxHeartbeats 1000000 in
theorem idx_any (A : Option Addr) (c : Nat) (l : List Pt) (w : World) (hl : l.length ≤ 9223372036854775807) (h : PtsAt w A l) :
    Calls Try.prog 55 #[.slice A l.length c, notNear] w fun e w' => e = .returned (.int .i64 (firstBad l 0)) ∧ Below w.heap.size w w' := by
  have H := Lib.hid h; clear h
  go_enter Try.func55, Try.ntmps55
  go_wp2_with fail
  go_loopw [8] (fun i wr => ∃ k : Nat, k ≤ l.length ∧ i = .int .i64 k ∧ (l.take k).all neP = true ∧ Below w.heap.size w wr) (fun i _ => l.length - (intOf i).toNat)
  case atStart => exact ⟨0, Nat.zero_le _, rfl, rfl, Below.refl _ _⟩
  case round =>
    obtain ⟨k, hk, rfl, hall, hS⟩ := hrel
    have Hall := Lib.hid hall; clear hall
    by_cases hlt : k < l.length
    · obtain ⟨b, off, rfl, hb, hcell⟩ := (H.out.ext hS) (by omega)
      obtain ⟨h0, h1, h2⟩ := hcell k hlt
      clear hcell
      have Hbad := Lib.hid (firstBad_at l k 0 hlt Hall.out)
      generalize hp : l[k] = p at *
      have Hp := Lib.hid hp; clear hp
      by_cases hn : neB p.x p.y p.z = true
      · go_wp2_with (go_at_call 43; refine (ready1_any _ _ _ _).mono ?_; rw [hn]; rintro e w1 ⟨rfl, hb1⟩)
        exact ⟨⟨k + 1, by omega, by go_num, take_good hlt Hp.out Hall.out hn, hS.trans (hb1.mono hS.size)⟩, by simp [intOf]; omega⟩
      · replace hn : neB p.x p.y p.z = false := by simpa using hn
        go_wp2_with (go_at_call 43; refine (ready1_any _ _ _ _).mono ?_; rw [hn]; rintro e w1 ⟨rfl, hb1⟩)
        go_ret
        refine ⟨ret_int ?_, hS.trans (hb1.mono hS.size)⟩
        rw [Hbad.out hn]; omega
    · have hkl : k = l.length := by omega
      subst hkl
      go_wp2_with fail
      go_ret
      refine ⟨ret_int ?_, hS⟩
      have := Hall.out
      rw [List.take_length] at this
      exact (firstBad_none l 0 this).symm
set_option maxHeartbeats 400000 in
theorem contains_any (A : Option Addr) (c : Nat) (l : List Pt) (w : World) (hl : l.length ≤ 9223372036854775807) (h : PtsAt w A l) :
    Calls Try.prog 42 #[.slice A l.length c, notNear] w fun e w' => e = .returned (.bool (!(l.all neP))) ∧ Below w.heap.size w w' := by
  have H := Lib.hid h; clear h
  go_enter Try.func42, Try.ntmps42
  go_wp2_with (go_at_call 55; refine (idx_any _ _ _ _ hl H.out).mono ?_; rintro e w1 ⟨rfl, hb1⟩)
  go_ret
  exact ⟨ret_bool (firstBad_neg l 0 (by omega)), hb1⟩
def rdyB (x y : Int) (l : List Pt) : Bool := vldB x y && l.all neP
set_option maxHeartbeats 400000 in
theorem ready_any (x y : Int) (A : Option Addr) (c : Nat) (l : List Pt) (w : World) (hl : l.length ≤ 9223372036854775807) (h : PtsAt w A l) :
    Calls Try.prog 20 #[T2 x y, .slice A l.length c] w fun e w' => e = .returned (.bool (rdyB x y l)) ∧ Below w.heap.size w w' := by
  have H := Lib.hid h; clear h
  cases hv : vldB x y with
  | false =>
    go_enter Try.func20, Try.ntmps20
    go_wp2_with fail
    obtain ⟨W, e, b1, hS, hlt⟩ := one_new w 23 #[.int .i64 x, .int .i64 y]
    rw [e]; clear e
    refine (rvalid_any x y _).mono ?_
    rw [hv]
    rintro e w1 ⟨rfl, hb⟩
    have Hv := Lib.hid hv; clear hv
    go_wp2_with fail
    go_ret
    exact ⟨ret_bool (by unfold rdyB; rw [Hv.out]; rfl), hS.trans (hb.mono hS.size)⟩
  | true =>
    go_enter Try.func20, Try.ntmps20
    go_wp2_with fail
    obtain ⟨W, e, b1, hS, hlt⟩ := one_new w 23 #[.int .i64 x, .int .i64 y]
    rw [e]; clear e
    refine (rvalid_any x y _).mono ?_
    rw [hv]
    rintro e w1 ⟨rfl, hb⟩
    have Hv := Lib.hid hv; clear hv
    go_wp2_with fail
    refine (contains_any _ _ _ _ hl (H.out.ext (hS.trans (hb.mono hS.size)))).mono ?_
    rintro e w2 ⟨rfl, hb2⟩
    replace hS := hS.trans (hb.mono hS.size)
    replace hS := hS.trans (hb2.mono hS.size)
    go_wp2_with fail
    go_ret
    exact ⟨ret_bool (by unfold rdyB; rw [Hv.out]; simp), hS⟩
end Go.Proofs.Ytjpnijnbfjgnfaa
