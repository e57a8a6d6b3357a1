/- Contracts of the package frame: what each call returns, and that it leaves what was there as it was: near, and Then where it fails. -/
import Derived.Test.YtjpnijnbfjgnfaaE
namespace Go.Proofs.Ytjpnijnbfjgnfaa
open Go.RowKit BigFrame
/-- Points in memory, one behind the other. -/
structure Pt where
  x : Int
  y : Int
  z : Int
deriving Inhabited, DecidableEq
def PtsAt (w : World) (A : Option Addr) (l : List Pt) : Prop := 0 < l.length → ∃ b off, A = some ⟨b, off, none⟩ ∧ b < w.heap.size ∧
  ∀ i (h : i < l.length), w.cell? ⟨b, off + i * 3, none⟩ = some (.int .i64 l[i].x) ∧ w.cell? ⟨b, off + i * 3 + 1, none⟩ = some (.int .i64 l[i].y) ∧ w.cell? ⟨b, off + i * 3 + 2, none⟩ = some (.int .i64 l[i].z)
def neP (p : Pt) : Bool := neB p.x p.y p.z
theorem all_bad {l : List Pt} {k : Nat} {p : Pt} (hk : k < l.length) (hp : l[k] = p) (h : neP p = false) : l.all neP = false := by
  rw [List.all_eq_false]
  exact ⟨p, by rw [← hp]; exact List.getElem_mem _, by rw [h]; decide⟩
theorem take_good {l : List Pt} {k : Nat} {p : Pt} (hk : k < l.length) (hp : l[k] = p) (ht : (l.take k).all neP = true) (h : neP p = true) : (l.take (k + 1)).all neP = true := by
  rw [List.take_succ_eq_append_getElem hk, List.all_append, ht, hp]
  simp [h]
set_option maxHeartbeats 400000 in
theorem near_any (A : Option Addr) (c : Nat) (l : List Pt) (w : World) (hl : l.length ≤ 9223372036854775807) (h : PtsAt w A l) :
    Calls Try.prog 44 #[.slice A l.length c] w fun e w' => e = .returned (.bool (l.all neP)) ∧ Below w.heap.size w w' := by
  have H := Lib.hid h; clear h
  go_enter Try.func44, Try.ntmps44
  go_wp2_with fail
  go_loopw [9] (fun i wr => ∃ k : Nat, k ≤ l.length ∧ i = .int .i64 k ∧ (l.take k).all neP = true ∧ Below w.heap.size w wr) (fun i _ => l.length - (intOf i).toNat)
  case atStart => exact ⟨0, Nat.zero_le _, rfl, rfl, Below.refl _ _⟩
  case round =>
    obtain ⟨k, hk, rfl, hall, hS⟩ := hrel
    have Hall := Lib.hid hall; clear hall
    by_cases hlt : k < l.length
    · obtain ⟨b, off, rfl, hb, hcell⟩ := H.out (by omega)
      obtain ⟨h0, h1, h2⟩ := hcell k hlt
      rw [← hS.cell (p := ⟨b, _, none⟩) hb] at h0 h1 h2
      clear hcell
      generalize hp : l[k] = p at *
      have Hp := Lib.hid hp; clear hp
      have i0 : ∀ w, (Instr.index 80 (A3 p.x p.y p.z) (.int .i64 0)).run Try.prog w = .ok (.int .i64 p.x) w := fun _ => by kernel_rfl
      have i1 : ∀ w, (Instr.index 80 (A3 p.x p.y p.z) (.int .i64 1)).run Try.prog w = .ok (.int .i64 p.y) w := fun _ => by kernel_rfl
      have i2 : ∀ w, (Instr.index 80 (A3 p.x p.y p.z) (.int .i64 2)).run Try.prog w = .ok (.int .i64 p.z) w := fun _ => by kernel_rfl
      go_wp2_with fail
      go_rounds 4
      all_goals first
        | (go_ret
           refine ⟨ret_bool (all_bad hlt Hp.out ?_).symm, hS.alloc hS.size _⟩
           unfold neP neB wiB
           simp only [Bool.and_eq_false_iff, decide_eq_false_iff_not]
           omega)
        | (refine ⟨⟨k + 1, by omega, by go_num, take_good hlt Hp.out Hall.out ?_, hS.alloc hS.size _⟩, by simp [intOf]; omega⟩
           unfold neP neB wiB
           simp only [Bool.and_eq_true, decide_eq_true_eq]
           omega)
    · have hkl : k = l.length := by omega
      subst hkl
      go_wp2_with fail
      go_ret
      refine ⟨ret_bool ?_, hS⟩
      have := Hall.out
      rw [List.take_length] at this
      exact this.symm

set_option maxHeartbeats 400000 in
theorem then_bad (a b x y : Int) (w : World) (hv : vldB a b = false ∨ vldB x y = false) :
    Calls Try.prog 16 #[T2 a b, T2 x y] w fun e w' => e = .returned (.tuple #[T2 0 0, .int .i64 1]) ∧ Below w.heap.size w w' := by
  have Hv := Lib.hid hv; clear hv
  go_enter Try.func16, Try.ntmps16
  go_wp2_with fail
  obtain ⟨W, e, b0, b1, b2, hS, hlt⟩ := three_new w 23 23 23 #[.int .i64 a, .int .i64 b] #[.int .i64 x, .int .i64 y] #[.int .i64 0, .int .i64 0]
  rw [e]; clear e
  by_cases hab : vldB a b = false
  · refine (valid_any a b _).mono ?_
    rw [hab]
    rintro e w1 ⟨rfl, hb⟩
    replace b2 := b2.ext hb
    replace hS := hS.trans (hb.mono hS.size)
    obtain ⟨c2, f2⟩ := b2.cells
    clear hab hb
    go_wp2_with fail
    obtain ⟨W2, e, b2, t⟩ := set_row2 b2 (.int .i64 0) (.int .i64 0)
    rw [e]
    exact bodyPost_ret (results_cell_row_tmp Try.results16 _ _ (w.heap.size + 1 + 1) 23 _ (0, 0) _ rfl b2 Try.underlying23 rfl (by kernel_rfl)) rfl ⟨rfl, Turned.below hS t (by omega)⟩
  · refine (valid_any a b _).mono ?_
    rw [show vldB a b = true by simpa using hab]
    rintro e w1 ⟨rfl, hb⟩
    replace b1 := b1.ext hb
    replace b2 := b2.ext hb
    replace hS := hS.trans (hb.mono hS.size)
    have c1 := b1.cell
    clear hb
    go_wp2_with fail
    refine (valid_any x y _).mono ?_
    rw [show vldB x y = false from Hv.out.resolve_left hab]
    rintro e w2 ⟨rfl, hb⟩
    clear c1 hab
    replace b2 := b2.ext hb
    replace hS := hS.trans (hb.mono hS.size)
    obtain ⟨c2, f2⟩ := b2.cells
    clear hb
    go_wp2_with fail
    obtain ⟨W2, e, b2, t⟩ := set_row2 b2 (.int .i64 0) (.int .i64 0)
    rw [e]
    exact bodyPost_ret (results_cell_row_tmp Try.results16 _ _ (w.heap.size + 1 + 1) 23 _ (0, 0) _ rfl b2 Try.underlying23 rfl (by kernel_rfl)) rfl ⟨rfl, Turned.below hS t (by omega)⟩
end Go.Proofs.Ytjpnijnbfjgnfaa
