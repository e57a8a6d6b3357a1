/- Contracts of the package frame: what each call returns, and that it leaves what was there as it was: slices.Equal at turns, points and numbers. -/
import Derived.Test.YtjpnijnbfjgnfaaH
namespace Go.Proofs.Ytjpnijnbfjgnfaa
open Go.RowKit BigFrame
theorem below_drewN {B : Nat} {a w : World} (h : Below B a w) (n : Nat) : Below B a (w.drewN n) := ⟨h.os, h.tape, h.output, h.size, h.block⟩
theorem fields23 : (Try.prog.fieldsOf 23).toList = [⟨"X", 3, 0, false, "", "", 0⟩, ⟨"Y", 3, 1, false, "", "", 8⟩] := by kernel_rfl
theorem neq23 (a0 a1 b0 b1 : Int) (w : World) : (binOp .neq 23 (T2 a0 a1) (T2 b0 b1)).run Try.prog w = .ok (.bool (!(a0 == b0 && a1 == b1))) w := by
  rw [run_neq_struct, run_equalIn_struct w 9999 23 _ _ (by kernel_rfl) (by kernel_rfl), fields23]
  simp [Op.eqFields, go_sem]
  by_cases h0 : a0 = b0 <;> by_cases h1 : a1 = b1 <;> simp [*]
theorem eql23 (a0 a1 b0 b1 : Int) (w : World) : (binOp .eql 23 (T2 a0 a1) (T2 b0 b1)).run Try.prog w = .ok (.bool (a0 == b0 && a1 == b1)) w := by
  rw [run_eql_struct, run_equalIn_struct w 9999 23 _ _ (by kernel_rfl) (by kernel_rfl), fields23]
  simp [Op.eqFields, go_sem]
  by_cases h0 : a0 = b0 <;> by_cases h1 : a1 = b1 <;> simp [*]
theorem eqg23 (op : BinOp) (x y : Operand) (xs ys : Array Value) (w : World) : (eqGuard op 23 x y (.agg xs) (.agg ys)).run Try.prog w = .ok () w := run_eqGuard_agg w op 23 x y xs ys (by kernel_rfl)
theorem fields37 : (Try.prog.fieldsOf 37).toList = [⟨"X", 3, 0, false, "", "", 0⟩, ⟨"Y", 3, 1, false, "", "", 8⟩, ⟨"Z", 3, 2, false, "", "", 16⟩] := by kernel_rfl
theorem neq37 (a0 a1 a2 b0 b1 b2 : Int) (w : World) : (binOp .neq 37 (A3 a0 a1 a2) (A3 b0 b1 b2)).run Try.prog w = .ok (.bool (!(a0 == b0 && a1 == b1 && a2 == b2))) w := by
  rw [run_neq_struct, run_equalIn_struct w 9999 37 _ _ (by kernel_rfl) (by kernel_rfl), fields37]
  simp [Op.eqFields, go_sem]
  by_cases h0 : a0 = b0 <;> by_cases h1 : a1 = b1 <;> by_cases h2 : a2 = b2 <;> simp [*]
theorem eql37 (a0 a1 a2 b0 b1 b2 : Int) (w : World) : (binOp .eql 37 (A3 a0 a1 a2) (A3 b0 b1 b2)).run Try.prog w = .ok (.bool (a0 == b0 && a1 == b1 && a2 == b2)) w := by
  rw [run_eql_struct, run_equalIn_struct w 9999 37 _ _ (by kernel_rfl) (by kernel_rfl), fields37]
  simp [Op.eqFields, go_sem]
  by_cases h0 : a0 = b0 <;> by_cases h1 : a1 = b1 <;> by_cases h2 : a2 = b2 <;> simp [*]
theorem eqg37 (op : BinOp) (x y : Operand) (xs ys : Array Value) (w : World) : (eqGuard op 37 x y (.agg xs) (.agg ys)).run Try.prog w = .ok () w := run_eqGuard_agg w op 37 x y xs ys (by kernel_rfl)
def TsAt (w : World) (A : Option Addr) (l : List (Int × Int)) : Prop := 0 < l.length → ∃ b off, A = some ⟨b, off, none⟩ ∧ b < w.heap.size ∧
  ∀ i (_ : i < l.length), w.cell? ⟨b, off + i * 2, none⟩ = some (.int .i64 l[i].1) ∧ w.cell? ⟨b, off + i * 2 + 1, none⟩ = some (.int .i64 l[i].2)
theorem TsAt.ext {w w' : World} {A : Option Addr} {l : List (Int × Int)} (h : TsAt w A l) (hb : Below w.heap.size w w') : TsAt w' A l := by
  intro h0
  obtain ⟨b, off, e, hlt, hc⟩ := h h0
  refine ⟨b, off, e, Nat.lt_of_lt_of_le hlt hb.size, fun i hi => ?_⟩
  have := hc i hi
  rw [hb.cell (p := ⟨b, off + i * 2, none⟩) hlt, hb.cell (p := ⟨b, off + i * 2 + 1, none⟩) hlt]
  exact this
set_option maxHeartbeats 1000000 in
theorem eqT_any (A1 A2 : Option Addr) (c1 c2 : Nat) (l1 l2 : List (Int × Int)) (w : World) (hm1 : l1.length ≤ 9223372036854775807) (hm2 : l2.length ≤ 9223372036854775807) (h1 : TsAt w A1 l1) (h2 : TsAt w A2 l2) :
    Calls Try.prog 13 #[.slice A1 l1.length c1, .slice A2 l2.length c2] w fun e w' => e = .returned (.bool (decide (l1 = l2))) ∧ Below w.heap.size w w' := by
  have H1 := Lib.hid h1; clear h1
  have H2 := Lib.hid h2; clear h2
  by_cases hlen : l1.length = l2.length
  · generalize hn : l1.length = n at *
    have Hn1 := Lib.hid hn; clear hn
    have Hn2 := Lib.hid hlen; rw [← hlen]; clear hlen
    have hneq := neq23
    have heg := eqg23
    go_enter Try.func13, Try.ntmps13
    go_wp2_with fail
    go_loopw [13] (fun i wr => ∃ k : Nat, k ≤ n ∧ i = .int .i64 k ∧ l1.take k = l2.take k ∧ Below w.heap.size w wr) (fun i _ => n - (intOf i).toNat)
    case atStart => exact ⟨0, Nat.zero_le _, rfl, rfl, Below.refl _ _⟩
    case round =>
      obtain ⟨k, hk, rfl, heq, hS⟩ := hrel
      have Heq := Lib.hid heq; clear heq
      by_cases hlt : k < n
      · have hk1 : k < l1.length := by rw [Hn1.out]; exact hlt
        have hk2 : k < l2.length := by rw [← Hn2.out]; exact hlt
        obtain ⟨b1, o1, rfl, hb1, hcell1⟩ := (H1.out.ext (hS.mono (Nat.le_refl _))) (by omega)
        obtain ⟨b2, o2, rfl, hb2, hcell2⟩ := (H2.out.ext (hS.mono (Nat.le_refl _))) (by omega)
        obtain ⟨x0, x1⟩ := hcell1 k hk1
        obtain ⟨y0, y1⟩ := hcell2 k hk2
        clear hcell1 hcell2
        have He1 := Lib.hid (List.take_succ_eq_append_getElem hk1)
        have He2 := Lib.hid (List.take_succ_eq_append_getElem hk2)
        have Hne := Lib.hid (fun (h : l1[k] ≠ l2[k]) (e : l1 = l2) => h (by simp only [e]))
        generalize hp : l1[k] = p at *
        generalize hq : l2[k] = q at *
        clear hp hq hk1 hk2
        go_wp2_with fail
        go_quiet (fail)
        go_wp2_with fail
        · go_ret
          refine ⟨ret_bool ?_, ?_⟩
          · symm
            rw [decide_eq_false_iff_not]
            refine Hne.out ?_
            intro e
            subst e
            simp_all
          · exact hS.trans ((below_drewN (Below.refl wr.heap.size wr) _).mono hS.size)
        · have hpq : p = q := by
            have hh := ‹(!p.1 == q.1) = false ∧ _›
            simp at hh
            exact Prod.ext hh.1 hh.2
          refine ⟨⟨k + 1, by omega, by go_num, by rw [He1.out, He2.out, Heq.out, hpq], hS.trans ((below_drewN (Below.refl wr.heap.size wr) _).mono hS.size)⟩, by simp [intOf]; omega⟩
      · go_wp2_with fail
        go_ret
        have hkn : k = n := by omega
        subst hkn
        refine ⟨ret_bool ?_, hS⟩
        have e1 := Heq.out
        rw [List.take_of_length_le (Nat.le_of_eq Hn1.out), List.take_of_length_le (Nat.le_of_eq Hn2.out.symm)] at e1
        simp [e1]
  · have Hd : decide (l1 = l2) = false := by rw [decide_eq_false_iff_not]; intro e; exact hlen (by rw [e])
    replace Hd := Lib.hid Hd
    have hlen' : ((l1.length : Int) == (l2.length : Int)) = false := by simp; omega
    have hlen2 : ((l1.length : Int) != (l2.length : Int)) = true := by simp; omega
    generalize l1.length = n1 at *
    generalize l2.length = n2 at *
    clear hlen
    go_enter Try.func13, Try.ntmps13
    go_wp2_with fail
    go_ret
    exact ⟨ret_bool Hd.out.symm, Below.refl _ _⟩
theorem PtsAt.ext {w w' : World} {A : Option Addr} {l : List Pt} (h : PtsAt w A l) (hb : Below w.heap.size w w') : PtsAt w' A l := by
  intro h0
  obtain ⟨b, off, e, hlt, hc⟩ := h h0
  refine ⟨b, off, e, Nat.lt_of_lt_of_le hlt hb.size, fun i hi => ?_⟩
  have := hc i hi
  rw [hb.cell (p := ⟨b, off + i * 3, none⟩) hlt, hb.cell (p := ⟨b, off + i * 3 + 1, none⟩) hlt, hb.cell (p := ⟨b, off + i * 3 + 2, none⟩) hlt]
  exact this
set_option maxHeartbeats 1000000 in
theorem eqP_any (A1 A2 : Option Addr) (c1 c2 : Nat) (l1 l2 : List Pt) (w : World) (hm1 : l1.length ≤ 9223372036854775807) (hm2 : l2.length ≤ 9223372036854775807) (h1 : PtsAt w A1 l1) (h2 : PtsAt w A2 l2) :
    Calls Try.prog 31 #[.slice A1 l1.length c1, .slice A2 l2.length c2] w fun e w' => e = .returned (.bool (decide (l1 = l2))) ∧ Below w.heap.size w w' := by
  have H1 := Lib.hid h1; clear h1
  have H2 := Lib.hid h2; clear h2
  by_cases hlen : l1.length = l2.length
  · generalize hn : l1.length = n at *
    have Hn1 := Lib.hid hn; clear hn
    have Hn2 := Lib.hid hlen; rw [← hlen]; clear hlen
    have hneq := neq37
    have heg := eqg37
    go_enter Try.func31, Try.ntmps31
    go_wp2_with fail
    go_loopw [13] (fun i wr => ∃ k : Nat, k ≤ n ∧ i = .int .i64 k ∧ l1.take k = l2.take k ∧ Below w.heap.size w wr) (fun i _ => n - (intOf i).toNat)
    case atStart => exact ⟨0, Nat.zero_le _, rfl, rfl, Below.refl _ _⟩
    case round =>
      obtain ⟨k, hk, rfl, heq, hS⟩ := hrel
      have Heq := Lib.hid heq; clear heq
      by_cases hlt : k < n
      · have hk1 : k < l1.length := by rw [Hn1.out]; exact hlt
        have hk2 : k < l2.length := by rw [← Hn2.out]; exact hlt
        obtain ⟨b1, o1, rfl, hb1, hcell1⟩ := (H1.out.ext (hS.mono (Nat.le_refl _))) (by omega)
        obtain ⟨b2, o2, rfl, hb2, hcell2⟩ := (H2.out.ext (hS.mono (Nat.le_refl _))) (by omega)
        obtain ⟨x0, x1, x2⟩ := hcell1 k hk1
        obtain ⟨y0, y1, y2⟩ := hcell2 k hk2
        clear hcell1 hcell2
        have He1 := Lib.hid (List.take_succ_eq_append_getElem hk1)
        have He2 := Lib.hid (List.take_succ_eq_append_getElem hk2)
        have Hne := Lib.hid (fun (h : l1[k] ≠ l2[k]) (e : l1 = l2) => h (by simp only [e]))
        generalize hp : l1[k] = p at *
        generalize hq : l2[k] = q at *
        clear hp hq hk1 hk2
        go_wp2_with fail
        go_quiet (fail)
        go_wp2_with fail
        · go_ret
          refine ⟨ret_bool ?_, ?_⟩
          · symm
            rw [decide_eq_false_iff_not]
            refine Hne.out ?_
            intro e
            subst e
            simp_all
          · exact hS.trans ((below_drewN (Below.refl wr.heap.size wr) _).mono hS.size)
        · have hpq : p = q := by
            have hh := ‹((!p.x == q.x) = false ∧ _) ∧ _›
            simp at hh
            cases p; cases q; simp_all
          refine ⟨⟨k + 1, by omega, by go_num, by rw [He1.out, He2.out, Heq.out, hpq], hS.trans ((below_drewN (Below.refl wr.heap.size wr) _).mono hS.size)⟩, by simp [intOf]; omega⟩
      · go_wp2_with fail
        go_ret
        have hkn : k = n := by omega
        subst hkn
        refine ⟨ret_bool ?_, hS⟩
        have e1 := Heq.out
        rw [List.take_of_length_le (Nat.le_of_eq Hn1.out), List.take_of_length_le (Nat.le_of_eq Hn2.out.symm)] at e1
        simp [e1]
  · have Hd : decide (l1 = l2) = false := by rw [decide_eq_false_iff_not]; intro e; exact hlen (by rw [e])
    replace Hd := Lib.hid Hd
    have hlen' : ((l1.length : Int) == (l2.length : Int)) = false := by simp; omega
    have hlen2 : ((l1.length : Int) != (l2.length : Int)) = true := by simp; omega
    generalize l1.length = n1 at *
    generalize l2.length = n2 at *
    clear hlen
    go_enter Try.func31, Try.ntmps31
    go_wp2_with fail
    go_ret
    exact ⟨ret_bool Hd.out.symm, Below.refl _ _⟩
def IsAt (w : World) (A : Option Addr) (l : List Int) : Prop := 0 < l.length → ∃ b off, A = some ⟨b, off, none⟩ ∧ b < w.heap.size ∧
  ∀ i (_ : i < l.length), w.cell? ⟨b, off + i, none⟩ = some (.int .i64 l[i])
theorem IsAt.ext {w w' : World} {A : Option Addr} {l : List Int} (h : IsAt w A l) (hb : Below w.heap.size w w') : IsAt w' A l := by
  intro h0
  obtain ⟨b, off, e, hlt, hc⟩ := h h0
  refine ⟨b, off, e, Nat.lt_of_lt_of_le hlt hb.size, fun i hi => ?_⟩
  have := hc i hi
  rw [hb.cell (p := ⟨b, off + i, none⟩) hlt]
  exact this
set_option maxHeartbeats 1000000 in
theorem eqI_any (A1 A2 : Option Addr) (c1 c2 : Nat) (l1 l2 : List Int) (w : World) (hm1 : l1.length ≤ 9223372036854775807) (hm2 : l2.length ≤ 9223372036854775807) (h1 : IsAt w A1 l1) (h2 : IsAt w A2 l2) :
    Calls Try.prog 34 #[.slice A1 l1.length c1, .slice A2 l2.length c2] w fun e w' => e = .returned (.bool (decide (l1 = l2))) ∧ Below w.heap.size w w' := by
  have H1 := Lib.hid h1; clear h1
  have H2 := Lib.hid h2; clear h2
  by_cases hlen : l1.length = l2.length
  · generalize hn : l1.length = n at *
    have Hn1 := Lib.hid hn; clear hn
    have Hn2 := Lib.hid hlen; rw [← hlen]; clear hlen
    go_enter Try.func34, Try.ntmps34
    go_wp2_with fail
    go_loopw [13] (fun i wr => ∃ k : Nat, k ≤ n ∧ i = .int .i64 k ∧ l1.take k = l2.take k ∧ Below w.heap.size w wr) (fun i _ => n - (intOf i).toNat)
    case atStart => exact ⟨0, Nat.zero_le _, rfl, rfl, Below.refl _ _⟩
    case round =>
      obtain ⟨k, hk, rfl, heq, hS⟩ := hrel
      have Heq := Lib.hid heq; clear heq
      by_cases hlt : k < n
      · have hk1 : k < l1.length := by rw [Hn1.out]; exact hlt
        have hk2 : k < l2.length := by rw [← Hn2.out]; exact hlt
        obtain ⟨b1, o1, rfl, hb1, hcell1⟩ := (H1.out.ext (hS.mono (Nat.le_refl _))) (by omega)
        obtain ⟨b2, o2, rfl, hb2, hcell2⟩ := (H2.out.ext (hS.mono (Nat.le_refl _))) (by omega)
        have x0 := hcell1 k hk1
        have y0 := hcell2 k hk2
        clear hcell1 hcell2
        have He1 := Lib.hid (List.take_succ_eq_append_getElem hk1)
        have He2 := Lib.hid (List.take_succ_eq_append_getElem hk2)
        have Hne := Lib.hid (fun (h : l1[k] ≠ l2[k]) (e : l1 = l2) => h (by simp only [e]))
        generalize hp : l1[k] = p at *
        generalize hq : l2[k] = q at *
        clear hp hq hk1 hk2
        go_wp2_with fail
        go_quiet (fail)
        go_wp2_with fail
        · go_ret
          refine ⟨ret_bool ?_, ?_⟩
          · symm
            rw [decide_eq_false_iff_not]
            refine Hne.out ?_
            intro e
            subst e
            simp_all
          · exact hS.trans ((below_drewN (Below.refl wr.heap.size wr) _).mono hS.size)
        · have hpq : p = q := by
            simpa using ‹(p != q) = false›
          refine ⟨⟨k + 1, by omega, by go_num, by rw [He1.out, He2.out, Heq.out, hpq], hS.trans ((below_drewN (Below.refl wr.heap.size wr) _).mono hS.size)⟩, by simp [intOf]; omega⟩
      · go_wp2_with fail
        go_ret
        have hkn : k = n := by omega
        subst hkn
        refine ⟨ret_bool ?_, hS⟩
        have e1 := Heq.out
        rw [List.take_of_length_le (Nat.le_of_eq Hn1.out), List.take_of_length_le (Nat.le_of_eq Hn2.out.symm)] at e1
        simp [e1]
  · have Hd : decide (l1 = l2) = false := by rw [decide_eq_false_iff_not]; intro e; exact hlen (by rw [e])
    replace Hd := Lib.hid Hd
    have hlen' : ((l1.length : Int) == (l2.length : Int)) = false := by simp; omega
    have hlen2 : ((l1.length : Int) != (l2.length : Int)) = true := by simp; omega
    generalize l1.length = n1 at *
    generalize l2.length = n2 at *
    clear hlen
    go_enter Try.func34, Try.ntmps34
    go_wp2_with fail
    go_ret
    exact ⟨ret_bool Hd.out.symm, Below.refl _ _⟩
end Go.Proofs.Ytjpnijnbfjgnfaa
