/- Contracts: how an order runs. -/
import Derived.Test.YtgbldceimdjblaaC
set_option maxRecDepth 100000
set_option linter.unusedSimpArgs false
set_option linter.unusedVariables false
namespace Go.Proofs.Ytgbldceimdjblaa
open Go.RowKit
def setF (f : Nat → Int) (k : Nat) (v : Int) : Nat → Int := fun j => if j = k then v else f j
structure Rn where
  cut : Nat → Int
  bent : Nat → Int
  at_ : Int
  fin : Int
def stepR (l : List Jb) (s : Rn) (i : Int) : Rn :=
  ⟨setF s.cut i.toNat s.at_, setF s.bent i.toNat (max (s.at_ + (ix l i.toNat).cut) s.fin), s.at_ + (ix l i.toNat).cut, max (s.at_ + (ix l i.toNat).cut) s.fin + (ix l i.toNat).bend⟩
def run0 : Rn := ⟨fun _ => 0, fun _ => 0, 0, 0⟩
/-- How an order runs. -/
def runR (l : List Jb) (o : List Int) : Rn := o.foldl (stepR l) run0
theorem validB_at {l : List Jb} (h : validB l = true) {k : Nat} (hk : k < l.length) : 0 ≤ (ix l k).cut ∧ (ix l k).cut ≤ 10000 ∧ 0 ≤ (ix l k).bend ∧ (ix l k).bend ≤ 10000 := by
  simp only [validB, Bool.and_eq_true, List.all_eq_true, List.mem_range] at h
  have := h.2 k hk
  simp only [okAt, Bool.and_eq_true, decide_eq_true_eq] at this
  omega
theorem validB_len {l : List Jb} (h : validB l = true) : l.length ≤ 60 := by
  simp only [validB, Bool.and_eq_true, decide_eq_true_eq] at h
  exact h.1
theorem run_step {l : List Jb} {o : List Int} {k : Nat} (h : k < o.length) : runR l (o.take (k + 1)) = stepR l (runR l (o.take k)) (ix o k) := by
  rw [List.take_add_one, List.getElem?_eq_getElem h, ix_eq h, runR, List.foldl_append]
  rfl
theorem run_bound {l : List Jb} {o : List Int} (hv : validB l = true) (ho : ∀ j, j < o.length → 0 ≤ ix o j ∧ ix o j < l.length) : ∀ k, k ≤ o.length → 0 ≤ (runR l (o.take k)).at_ ∧ (runR l (o.take k)).at_ ≤ 10000 * k ∧ 0 ≤ (runR l (o.take k)).fin ∧ (runR l (o.take k)).fin ≤ 20000 * k
  | 0, _ => by simp [runR, run0]
  | k + 1, h => by
    obtain ⟨i1, i2, i3, i4⟩ := run_bound hv ho k (by omega)
    have h1 := ho k (by omega)
    have h2 := validB_at hv (show (ix o k).toNat < l.length by omega)
    rw [run_step (by omega)]
    simp only [stepR]
    omega
theorem setF_up {f : Nat → Int} {a j i : Nat} {v : Int} {rl : List Nat} (hi : i < 1) : Value.int IntKind.i64 (setF f a v j) = Value.int IntKind.i64 (bif i == 0 && j == a then v else f j) ∧ mtL rl [] (bif i == 0 && j == a then [] else []) := by
  obtain rfl : i = 0 := by omega
  unfold setF
  by_cases e : j = a
  · subst e; simp [mtL]
  · have : (j == a) = false := by simpa using e
    simp [e, this, mtL]
theorem run_sp (l : List Jb) (o : List Int) (c co : Nat) (hv : validB l = true) (hl : o.length ≤ 60) (ho : ∀ j, j < o.length → 0 ≤ ix o j ∧ ix o j < l.length) :
    Sp Try.prog 42 [.s 0 0 0 l.length c 3, .s 1 0 0 o.length co 1] [rJb l, rInt 3 o] (fun r H => r = .t [.s 2 0 0 l.length l.length 1, .s 3 0 0 l.length l.length 1, .v (.int .i64 (runR l o).fin)] ∧ H = [rJb l, rInt 3 o, rOwn 3 l.length l.length (runR l o).cut, rOwn 3 l.length l.length (runR l o).bent]) := by
  have hl60 := validB_len hv
  refine sp_weak ?_
  refine sp_of_ex true [(1, .one 0 (.one 1 (.one 3 (.one 4 (.alt [(2, .one 6 (.one 5 (.one 7 .fin))), (5, .one 2 (.one 6 (.one 7 .fin)))])))))] mixed Try.call42 Try.func42 rfl Try.ntmps42 Try.results42 (by decide +kernel) rfl ?_
  simp only [push_cast, ↓branch_true, ↓branch_false, Nat.reduceBEq, Nat.reduceAdd, Nat.reduceMul, Nat.reduceSub, Int.reduceToNat, reduceCtorEq, branch_decide, branch_not, branch_beq, branch_bne]
  repeat' (with_reducible apply And.intro)
  all_goals try omega
  all_goals refine tr_wk (σ' := [(18, .v (.int .i64 0)), (17, .v (.int .i64 o.length)), (16, .s 1 0 0 o.length co 1), (7, .v (.int .i64 0)), (4, .s 2 0 0 l.length l.length 1), (5, .s 3 0 0 l.length l.length 1), (6, .v (.int .i64 0)), (0, .s 0 0 0 l.length c 3)]) (H' := [rJb l, rInt 3 o, rOwn 3 l.length l.length (fun _ => 0), rOwn 3 l.length l.length (fun _ => 0)]) ?_ ?_
  · refine Mt.wk (rl := [0, 1, 2, 3]) ⟨by kernel_rfl, ?_, ?_⟩
    · simp only [push_cast, ↓branch_true, ↓branch_false, Nat.reduceBEq, Nat.reduceAdd, Nat.reduceMul, Nat.reduceSub, Int.reduceToNat, reduceCtorEq, branch_decide, branch_not, branch_beq, branch_bne]
    · simp only [push_cast, ↓branch_true, ↓branch_false, Nat.reduceBEq, Nat.reduceAdd, Nat.reduceMul, Nat.reduceSub, Int.reduceToNat, reduceCtorEq, branch_decide, branch_not, branch_beq, branch_bne]
  rotate_left
  · refine Mt.wk (rl := [0, 1, 3, 2]) ⟨by kernel_rfl, ?_, ?_⟩
    · simp only [push_cast, ↓branch_true, ↓branch_false, Nat.reduceBEq, Nat.reduceAdd, Nat.reduceMul, Nat.reduceSub, Int.reduceToNat, reduceCtorEq, branch_decide, branch_not, branch_beq, branch_bne]
    · simp only [push_cast, ↓branch_true, ↓branch_false, Nat.reduceBEq, Nat.reduceAdd, Nat.reduceMul, Nat.reduceSub, Int.reduceToNat, reduceCtorEq, branch_decide, branch_not, branch_beq, branch_bne]
  all_goals
    refine tr_loop mixed (by kernel_rfl) (fun (k : Nat) => [(18, .v (.int .i64 k)), (17, .v (.int .i64 o.length)), (16, .s 1 0 0 o.length co 1), (7, .v (.int .i64 (runR l (o.take k)).at_)), (4, .s 2 0 0 l.length l.length 1), (5, .s 3 0 0 l.length l.length 1), (6, .v (.int .i64 (runR l (o.take k)).fin)), (0, .s 0 0 0 l.length c 3)])
      (fun k => [rJb l, rInt 3 o, rOwn 3 l.length l.length (runR l (o.take k)).cut, rOwn 3 l.length l.length (runR l (o.take k)).bent]) (fun k => k ≤ o.length) (fun k => o.length - k) 0 (Nat.zero_le _) (Mt.wk (rl := [0, 1, 2, 3]) ⟨by kernel_rfl, ?_, ?_⟩) ?_
    · simp only [push_cast, ↓branch_true, ↓branch_false, Nat.reduceBEq, Nat.reduceAdd, Nat.reduceMul, Nat.reduceSub, Int.reduceToNat, reduceCtorEq, branch_decide, branch_not, branch_beq, branch_bne]
      simp [runR, run0]
    · simp only [push_cast, ↓branch_true, ↓branch_false, Nat.reduceBEq, Nat.reduceAdd, Nat.reduceMul, Nat.reduceSub, Int.reduceToNat, reduceCtorEq, branch_decide, branch_not, branch_beq, branch_bne]
      exact ⟨fun i hi k hk => rfl, fun i hi k hk => rfl⟩
    intro k hk
    simp only [push_cast, ↓branch_true, ↓branch_false, Nat.reduceBEq, Nat.reduceAdd, Nat.reduceMul, Nat.reduceSub, Int.reduceToNat, reduceCtorEq, branch_decide, branch_not, branch_beq, branch_bne]
    refine ⟨fun h => ?_, fun h => ?_⟩
    · have hk2 : k < o.length := by omega
      obtain ⟨b1, b2, b3, b4⟩ := run_bound hv ho k hk
      have hok := ho k hk2
      have hv1 := validB_at hv (show (ix o k).toNat < l.length by omega)
      have hst := run_step (l := l) hk2
      generalize runR l (o.take k) = s at *
      repeat (with_reducible refine And.intro (by omega) ?_)
      refine lpK_normal (k + 1) [0, 1, 2, 3] (by omega) (by omega) (by kernel_rfl) ?_ ?_
      · simp only [push_cast, ↓branch_true, ↓branch_false, Nat.reduceBEq, Nat.reduceAdd, Nat.reduceMul, Nat.reduceSub, Int.reduceToNat, reduceCtorEq, branch_decide, branch_not, branch_beq, branch_bne]
        rw [hst]
        exact ⟨rfl, rfl⟩
      · simp only [push_cast, ↓branch_true, ↓branch_false, Nat.reduceBEq, Nat.reduceAdd, Nat.reduceMul, Nat.reduceSub, Int.reduceToNat, reduceCtorEq, branch_decide, branch_not, branch_beq, branch_bne]
        rw [hst]
        exact ⟨fun i hi j hj => setF_up hi, fun i hi j hj => setF_up hi⟩
    · obtain rfl : k = o.length := by omega
      rw [List.take_length]
      refine ⟨_, _, [0, 1, 2, 3], ?_, ?_, ?_, rfl, rfl⟩
      · simp only [push_cast, ↓branch_true, ↓branch_false, Nat.reduceBEq, Nat.reduceAdd, Nat.reduceMul, Nat.reduceSub, Int.reduceToNat, reduceCtorEq, branch_decide, branch_not, branch_beq, branch_bne]
      · kernel_rfl
      · simp only [push_cast, ↓branch_true, ↓branch_false, Nat.reduceBEq, Nat.reduceAdd, Nat.reduceMul, Nat.reduceSub, Int.reduceToNat, reduceCtorEq, branch_decide, branch_not, branch_beq, branch_bne]
theorem given_ok {l : List Jb} {o : List Int} (h : givenE l o = 0) : validB l = true ∧ o.length = l.length ∧ (∀ j, j < o.length → 0 ≤ ix o j ∧ ix o j < l.length) ∧ ∀ j i, j < o.length → i < j → ix o i ≠ ix o j := by
  unfold givenE at h
  split at h
  · rename_i hv
    obtain ⟨h1, h2⟩ := ordE_0 h
    exact ⟨hv, h1, fun j hj => ⟨(h2 j hj).1, (h2 j hj).2.1⟩, fun j i hj hi => (h2 j hj).2.2 i hi⟩
  · omega
def lengthV (l : List Jb) (o : List Int) : Int := if givenE l o = 0 then (runR l o).fin else 0
theorem length_sp (l : List Jb) (o : List Int) (c co : Nat) (hlc : l.length ≤ c) (hoc : o.length ≤ co) (hl : l.length ≤ 9223372036854775807) (ho : o.length ≤ 9223372036854775806) :
    Sp Try.prog 19 [.s 0 0 0 l.length c 3, .s 1 0 0 o.length co 1] [rJb l, rInt 3 o] (fun r H => r = .t [.v (.int .i64 (lengthV l o)), .v (.int .i64 (givenE l o))] ∧ H = [rJb l, rInt 3 o]) := by
  refine sp_weak ?_
  refine sp_of_ex true [] mixed Try.call19 Try.func19 rfl Try.ntmps19 Try.results19 (by decide +kernel) rfl ?_
  simp only [push_cast, ↓branch_true, ↓branch_false, Nat.reduceBEq, Nat.reduceAdd, Nat.reduceMul, Nat.reduceSub, Int.reduceToNat, reduceCtorEq, branch_decide, branch_not, branch_beq, branch_bne]
  refine sp_call (given_pu l o c co hlc hoc hl ho) rfl [0, 1] rfl (by simp only [push_cast, ↓branch_true, ↓branch_false, Nat.reduceBEq, Nat.reduceAdd, Nat.reduceMul, Nat.reduceSub, Int.reduceToNat, reduceCtorEq, branch_decide, branch_not, branch_beq, branch_bne]) (by simp only [push_cast, ↓branch_true, ↓branch_false, Nat.reduceBEq, Nat.reduceAdd, Nat.reduceMul, Nat.reduceSub, Int.reduceToNat, reduceCtorEq, branch_decide, branch_not, branch_beq, branch_bne]) ?_
  simp only [push_cast, ↓branch_true, ↓branch_false, Nat.reduceBEq, Nat.reduceAdd, Nat.reduceMul, Nat.reduceSub, Int.reduceToNat, reduceCtorEq, branch_decide, branch_not, branch_beq, branch_bne]
  refine ⟨fun h => ?_, fun h => ?_⟩
  · obtain ⟨g1, g2, g3, g4⟩ := given_ok h
    have := validB_len g1
    refine sp_at (run_sp l o c co g1 (by omega) g3) [0, 1] rfl ?_ ?_ ?_
    · simp only [push_cast, ↓branch_true, ↓branch_false, Nat.reduceBEq, Nat.reduceAdd, Nat.reduceMul, Nat.reduceSub, Int.reduceToNat, reduceCtorEq, branch_decide, branch_not, branch_beq, branch_bne]
    · simp only [push_cast, ↓branch_true, ↓branch_false, Nat.reduceBEq, Nat.reduceAdd, Nat.reduceMul, Nat.reduceSub, Int.reduceToNat, reduceCtorEq, branch_decide, branch_not, branch_beq, branch_bne]
    rintro r0 H1 ⟨rfl, rfl⟩
    simp only [push_cast, ↓branch_true, ↓branch_false, Nat.reduceBEq, Nat.reduceAdd, Nat.reduceMul, Nat.reduceSub, Int.reduceToNat, reduceCtorEq, branch_decide, branch_not, branch_beq, branch_bne]
    refine ⟨_, _, [0, 1], ?_, ?_, ?_, rfl, rfl⟩
    · simp only [push_cast, ↓branch_true, ↓branch_false, Nat.reduceBEq, Nat.reduceAdd, Nat.reduceMul, Nat.reduceSub, Int.reduceToNat, reduceCtorEq, branch_decide, branch_not, branch_beq, branch_bne]
      simp [lengthV, h]
    · kernel_rfl
    · simp only [push_cast, ↓branch_true, ↓branch_false, Nat.reduceBEq, Nat.reduceAdd, Nat.reduceMul, Nat.reduceSub, Int.reduceToNat, reduceCtorEq, branch_decide, branch_not, branch_beq, branch_bne]
  · refine ⟨_, _, [0, 1], ?_, ?_, ?_, rfl, rfl⟩
    · simp only [push_cast, ↓branch_true, ↓branch_false, Nat.reduceBEq, Nat.reduceAdd, Nat.reduceMul, Nat.reduceSub, Int.reduceToNat, reduceCtorEq, branch_decide, branch_not, branch_beq, branch_bne]
      simp [lengthV, h]
    · kernel_rfl
    · simp only [push_cast, ↓branch_true, ↓branch_false, Nat.reduceBEq, Nat.reduceAdd, Nat.reduceMul, Nat.reduceSub, Int.reduceToNat, reduceCtorEq, branch_decide, branch_not, branch_beq, branch_bne]
/-- A list of starts: as many as there are jobs, or none. -/
def startN (l : List Jb) (o : List Int) : Nat := if givenE l o = 0 then l.length else 0
theorem starts_sp (l : List Jb) (o : List Int) (c co : Nat) (hlc : l.length ≤ c) (hoc : o.length ≤ co) (hl : l.length ≤ 9223372036854775807) (ho : o.length ≤ 9223372036854775806) :
    Sp Try.prog 20 [.s 0 0 0 l.length c 3, .s 1 0 0 o.length co 1] [rJb l, rInt 3 o] (fun r H => r = .t [.s 2 0 0 (startN l o) (startN l o) 1, .s 3 0 0 (startN l o) (startN l o) 1, .v (.int .i64 (givenE l o))] ∧ H = [rJb l, rInt 3 o, rOwn 3 (startN l o) (startN l o) (runR l o).cut, rOwn 3 (startN l o) (startN l o) (runR l o).bent]) := by
  refine sp_weak ?_
  refine sp_of_ex true [] mixed Try.call20 Try.func20 rfl Try.ntmps20 Try.results20 (by decide +kernel) rfl ?_
  simp only [push_cast, ↓branch_true, ↓branch_false, Nat.reduceBEq, Nat.reduceAdd, Nat.reduceMul, Nat.reduceSub, Int.reduceToNat, reduceCtorEq, branch_decide, branch_not, branch_beq, branch_bne]
  refine sp_call (given_pu l o c co hlc hoc hl ho) rfl [0, 1] rfl (by simp only [push_cast, ↓branch_true, ↓branch_false, Nat.reduceBEq, Nat.reduceAdd, Nat.reduceMul, Nat.reduceSub, Int.reduceToNat, reduceCtorEq, branch_decide, branch_not, branch_beq, branch_bne]) (by simp only [push_cast, ↓branch_true, ↓branch_false, Nat.reduceBEq, Nat.reduceAdd, Nat.reduceMul, Nat.reduceSub, Int.reduceToNat, reduceCtorEq, branch_decide, branch_not, branch_beq, branch_bne]) ?_
  simp only [push_cast, ↓branch_true, ↓branch_false, Nat.reduceBEq, Nat.reduceAdd, Nat.reduceMul, Nat.reduceSub, Int.reduceToNat, reduceCtorEq, branch_decide, branch_not, branch_beq, branch_bne]
  refine ⟨fun h => ?_, fun h => ?_⟩
  · obtain ⟨g1, g2, g3, g4⟩ := given_ok h
    have := validB_len g1
    have hs : startN l o = l.length := by rw [startN, if_pos h]
    rw [hs]
    refine sp_at (run_sp l o c co g1 (by omega) g3) [0, 1] rfl ?_ ?_ ?_
    · simp only [push_cast, ↓branch_true, ↓branch_false, Nat.reduceBEq, Nat.reduceAdd, Nat.reduceMul, Nat.reduceSub, Int.reduceToNat, reduceCtorEq, branch_decide, branch_not, branch_beq, branch_bne]
    · simp only [push_cast, ↓branch_true, ↓branch_false, Nat.reduceBEq, Nat.reduceAdd, Nat.reduceMul, Nat.reduceSub, Int.reduceToNat, reduceCtorEq, branch_decide, branch_not, branch_beq, branch_bne]
    rintro r0 H1 ⟨rfl, rfl⟩
    simp only [push_cast, ↓branch_true, ↓branch_false, Nat.reduceBEq, Nat.reduceAdd, Nat.reduceMul, Nat.reduceSub, Int.reduceToNat, reduceCtorEq, branch_decide, branch_not, branch_beq, branch_bne]
    refine ⟨_, _, [0, 1, 2, 3], ?_, ?_, ?_, rfl, rfl⟩
    · simp only [push_cast, ↓branch_true, ↓branch_false, Nat.reduceBEq, Nat.reduceAdd, Nat.reduceMul, Nat.reduceSub, Int.reduceToNat, reduceCtorEq, branch_decide, branch_not, branch_beq, branch_bne]
      rw [h]
    · kernel_rfl
    · simp only [push_cast, ↓branch_true, ↓branch_false, Nat.reduceBEq, Nat.reduceAdd, Nat.reduceMul, Nat.reduceSub, Int.reduceToNat, reduceCtorEq, branch_decide, branch_not, branch_beq, branch_bne]
  · have hs : startN l o = 0 := by rw [startN, if_neg h]
    rw [hs]
    refine ⟨_, _, [0, 1, 2, 3], ?_, ?_, ?_, rfl, rfl⟩
    · simp only [push_cast, ↓branch_true, ↓branch_false, Nat.reduceBEq, Nat.reduceAdd, Nat.reduceMul, Nat.reduceSub, Int.reduceToNat, reduceCtorEq, branch_decide, branch_not, branch_beq, branch_bne]
    · kernel_rfl
    · simp only [push_cast, ↓branch_true, ↓branch_false, Nat.reduceBEq, Nat.reduceAdd, Nat.reduceMul, Nat.reduceSub, Int.reduceToNat, reduceCtorEq, branch_decide, branch_not, branch_beq, branch_bne]
      omega
theorem rstarts_sp (l : List Jb) (o : List Int) (c co : Nat) (hv : validB l = true) (hol : o.length = l.length) (ho : ∀ j, j < o.length → 0 ≤ ix o j ∧ ix o j < l.length) :
    Sp Try.prog 23 [.s 0 0 0 l.length c 3, .s 1 0 0 o.length co 1] [rJb l, rInt 3 o] (fun r H => r = .t [.s 2 0 0 l.length l.length 1, .s 3 0 0 l.length l.length 1, .v (.int .i64 (runR l o).fin)] ∧ H = [rJb l, rInt 3 o, rOwn 3 l.length l.length (runR l o).cut, rOwn 3 l.length l.length (runR l o).bent]) := by
  have hl60 := validB_len hv
  refine sp_weak ?_
  refine sp_of_ex true [] mixed Try.call23 Try.func23 rfl Try.ntmps23 Try.results23 (by decide +kernel) rfl ?_
  simp only [push_cast, ↓branch_true, ↓branch_false, Nat.reduceBEq, Nat.reduceAdd, Nat.reduceMul, Nat.reduceSub, Int.reduceToNat, reduceCtorEq, branch_decide, branch_not, branch_beq, branch_bne]
  refine ⟨fun h0 => ?_, fun h0 => ?_⟩
  · have hl0 : l.length = 0 := by omega
    have ho0 : o = [] := List.length_eq_zero_iff.1 (by omega)
    rw [hl0, ho0]
    refine ⟨_, _, [0, 1, 2, 3], ?_, ?_, ?_, rfl, rfl⟩
    · simp only [push_cast, ↓branch_true, ↓branch_false, Nat.reduceBEq, Nat.reduceAdd, Nat.reduceMul, Nat.reduceSub, Int.reduceToNat, reduceCtorEq, branch_decide, branch_not, branch_beq, branch_bne]
      rfl
    · kernel_rfl
    · simp only [push_cast, ↓branch_true, ↓branch_false, Nat.reduceBEq, Nat.reduceAdd, Nat.reduceMul, Nat.reduceSub, Int.reduceToNat, reduceCtorEq, branch_decide, branch_not, branch_beq, branch_bne]
      omega
  repeat (with_reducible refine And.intro (by omega) ?_)
  refine tr_loop mixed (by kernel_rfl) (fun (k : Nat) => [(11, .v (.int .i64 k)), (9, .v (.int .i64 (runR l (o.take k)).at_)), (7, .s 2 0 0 l.length l.length 1), (8, .s 3 0 0 l.length l.length 1), (10, .v (.int .i64 (runR l (o.take k)).fin)), (0, .s 0 0 0 l.length c 3), (1, .s 1 0 0 o.length co 1)])
    (fun k => [rJb l, rInt 3 o, rOwn 3 l.length l.length (runR l (o.take k)).cut, rOwn 3 l.length l.length (runR l (o.take k)).bent]) (fun k => k ≤ o.length) (fun k => o.length - k) 0 (Nat.zero_le _) (Mt.wk (rl := [0, 1, 2, 3]) ⟨by kernel_rfl, ?_, ?_⟩) ?_
  · simp only [push_cast, ↓branch_true, ↓branch_false, Nat.reduceBEq, Nat.reduceAdd, Nat.reduceMul, Nat.reduceSub, Int.reduceToNat, reduceCtorEq, branch_decide, branch_not, branch_beq, branch_bne]
    simp [runR, run0]
  · simp only [push_cast, ↓branch_true, ↓branch_false, Nat.reduceBEq, Nat.reduceAdd, Nat.reduceMul, Nat.reduceSub, Int.reduceToNat, reduceCtorEq, branch_decide, branch_not, branch_beq, branch_bne]
    exact ⟨fun i hi k hk => rfl, fun i hi k hk => rfl⟩
  intro k hk
  simp only [push_cast, ↓branch_true, ↓branch_false, Nat.reduceBEq, Nat.reduceAdd, Nat.reduceMul, Nat.reduceSub, Int.reduceToNat, reduceCtorEq, branch_decide, branch_not, branch_beq, branch_bne]
  refine ⟨fun h => ?_, fun h => ?_⟩
  · have hk2 : k < o.length := by omega
    obtain ⟨b1, b2, b3, b4⟩ := run_bound hv ho k hk
    have hok := ho k hk2
    have hv1 := validB_at hv (show (ix o k).toNat < l.length by omega)
    have hst := run_step (l := l) hk2
    generalize runR l (o.take k) = s at *
    repeat (with_reducible refine And.intro (by omega) ?_)
    refine lpK_normal (k + 1) [0, 1, 2, 3] (by omega) (by omega) (by kernel_rfl) ?_ ?_
    · simp only [push_cast, ↓branch_true, ↓branch_false, Nat.reduceBEq, Nat.reduceAdd, Nat.reduceMul, Nat.reduceSub, Int.reduceToNat, reduceCtorEq, branch_decide, branch_not, branch_beq, branch_bne]
      rw [hst]
      exact ⟨rfl, rfl⟩
    · simp only [push_cast, ↓branch_true, ↓branch_false, Nat.reduceBEq, Nat.reduceAdd, Nat.reduceMul, Nat.reduceSub, Int.reduceToNat, reduceCtorEq, branch_decide, branch_not, branch_beq, branch_bne]
      rw [hst]
      exact ⟨fun i hi j hj => setF_up hi, fun i hi j hj => setF_up hi⟩
  · obtain rfl : k = o.length := by omega
    rw [List.take_length]
    refine ⟨_, _, [0, 1, 2, 3], ?_, ?_, ?_, rfl, rfl⟩
    · simp only [push_cast, ↓branch_true, ↓branch_false, Nat.reduceBEq, Nat.reduceAdd, Nat.reduceMul, Nat.reduceSub, Int.reduceToNat, reduceCtorEq, branch_decide, branch_not, branch_beq, branch_bne]
    · kernel_rfl
    · simp only [push_cast, ↓branch_true, ↓branch_false, Nat.reduceBEq, Nat.reduceAdd, Nat.reduceMul, Nat.reduceSub, Int.reduceToNat, reduceCtorEq, branch_decide, branch_not, branch_beq, branch_bne]
theorem rlength_sp (l : List Jb) (o : List Int) (c co : Nat) (hv : validB l = true) (hol : o.length = l.length) (ho : ∀ j, j < o.length → 0 ≤ ix o j ∧ ix o j < l.length) :
    Sp Try.prog 17 [.s 0 0 0 l.length c 3, .s 1 0 0 o.length co 1] [rJb l, rInt 3 o] (fun r H => r = .v (.int .i64 (runR l o).fin) ∧ H = [rJb l, rInt 3 o]) := by
  refine sp_weak ?_
  refine sp_of_ex true [] mixed Try.call17 Try.func17 rfl Try.ntmps17 Try.results17 (by decide +kernel) rfl ?_
  simp only [push_cast, ↓branch_true, ↓branch_false, Nat.reduceBEq, Nat.reduceAdd, Nat.reduceMul, Nat.reduceSub, Int.reduceToNat, reduceCtorEq, branch_decide, branch_not, branch_beq, branch_bne]
  refine sp_at (rstarts_sp l o c co hv hol ho) [0, 1] rfl ?_ ?_ ?_
  · simp only [push_cast, ↓branch_true, ↓branch_false, Nat.reduceBEq, Nat.reduceAdd, Nat.reduceMul, Nat.reduceSub, Int.reduceToNat, reduceCtorEq, branch_decide, branch_not, branch_beq, branch_bne]
  · simp only [push_cast, ↓branch_true, ↓branch_false, Nat.reduceBEq, Nat.reduceAdd, Nat.reduceMul, Nat.reduceSub, Int.reduceToNat, reduceCtorEq, branch_decide, branch_not, branch_beq, branch_bne]
  rintro r0 H1 ⟨rfl, rfl⟩
  simp only [push_cast, ↓branch_true, ↓branch_false, Nat.reduceBEq, Nat.reduceAdd, Nat.reduceMul, Nat.reduceSub, Int.reduceToNat, reduceCtorEq, branch_decide, branch_not, branch_beq, branch_bne]
  refine ⟨_, _, [0, 1], ?_, ?_, ?_, rfl, rfl⟩
  · simp only [push_cast, ↓branch_true, ↓branch_false, Nat.reduceBEq, Nat.reduceAdd, Nat.reduceMul, Nat.reduceSub, Int.reduceToNat, reduceCtorEq, branch_decide, branch_not, branch_beq, branch_bne]
  · kernel_rfl
  · simp only [push_cast, ↓branch_true, ↓branch_false, Nat.reduceBEq, Nat.reduceAdd, Nat.reduceMul, Nat.reduceSub, Int.reduceToNat, reduceCtorEq, branch_decide, branch_not, branch_beq, branch_bne]
end Go.Proofs.Ytgbldceimdjblaa
