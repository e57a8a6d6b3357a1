/- Contracts: schedules, and changes in an order of lines. -/
import Derived.Test.YtgbldceimdjblaaBC
set_option maxRecDepth 100000
set_option linter.unusedSimpArgs false
set_option linter.unusedVariables false
namespace Go.Proofs.Ytgbldceimdjblaa
open Go.RowKit
def okBr (l : List Br) (i : Nat) : Bool := vBar (ix l i) && decide (idxB (fun y => eqN y.mark (ix l i).mark) l 0 = (i : Int))
def schedB (l : List Br) : Bool := decide (l.length ≤ 60) && (List.range l.length).all (okBr l)
theorem schedB_of {l : List Br} (h : l.length ≤ 60) (hk : ∀ j, j < l.length → okBr l j = true) : schedB l = true := by
  simp only [schedB, Bool.and_eq_true, decide_eq_true_eq, List.all_eq_true, List.mem_range]
  exact ⟨h, hk⟩
theorem schedB_not {l : List Br} {k : Nat} (hk : k < l.length) (h : okBr l k = false) : schedB l = false := by
  cases hs : schedB l
  · rfl
  · simp only [schedB, Bool.and_eq_true, decide_eq_true_eq, List.all_eq_true, List.mem_range] at hs
    rw [hs.2 k hk] at h
    cases h
theorem schedB_at {l : List Br} (h : schedB l = true) {k : Nat} (hk : k < l.length) : okBr l k = true := by
  simp only [schedB, Bool.and_eq_true, decide_eq_true_eq, List.all_eq_true, List.mem_range] at h
  exact h.2 k hk
theorem schedB_len {l : List Br} (h : schedB l = true) : l.length ≤ 60 := by
  simp only [schedB, Bool.and_eq_true, decide_eq_true_eq] at h
  exact h.1
theorem sched_pu (l : List Br) (c : Nat) (hl : l.length ≤ 9223372036854775807) (hd : OkDm l) : Pu Try.prog 31 [.s 0 0 0 l.length c 5] [rBr 1 l, rDm l] (.v (.bool (schedB l))) := by
  refine pu_of_ex true [] mixed Try.call31 Try.func31 rfl Try.ntmps31 Try.results31 (by decide +kernel) rfl rfl rfl ?_
  simp only [push_cast, ↓branch_true, ↓branch_false, Nat.reduceBEq, Nat.reduceAdd, Nat.reduceMul, Nat.reduceSub, Int.reduceToNat, reduceCtorEq, branch_decide, branch_not, branch_beq, branch_bne]
  refine ⟨fun h => by simp [schedB, show ¬l.length ≤ 60 by omega], fun h => ?_⟩
  refine tr_loop mixed (by kernel_rfl) (fun (k : Nat) => [(10, .v (.int .i64 k)), (9, .v (.int .i64 l.length)), (8, .s 0 0 0 l.length c 5), (0, .s 0 0 0 l.length c 5)]) (fun _ => [rBr 1 l, rDm l]) (fun k => k ≤ l.length ∧ ∀ j, j < k → okBr l j = true) (fun k => l.length - k) 0 ⟨Nat.zero_le _, fun j h => by omega⟩ (Mt.wk (rl := [0, 1]) ⟨by kernel_rfl, ?_, ?_⟩) ?_
  · simp only [push_cast, ↓branch_true, ↓branch_false, Nat.reduceBEq, Nat.reduceAdd, Nat.reduceMul, Nat.reduceSub, Int.reduceToNat, reduceCtorEq, branch_decide, branch_not, branch_beq, branch_bne]
  · simp only [push_cast, ↓branch_true, ↓branch_false, Nat.reduceBEq, Nat.reduceAdd, Nat.reduceMul, Nat.reduceSub, Int.reduceToNat, reduceCtorEq, branch_decide, branch_not, branch_beq, branch_bne]
  rintro k ⟨hk, hn⟩
  simp only [push_cast, ↓branch_true, ↓branch_false, Nat.reduceBEq, Nat.reduceAdd, Nat.reduceMul, Nat.reduceSub, Int.reduceToNat, reduceCtorEq, branch_decide, branch_not, branch_beq, branch_bne]
  refine ⟨fun h2 => ?_, fun h2 => ?_⟩
  · have hk2 : k < l.length := by omega
    repeat (with_reducible refine And.intro (by omega) ?_)
    refine sp_call (vbarM_pu l k hk2 hd) rfl [0, 1] rfl ?_ ?_ ?_
    · simp only [push_cast, ↓branch_true, ↓branch_false, Nat.reduceBEq, Nat.reduceAdd, Nat.reduceMul, Nat.reduceSub, Int.reduceToNat, reduceCtorEq, branch_decide, branch_not, branch_beq, branch_bne]
    · simp only [push_cast, ↓branch_true, ↓branch_false, Nat.reduceBEq, Nat.reduceAdd, Nat.reduceMul, Nat.reduceSub, Int.reduceToNat, reduceCtorEq, branch_decide, branch_not, branch_beq, branch_bne]
    simp only [push_cast, ↓branch_true, ↓branch_false, Nat.reduceBEq, Nat.reduceAdd, Nat.reduceMul, Nat.reduceSub, Int.reduceToNat, reduceCtorEq, branch_decide, branch_not, branch_beq, branch_bne]
    cases hv : vBar (ix l k)
    · simp only [push_cast, ↓branch_true, ↓branch_false, Nat.reduceBEq, Nat.reduceAdd, Nat.reduceMul, Nat.reduceSub, Int.reduceToNat, reduceCtorEq, branch_decide, branch_not, branch_beq, branch_bne]
      rw [schedB_not hk2 (by simp [okBr, hv])]
    simp only [push_cast, ↓branch_true, ↓branch_false, Nat.reduceBEq, Nat.reduceAdd, Nat.reduceMul, Nat.reduceSub, Int.reduceToNat, reduceCtorEq, branch_decide, branch_not, branch_beq, branch_bne]
    refine sp_call (index_pu l c (ix l k).mark (by omega)) rfl [0, 1] rfl ?_ ?_ ?_
    · simp only [push_cast, ↓branch_true, ↓branch_false, Nat.reduceBEq, Nat.reduceAdd, Nat.reduceMul, Nat.reduceSub, Int.reduceToNat, reduceCtorEq, branch_decide, branch_not, branch_beq, branch_bne]
    · simp only [push_cast, ↓branch_true, ↓branch_false, Nat.reduceBEq, Nat.reduceAdd, Nat.reduceMul, Nat.reduceSub, Int.reduceToNat, reduceCtorEq, branch_decide, branch_not, branch_beq, branch_bne]
    simp only [push_cast, ↓branch_true, ↓branch_false, Nat.reduceBEq, Nat.reduceAdd, Nat.reduceMul, Nat.reduceSub, Int.reduceToNat, reduceCtorEq, branch_decide, branch_not, branch_beq, branch_bne]
    refine ⟨fun h3 => ?_, fun h3 => ?_⟩
    · repeat (with_reducible refine And.intro (by omega) ?_)
      refine lpK_normal (k + 1) [0, 1] ⟨by omega, fun j hj => ?_⟩ (by omega) (by kernel_rfl) ?_ ?_
      · by_cases e : j = k
        · subst e; simp [okBr, hv, h3]
        · exact hn j (by omega)
      · simp only [push_cast, ↓branch_true, ↓branch_false, Nat.reduceBEq, Nat.reduceAdd, Nat.reduceMul, Nat.reduceSub, Int.reduceToNat, reduceCtorEq, branch_decide, branch_not, branch_beq, branch_bne]
      · simp only [push_cast, ↓branch_true, ↓branch_false, Nat.reduceBEq, Nat.reduceAdd, Nat.reduceMul, Nat.reduceSub, Int.reduceToNat, reduceCtorEq, branch_decide, branch_not, branch_beq, branch_bne]
    · rw [schedB_not hk2 (by simp [okBr, h3])]
  · obtain rfl : k = l.length := by omega
    rw [schedB_of (by omega) hn]
/-- Whether there is a change at a place of an order. -/
def chgB (l : List Br) (o : List Int) (i : Nat) : Bool := decide (0 < i) && !decide ((ix l (ix o i).toNat).size = (ix l (ix o (i - 1)).toNat).size)
def chgN (l : List Br) (o : List Int) : Nat → Int
  | 0 => 0
  | i + 1 => chgN l o i + if chgB l o i = true then 1 else 0
theorem chgN_in (l : List Br) (o : List Int) : ∀ n, 0 ≤ chgN l o n ∧ chgN l o n ≤ n
  | 0 => by simp [chgN]
  | n + 1 => by
    have := chgN_in l o n
    simp only [chgN]
    split <;> omega
def sgivenE (l : List Br) (o : List Int) : Int := if schedB l = true then ordE l.length o else 1
theorem setups_pu (l : List Br) (o : List Int) (c co : Nat) (hoc : o.length ≤ co) (hl : l.length ≤ 9223372036854775807) (ho : o.length ≤ 9223372036854775806) (hd : OkDm l) :
    Pu Try.prog 30 [.s 0 0 0 l.length c 5, .s 2 0 0 o.length co 1] [rBr 1 l, rDm l, rInt 3 o] (.t [.v (.int .i64 (if sgivenE l o = 0 then chgN l o o.length else 0)), .v (.int .i64 (sgivenE l o))]) := by
  refine pu_of_ex true [] mixed Try.call30 Try.func30 rfl Try.ntmps30 Try.results30 (by decide +kernel) rfl rfl rfl ?_
  simp only [push_cast, ↓branch_true, ↓branch_false, Nat.reduceBEq, Nat.reduceAdd, Nat.reduceMul, Nat.reduceSub, Int.reduceToNat, reduceCtorEq, branch_decide, branch_not, branch_beq, branch_bne]
  refine sp_call (sched_pu l c hl hd) rfl [0, 1] rfl ?_ ?_ ?_
  · simp only [push_cast, ↓branch_true, ↓branch_false, Nat.reduceBEq, Nat.reduceAdd, Nat.reduceMul, Nat.reduceSub, Int.reduceToNat, reduceCtorEq, branch_decide, branch_not, branch_beq, branch_bne]
  · simp only [push_cast, ↓branch_true, ↓branch_false, Nat.reduceBEq, Nat.reduceAdd, Nat.reduceMul, Nat.reduceSub, Int.reduceToNat, reduceCtorEq, branch_decide, branch_not, branch_beq, branch_bne]
  simp only [push_cast, ↓branch_true, ↓branch_false, Nat.reduceBEq, Nat.reduceAdd, Nat.reduceMul, Nat.reduceSub, Int.reduceToNat, reduceCtorEq, branch_decide, branch_not, branch_beq, branch_bne]
  cases hs : schedB l
  · simp only [push_cast, ↓branch_true, ↓branch_false, Nat.reduceBEq, Nat.reduceAdd, Nat.reduceMul, Nat.reduceSub, Int.reduceToNat, reduceCtorEq, branch_decide, branch_not, branch_beq, branch_bne]
    simp [sgivenE, hs]
  have e : sgivenE l o = ordE l.length o := by simp [sgivenE, hs]
  rw [e]
  simp only [push_cast, ↓branch_true, ↓branch_false, Nat.reduceBEq, Nat.reduceAdd, Nat.reduceMul, Nat.reduceSub, Int.reduceToNat, reduceCtorEq, branch_decide, branch_not, branch_beq, branch_bne]
  refine sp_call (ordered_pu l.length o co hoc ho) rfl [2] rfl ?_ ?_ ?_
  · simp only [push_cast, ↓branch_true, ↓branch_false, Nat.reduceBEq, Nat.reduceAdd, Nat.reduceMul, Nat.reduceSub, Int.reduceToNat, reduceCtorEq, branch_decide, branch_not, branch_beq, branch_bne]
  · simp only [push_cast, ↓branch_true, ↓branch_false, Nat.reduceBEq, Nat.reduceAdd, Nat.reduceMul, Nat.reduceSub, Int.reduceToNat, reduceCtorEq, branch_decide, branch_not, branch_beq, branch_bne]
  simp only [push_cast, ↓branch_true, ↓branch_false, Nat.reduceBEq, Nat.reduceAdd, Nat.reduceMul, Nat.reduceSub, Int.reduceToNat, reduceCtorEq, branch_decide, branch_not, branch_beq, branch_bne]
  refine ⟨fun h0 => ?_, fun h0 => ?_⟩
  · obtain ⟨o1, o2⟩ := ordE_0 h0
    have h60 := schedB_len hs
    rw [h0]
    simp only [push_cast, ↓branch_true, ↓branch_false, Nat.reduceBEq, Nat.reduceAdd, Nat.reduceMul, Nat.reduceSub, Int.reduceToNat, reduceCtorEq, branch_decide, branch_not, branch_beq, branch_bne]
    refine tr_loop0 mixed (by kernel_rfl) (fun (k : Nat) => [(22, .v (.int .i64 k)), (21, .v (.int .i64 o.length)), (20, .s 2 0 0 o.length co 1), (7, .v (.int .i64 (chgN l o k))), (0, .s 0 0 0 l.length c 5), (1, .s 2 0 0 o.length co 1)]) (fun k => k ≤ o.length) (fun k => o.length - k) 0 (Nat.zero_le _) ?_ ?_
    · simp only [push_cast, ↓branch_true, ↓branch_false, Nat.reduceBEq, Nat.reduceAdd, Nat.reduceMul, Nat.reduceSub, Int.reduceToNat, reduceCtorEq, branch_decide, branch_not, branch_beq, branch_bne]
      exact rfl
    intro k hk
    have hc := chgN_in l o k
    simp only [push_cast, ↓branch_true, ↓branch_false, Nat.reduceBEq, Nat.reduceAdd, Nat.reduceMul, Nat.reduceSub, Int.reduceToNat, reduceCtorEq, branch_decide, branch_not, branch_beq, branch_bne]
    refine ⟨fun h => ?_, fun h => ?_⟩
    · have ok := o2 k (by omega)
      have hst : chgN l o (k + 1) = chgN l o k + if chgB l o k = true then 1 else 0 := rfl
      repeat (with_reducible refine And.intro (by omega) ?_)
      refine ⟨fun h1 => ?_, fun h1 => ?_⟩
      · have e1 : ((k : Int) - 1).toNat = k - 1 := by omega
        have ok2 := o2 (k - 1) (by omega)
        simp only [e1]
        repeat (with_reducible refine And.intro (by omega) ?_)
        refine ⟨fun h2 => ?_, fun h2 => ?_⟩
        · have hb : chgB l o k = false := by simp [chgB, h2]
          repeat (with_reducible refine And.intro (by omega) ?_)
          refine lp0_normal (k + 1) (by omega) (by omega) ?_
          simp only [push_cast, ↓branch_true, ↓branch_false, Nat.reduceBEq, Nat.reduceAdd, Nat.reduceMul, Nat.reduceSub, Int.reduceToNat, reduceCtorEq, branch_decide, branch_not, branch_beq, branch_bne]
          rw [hst, hb]
          simp
        · have hb : chgB l o k = true := by simp [chgB, h2]; omega
          repeat (with_reducible refine And.intro (by omega) ?_)
          refine lp0_normal (k + 1) (by omega) (by omega) ?_
          simp only [push_cast, ↓branch_true, ↓branch_false, Nat.reduceBEq, Nat.reduceAdd, Nat.reduceMul, Nat.reduceSub, Int.reduceToNat, reduceCtorEq, branch_decide, branch_not, branch_beq, branch_bne]
          rw [hst, hb]
          simp
      · have hb : chgB l o k = false := by simp [chgB]; omega
        repeat (with_reducible refine And.intro (by omega) ?_)
        refine lp0_normal (k + 1) (by omega) (by omega) ?_
        simp only [push_cast, ↓branch_true, ↓branch_false, Nat.reduceBEq, Nat.reduceAdd, Nat.reduceMul, Nat.reduceSub, Int.reduceToNat, reduceCtorEq, branch_decide, branch_not, branch_beq, branch_bne]
        rw [hst, hb]
        simp
    · obtain rfl : k = o.length := by omega
      simp
  · simp [h0]
end Go.Proofs.Ytgbldceimdjblaa
