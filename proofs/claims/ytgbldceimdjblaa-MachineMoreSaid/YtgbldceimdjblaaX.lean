/- Contract: the law about further and longer jobs. -/
import Derived.Test.YtgbldceimdjblaaW
import Derived.Test.YtgbldceimdjblaaV
set_option maxRecDepth 100000
set_option linter.unusedSimpArgs false
set_option linter.unusedVariables false
namespace Go.Proofs.Ytgbldceimdjblaa
open Go.RowKit
/-- Jobs of one's own. -/
def oJb (l : List Jb) (cap : Nat) : Ob := ⟨43, false, .row 3 1 (fun _ => l.length) (fun _ => cap) (fun _ k => cJb (ix l k))⟩
attribute [push_cast] oJb
theorem cloneJb_sp (l : List Jb) (c : Nat) (hc : l.length ≤ c) (hn : l.length ≤ 1000000) : Sp Try.prog 24 [.s 0 0 0 l.length c 3] [rJb l] (fun r H => ∃ cap, l.length ≤ cap ∧ r = .s 1 0 0 l.length cap 3 ∧ H = [rJb l, oJb l cap]) := by
  refine sp_weak ?_
  refine sp_of_ex true [] mixed Try.call24 Try.func24 rfl Try.ntmps24 Try.results24 (by decide +kernel) rfl ?_
  simp only [push_cast, ↓branch_true, ↓branch_false, Nat.reduceBEq, Nat.reduceAdd, Nat.reduceMul, Nat.reduceSub, Int.reduceToNat, reduceCtorEq, branch_decide, branch_not, branch_beq, branch_bne]
  intro b hb
  cases b
  · simp only [branch_false]
    refine ⟨by omega, by omega, ?_, appZ_of (fun h0 => ?_) fun h0 => .inl ⟨by omega, by omega, fun cap hcap => ?_⟩⟩
    · unfold srcOk
      split <;> simp [lenP, lenIs, ones, one1]
    · refine ⟨_, _, [0, 1], ?_, ?_, ?_, 0, by omega, rfl, rfl⟩
      · simp only [push_cast, ↓branch_true, ↓branch_false, Nat.reduceBEq, Nat.reduceAdd, Nat.reduceMul, Nat.reduceSub, Int.reduceToNat, reduceCtorEq, branch_decide, branch_not, branch_beq, branch_bne]
        exact h0
      · kernel_rfl
      · simp only [push_cast, ↓branch_true, ↓branch_false, Nat.reduceBEq, Nat.reduceAdd, Nat.reduceMul, Nat.reduceSub, Int.reduceToNat, reduceCtorEq, branch_decide, branch_not, branch_beq, branch_bne]
        exact fun i hi => ⟨by omega, fun k hk => by omega⟩
    · refine ⟨_, _, [0, 2], ?_, ?_, ?_, cap, hcap, rfl, rfl⟩
      · simp only [push_cast, ↓branch_true, ↓branch_false, Nat.reduceBEq, Nat.reduceAdd, Nat.reduceMul, Nat.reduceSub, Int.reduceToNat, reduceCtorEq, branch_decide, branch_not, branch_beq, branch_bne]
      · kernel_rfl
      · simp only [push_cast, ↓branch_true, ↓branch_false, Nat.reduceBEq, Nat.reduceAdd, Nat.reduceMul, Nat.reduceSub, Int.reduceToNat, reduceCtorEq, branch_decide, branch_not, branch_beq, branch_bne]
  · simp only [branch_true]
    have hc0 : c = 0 := by
      rcases Nat.eq_zero_or_pos c with h | h
      · exact h
      · have := hb h; cases this
    have hl0 : l.length = 0 := by omega
    refine ⟨_, _, [0, 1], ?_, ?_, ?_, 0, by omega, rfl, rfl⟩
    · simp only [push_cast, ↓branch_true, ↓branch_false, Nat.reduceBEq, Nat.reduceAdd, Nat.reduceMul, Nat.reduceSub, Int.reduceToNat, reduceCtorEq, branch_decide, branch_not, branch_beq, branch_bne]
      exact hl0
    · kernel_rfl
    · simp only [push_cast, ↓branch_true, ↓branch_false, Nat.reduceBEq, Nat.reduceAdd, Nat.reduceMul, Nat.reduceSub, Int.reduceToNat, reduceCtorEq, branch_decide, branch_not, branch_beq, branch_bne]
      exact hl0
/-- Jobs of which the first `k` are exchanged. -/
def tJb (l : List Jb) (k cap : Nat) : Ob := ⟨43, false, .row 3 1 (fun _ => l.length) (fun _ => cap) (fun _ j => [.v (.string (ix l j).mark), .v (.int .i64 (if j < k then (ix l j).bend else (ix l j).cut)), .v (.int .i64 (if j < k then (ix l j).cut else (ix l j).bend))])⟩
attribute [push_cast] tJb
theorem snoc_up {l m : List Jb} {x : Jb} {k : Nat} {rl : List Nat} (h1 : ∀ k, k < l.length → ix m k = ix l k) (h2 : ix m l.length = x) (hk : k < l.length + 1) :
    Value.string (ix m k).mark = Value.string (bif decide (k < l.length) then (ix l k).mark else x.mark) ∧ Value.int IntKind.i64 (ix m k).cut = Value.int IntKind.i64 (bif decide (k < l.length) then (ix l k).cut else x.cut) ∧ Value.int IntKind.i64 (ix m k).bend = Value.int IntKind.i64 (bif decide (k < l.length) then (ix l k).bend else x.bend) ∧ mtL rl [] (bif decide (k < l.length) then [] else []) := by
  by_cases h : k < l.length
  · simp [h, h1 k h, mtL]
  · obtain rfl : k = l.length := by omega
    simp [h2, mtL]
theorem long_up {l q : List Jb} {w i k : Nat} {b : Int} {rl : List Nat} (h1 : ∀ k, k < l.length → ix q k = if w = k then ⟨(ix l w).mark, (ix l w).cut, (ix l w).bend + b⟩ else ix l k) (hi : i < 1) (hk : k < l.length) :
    Value.string (ix q k).mark = Value.string (bif i == 0 && k == w then (ix l w).mark else (ix l k).mark) ∧ Value.int IntKind.i64 (ix q k).cut = Value.int IntKind.i64 (bif i == 0 && k == w then (ix l w).cut else (ix l k).cut) ∧ Value.int IntKind.i64 (ix q k).bend = Value.int IntKind.i64 (bif i == 0 && k == w then (ix l w).bend + b else (ix l k).bend) ∧ mtL rl [] (bif i == 0 && k == w then [] else []) := by
  obtain rfl : i = 0 := by omega
  rw [h1 k hk]
  by_cases e : w = k
  · subst e
    simp [mtL]
  · have e2 : (k == w) = false := by simp; omega
    simp [e, e2, mtL]
set_option maxHeartbeats 4000000 in
theorem more_sp (l : List Jb) (x : Jb) (wh by_ : Int) (c : Nat) (hlc : l.length ≤ c) (hl : l.length ≤ 9223372036854775807) (hx : -9223372036854775808 ≤ x.cut ∧ x.cut ≤ 9223372036854775807 ∧ -9223372036854775808 ≤ x.bend ∧ x.bend ≤ 9223372036854775807) (hw : 0 ≤ wh ∧ wh ≤ 255) (hb : 0 ≤ by_ ∧ by_ ≤ 255) :
    Sp Try.prog 7 [.s 0 0 0 l.length c 3, .a (cJb x), .v (.int .u8 wh), .v (.int .u8 by_)] [rJb l] trueK := by
  refine sp_of_ex true [(10, .one 0 (.one 1 (.one 2 (.one 3 (.one 4 (.one 5 (.one 6 (.one 7 (.one 9 (.one 10 (.one 11 (.one 12 (.alt [(8, .one 13 (.one 14 (.one 15 (.one 16 (.one 17 (.one 18 (.one 19 .fin))))))), (13, .one 8 (.one 14 (.one 15 (.one 16 (.one 17 (.one 18 (.one 19 .fin)))))))]))))))))))))), (15, .one 0 (.alt [(1, .one 2 (.one 3 (.one 4 (.one 5 .fin)))), (2, .alt [(1, .one 3 (.one 4 (.one 5 .fin))), (3, .one 1 (.one 4 (.one 5 .fin)))])]))] mixed Try.call7 Try.func7 rfl Try.ntmps7 Try.results7 (by decide +kernel) rfl ?_
  simp only [push_cast, ↓branch_true, ↓branch_false, Nat.reduceBEq, Nat.reduceAdd, Nat.reduceMul, Nat.reduceSub, Int.reduceToNat, reduceCtorEq, branch_decide, branch_not, branch_beq, branch_bne]
  refine sp_at awake_sp [] rfl ?_ ?_ ?_
  · simp only [push_cast, ↓branch_true, ↓branch_false, Nat.reduceBEq, Nat.reduceAdd, Nat.reduceMul, Nat.reduceSub, Int.reduceToNat, reduceCtorEq, branch_decide, branch_not, branch_beq, branch_bne]
  · simp only [push_cast, ↓branch_true, ↓branch_false, Nat.reduceBEq, Nat.reduceAdd, Nat.reduceMul, Nat.reduceSub, Int.reduceToNat, reduceCtorEq, branch_decide, branch_not, branch_beq, branch_bne]
  rintro r0 H1 ⟨rfl, rfl⟩
  simp only [push_cast, ↓branch_true, ↓branch_false, Nat.reduceBEq, Nat.reduceAdd, Nat.reduceMul, Nat.reduceSub, Int.reduceToNat, reduceCtorEq, branch_decide, branch_not, branch_beq, branch_bne]
  refine ⟨fun _ => rfl, fun h20 => ?_⟩
  refine sp_call (long_pu l c) rfl [0] rfl (by simp only [push_cast, ↓branch_true, ↓branch_false, Nat.reduceBEq, Nat.reduceAdd, Nat.reduceMul, Nat.reduceSub, Int.reduceToNat, reduceCtorEq, branch_decide, branch_not, branch_beq, branch_bne]) (by simp only [push_cast, ↓branch_true, ↓branch_false, Nat.reduceBEq, Nat.reduceAdd, Nat.reduceMul, Nat.reduceSub, Int.reduceToNat, reduceCtorEq, branch_decide, branch_not, branch_beq, branch_bne]) ?_
  simp only [push_cast, ↓branch_true, ↓branch_false, Nat.reduceBEq, Nat.reduceAdd, Nat.reduceMul, Nat.reduceSub, Int.reduceToNat, reduceCtorEq, branch_decide, branch_not, branch_beq, branch_bne]
  cases hlo : longB l
  case true =>
    simp only [push_cast, ↓branch_true, ↓branch_false, Nat.reduceBEq, Nat.reduceAdd, Nat.reduceMul, Nat.reduceSub, Int.reduceToNat, reduceCtorEq, branch_decide, branch_not, branch_beq, branch_bne]
    rfl
  simp only [push_cast, ↓branch_true, ↓branch_false, Nat.reduceBEq, Nat.reduceAdd, Nat.reduceMul, Nat.reduceSub, Int.reduceToNat, reduceCtorEq, branch_decide, branch_not, branch_beq, branch_bne]
  refine sp_call (rvalid_pu l c hl) rfl [0] rfl (by simp only [push_cast, ↓branch_true, ↓branch_false, Nat.reduceBEq, Nat.reduceAdd, Nat.reduceMul, Nat.reduceSub, Int.reduceToNat, reduceCtorEq, branch_decide, branch_not, branch_beq, branch_bne]) (by simp only [push_cast, ↓branch_true, ↓branch_false, Nat.reduceBEq, Nat.reduceAdd, Nat.reduceMul, Nat.reduceSub, Int.reduceToNat, reduceCtorEq, branch_decide, branch_not, branch_beq, branch_bne]) ?_
  simp only [push_cast, ↓branch_true, ↓branch_false, Nat.reduceBEq, Nat.reduceAdd, Nat.reduceMul, Nat.reduceSub, Int.reduceToNat, reduceCtorEq, branch_decide, branch_not, branch_beq, branch_bne]
  cases hv : validB l
  case false =>
    simp only [push_cast, ↓branch_true, ↓branch_false, Nat.reduceBEq, Nat.reduceAdd, Nat.reduceMul, Nat.reduceSub, Int.reduceToNat, reduceCtorEq, branch_decide, branch_not, branch_beq, branch_bne]
    rfl
  simp only [push_cast, ↓branch_true, ↓branch_false, Nat.reduceBEq, Nat.reduceAdd, Nat.reduceMul, Nat.reduceSub, Int.reduceToNat, reduceCtorEq, branch_decide, branch_not, branch_beq, branch_bne]
  repeat (with_reducible refine And.intro (by omega) ?_)
  refine sp_call (long_pu [x] 1) rfl [2] rfl ?_ ?_ ?_
  · simp only [push_cast, ↓branch_true, ↓branch_false, Nat.reduceBEq, Nat.reduceAdd, Nat.reduceMul, Nat.reduceSub, Int.reduceToNat, reduceCtorEq, branch_decide, branch_not, branch_beq, branch_bne]
  · simp only [push_cast, ↓branch_true, ↓branch_false, Nat.reduceBEq, Nat.reduceAdd, Nat.reduceMul, Nat.reduceSub, Int.reduceToNat, reduceCtorEq, branch_decide, branch_not, branch_beq, branch_bne]
    intro i hi k hk
    obtain rfl : k = 0 := by omega
    exact ⟨rfl, by ((simp only [push_cast, ↓branch_true, ↓branch_false, Nat.reduceBEq, Nat.reduceAdd, Nat.reduceMul, Nat.reduceSub, Int.reduceToNat, reduceCtorEq, branch_decide, branch_not, branch_beq, branch_bne]); exact ⟨rfl, rfl⟩)⟩
  cases hlx : longB [x]
  case true =>
    simp only [push_cast, ↓branch_true, ↓branch_false, Nat.reduceBEq, Nat.reduceAdd, Nat.reduceMul, Nat.reduceSub, Int.reduceToNat, reduceCtorEq, branch_decide, branch_not, branch_beq, branch_bne]
    rfl
  simp only [push_cast, ↓branch_true, ↓branch_false, Nat.reduceBEq, Nat.reduceAdd, Nat.reduceMul, Nat.reduceSub, Int.reduceToNat, reduceCtorEq, branch_decide, branch_not, branch_beq, branch_bne]
  have hl60 := validB_len hv
  have fin0 : l.length = 0 → (runR l (johnE l)).fin = 0 := fun h => by
    have : johnE l = [] := List.length_eq_zero_iff.mp (by rw [john_len2, h])
    rw [this]
    rfl
  have hj := johnson_sp l c hlc (by omega) hv
  refine sp_at hj [0] rfl ?_ ?_ ?_
  · simp only [push_cast, ↓branch_true, ↓branch_false, Nat.reduceBEq, Nat.reduceAdd, Nat.reduceMul, Nat.reduceSub, Int.reduceToNat, reduceCtorEq, branch_decide, branch_not, branch_beq, branch_bne]
  · simp only [push_cast, ↓branch_true, ↓branch_false, Nat.reduceBEq, Nat.reduceAdd, Nat.reduceMul, Nat.reduceSub, Int.reduceToNat, reduceCtorEq, branch_decide, branch_not, branch_beq, branch_bne]
  rintro r0 H1 ⟨cap, hcap, rfl, rfl⟩
  simp only [push_cast, ↓branch_true, ↓branch_false, Nat.reduceBEq, Nat.reduceAdd, Nat.reduceMul, Nat.reduceSub, Int.reduceToNat, reduceCtorEq, branch_decide, branch_not, branch_beq, branch_bne]
  refine sp_at (cloneJb_sp l c hlc (by omega)) [0] rfl ?_ ?_ ?_
  · simp only [push_cast, ↓branch_true, ↓branch_false, Nat.reduceBEq, Nat.reduceAdd, Nat.reduceMul, Nat.reduceSub, Int.reduceToNat, reduceCtorEq, branch_decide, branch_not, branch_beq, branch_bne]
  · simp only [push_cast, ↓branch_true, ↓branch_false, Nat.reduceBEq, Nat.reduceAdd, Nat.reduceMul, Nat.reduceSub, Int.reduceToNat, reduceCtorEq, branch_decide, branch_not, branch_beq, branch_bne]
  rintro r0 H1 ⟨ct, hct, rfl, rfl⟩
  simp only [push_cast, ↓branch_true, ↓branch_false, Nat.reduceBEq, Nat.reduceAdd, Nat.reduceMul, Nat.reduceSub, Int.reduceToNat, reduceCtorEq, branch_decide, branch_not, branch_beq, branch_bne]
  refine tr_loop mixed (by kernel_rfl) (fun (k : Nat) => [(54, .v (.int .i64 k)), (53, .v (.int .i64 l.length)), (52, .s 2 0 0 l.length ct 3), (12, .s 2 0 0 l.length ct 3), (11, .v (.int .i64 0)), (10, .v (.int .i64 (runR l (johnE l)).fin)), (5, .p 1 0 0), (0, .s 0 0 0 l.length c 3), (2, .v (.int .u8 wh)), (3, .v (.int .u8 by_))])
    (fun k => [rJb l, ⟨43, false, .st (cJb x)⟩, tJb l k ct]) (fun k => k ≤ l.length) (fun k => l.length - k) 0 (Nat.zero_le _) (Mt.wk (rl := [0, 1, 4]) ⟨by kernel_rfl, ?_, ?_⟩) ?_
  · simp only [push_cast, ↓branch_true, ↓branch_false, Nat.reduceBEq, Nat.reduceAdd, Nat.reduceMul, Nat.reduceSub, Int.reduceToNat, reduceCtorEq, branch_decide, branch_not, branch_beq, branch_bne]
  · simp only [push_cast, ↓branch_true, ↓branch_false, Nat.reduceBEq, Nat.reduceAdd, Nat.reduceMul, Nat.reduceSub, Int.reduceToNat, reduceCtorEq, branch_decide, branch_not, branch_beq, branch_bne]
    simp
  intro k hk
  simp only [push_cast, ↓branch_true, ↓branch_false, Nat.reduceBEq, Nat.reduceAdd, Nat.reduceMul, Nat.reduceSub, Int.reduceToNat, reduceCtorEq, branch_decide, branch_not, branch_beq, branch_bne]
  refine ⟨fun h => ?_, fun h => ?_⟩
  · have hk2 : k < l.length := by omega
    repeat' (with_reducible apply And.intro)
    all_goals try omega
    all_goals
      refine lpK_normal (k + 1) [0, 1, 2] (by omega) (by omega) (by kernel_rfl) ?_ ?_
      · simp only [push_cast, ↓branch_true, ↓branch_false, Nat.reduceBEq, Nat.reduceAdd, Nat.reduceMul, Nat.reduceSub, Int.reduceToNat, reduceCtorEq, branch_decide, branch_not, branch_beq, branch_bne]
      · simp only [push_cast, ↓branch_true, ↓branch_false, Nat.reduceBEq, Nat.reduceAdd, Nat.reduceMul, Nat.reduceSub, Int.reduceToNat, reduceCtorEq, branch_decide, branch_not, branch_beq, branch_bne]
        intro i hi j hj
        obtain rfl : i = 0 := by omega
        by_cases e : j = k
        · subst e
          simp [mtL]
        · have e2 : (j == k) = false := by simpa using e
          have e3 : (j < k + 1) = (j < k) := by simp only [eq_iff_iff]; omega
          simp [mtL, e2, e3]
  · obtain rfl : k = l.length := by omega
    have hvt := turnJ_valid hv
    have htl := turnJ_len l
    have hjt := johnson_sp (turnJ l) ct (by omega) (by omega) hvt
    rw [turn_fin hv] at hjt
    refine sp_at hjt [2] rfl ?_ ?_ ?_
    · simp only [push_cast, ↓branch_true, ↓branch_false, Nat.reduceBEq, Nat.reduceAdd, Nat.reduceMul, Nat.reduceSub, Int.reduceToNat, reduceCtorEq, branch_decide, branch_not, branch_beq, branch_bne]
      exact htl
    · simp only [push_cast, ↓branch_true, ↓branch_false, Nat.reduceBEq, Nat.reduceAdd, Nat.reduceMul, Nat.reduceSub, Int.reduceToNat, reduceCtorEq, branch_decide, branch_not, branch_beq, branch_bne]
      refine fun i hi => ⟨by omega, fun j hj => ?_⟩
      rw [htl] at hj
      rw [turnJ_ix hj, if_pos hj, if_pos hj]
      exact ⟨rfl, rfl, rfl⟩
    rintro r0 H1 ⟨cap3, hcap3, rfl, rfl⟩
    simp only [push_cast, ↓branch_true, ↓branch_false, Nat.reduceBEq, Nat.reduceAdd, Nat.reduceMul, Nat.reduceSub, Int.reduceToNat, reduceCtorEq, branch_decide, branch_not, branch_beq, branch_bne]
    intro _ _ _
    repeat' (with_reducible apply And.intro)
    all_goals try omega
    all_goals
      refine sp_at (cloneJb_sp l c hlc (by omega)) [0] rfl ?_ ?_ ?_
      · simp only [push_cast, ↓branch_true, ↓branch_false, Nat.reduceBEq, Nat.reduceAdd, Nat.reduceMul, Nat.reduceSub, Int.reduceToNat, reduceCtorEq, branch_decide, branch_not, branch_beq, branch_bne]
      · simp only [push_cast, ↓branch_true, ↓branch_false, Nat.reduceBEq, Nat.reduceAdd, Nat.reduceMul, Nat.reduceSub, Int.reduceToNat, reduceCtorEq, branch_decide, branch_not, branch_beq, branch_bne]
      rintro r0 H1 ⟨cm, hcm, rfl, rfl⟩
      simp only [push_cast, ↓branch_true, ↓branch_false, Nat.reduceBEq, Nat.reduceAdd, Nat.reduceMul, Nat.reduceSub, Int.reduceToNat, reduceCtorEq, branch_decide, branch_not, branch_beq, branch_bne]
      repeat (with_reducible refine And.intro (by omega) ?_)
      refine .inr ?_
      repeat (with_reducible refine And.intro (by omega) ?_)
      intro cm2 hcm2
      obtain ⟨m, hm⟩ : ∃ m, m = l ++ [x] := ⟨_, rfl⟩
      have m1 : m.length = l.length + 1 := by rw [hm]; simp
      have m2 : ∀ k, k < l.length → ix m k = ix l k := fun k hk => by rw [hm]; exact ix_append_lt hk
      have m3 : ix m l.length = x := by rw [hm, ix_eq (by simp)]; simp
      refine sp_call (rvalid_pu m cm2 (by omega)) rfl [6] rfl ?_ ?_ ?_
      · simp only [push_cast, ↓branch_true, ↓branch_false, Nat.reduceBEq, Nat.reduceAdd, Nat.reduceMul, Nat.reduceSub, Int.reduceToNat, reduceCtorEq, branch_decide, branch_not, branch_beq, branch_bne]
        exact m1
      · simp only [push_cast, ↓branch_true, ↓branch_false, Nat.reduceBEq, Nat.reduceAdd, Nat.reduceMul, Nat.reduceSub, Int.reduceToNat, reduceCtorEq, branch_decide, branch_not, branch_beq, branch_bne]
        exact fun i hi => ⟨by omega, fun k hk => snoc_up m2 m3 (by omega)⟩
      simp only [push_cast, ↓branch_true, ↓branch_false, Nat.reduceBEq, Nat.reduceAdd, Nat.reduceMul, Nat.reduceSub, Int.reduceToNat, reduceCtorEq, branch_decide, branch_not, branch_beq, branch_bne]
      cases hvm : validB m
      · simp only [push_cast, ↓branch_true, ↓branch_false, Nat.reduceBEq, Nat.reduceAdd, Nat.reduceMul, Nat.reduceSub, Int.reduceToNat, reduceCtorEq, branch_decide, branch_not, branch_beq, branch_bne]
        refine ⟨fun h0 => ?_, fun h0 => ?_⟩
        · rw [fin0 (by omega)]
          simp [trueK]
        · refine sp_at (cloneJb_sp l c hlc (by omega)) [0] rfl ?_ ?_ ?_
          · simp only [push_cast, ↓branch_true, ↓branch_false, Nat.reduceBEq, Nat.reduceAdd, Nat.reduceMul, Nat.reduceSub, Int.reduceToNat, reduceCtorEq, branch_decide, branch_not, branch_beq, branch_bne]
          · simp only [push_cast, ↓branch_true, ↓branch_false, Nat.reduceBEq, Nat.reduceAdd, Nat.reduceMul, Nat.reduceSub, Int.reduceToNat, reduceCtorEq, branch_decide, branch_not, branch_beq, branch_bne]
          rintro r0 H1 ⟨cw, hcw, rfl, rfl⟩
          simp only [push_cast, ↓branch_true, ↓branch_false, Nat.reduceBEq, Nat.reduceAdd, Nat.reduceMul, Nat.reduceSub, Int.reduceToNat, reduceCtorEq, branch_decide, branch_not, branch_beq, branch_bne]
          obtain ⟨w, hw1, hw2⟩ : ∃ w : Nat, wh.tmod (l.length : Int) = (w : Int) ∧ w < l.length := by
            have a1 := Int.tmod_nonneg (l.length : Int) hw.1
            have a2 := Int.tmod_lt_of_pos wh (show (0 : Int) < l.length by omega)
            exact ⟨(wh.tmod (l.length : Int)).toNat, by omega, by omega⟩
          simp only [hw1, Int.toNat_natCast]
          have vw := validB_at hv hw2
          repeat (with_reducible refine And.intro (by omega) ?_)
          obtain ⟨q, hq⟩ : ∃ q, q = longJ l w by_ := ⟨_, rfl⟩
          have ql : q.length = l.length := by rw [hq, longJ_len]
          have qi : ∀ k, k < l.length → ix q k = if w = k then ⟨(ix l w).mark, (ix l w).cut, (ix l w).bend + by_⟩ else ix l k := fun k hk => by rw [hq, longJ_ix hk]
          refine sp_call (rvalid_pu q cw (by omega)) rfl [7] rfl ?_ ?_ ?_
          · simp only [push_cast, ↓branch_true, ↓branch_false, Nat.reduceBEq, Nat.reduceAdd, Nat.reduceMul, Nat.reduceSub, Int.reduceToNat, reduceCtorEq, branch_decide, branch_not, branch_beq, branch_bne]
            exact ql
          · simp only [push_cast, ↓branch_true, ↓branch_false, Nat.reduceBEq, Nat.reduceAdd, Nat.reduceMul, Nat.reduceSub, Int.reduceToNat, reduceCtorEq, branch_decide, branch_not, branch_beq, branch_bne]
            exact fun i hi => ⟨by omega, fun k hk => long_up qi hi (by omega)⟩
          cases hvq : validB q
          · simp only [push_cast, ↓branch_true, ↓branch_false, Nat.reduceBEq, Nat.reduceAdd, Nat.reduceMul, Nat.reduceSub, Int.reduceToNat, reduceCtorEq, branch_decide, branch_not, branch_beq, branch_bne]
            rfl
          · simp only [push_cast, ↓branch_true, ↓branch_false, Nat.reduceBEq, Nat.reduceAdd, Nat.reduceMul, Nat.reduceSub, Int.reduceToNat, reduceCtorEq, branch_decide, branch_not, branch_beq, branch_bne]
            have hjq := johnson_sp q cw (by omega) (by omega) hvq
            have hfq : (runR l (johnE l)).fin ≤ (runR q (johnE q)).fin := by subst hq; exact longer_fin hb.1 hv hvq
            refine sp_at hjq [7] rfl ?_ ?_ ?_
            · simp only [push_cast, ↓branch_true, ↓branch_false, Nat.reduceBEq, Nat.reduceAdd, Nat.reduceMul, Nat.reduceSub, Int.reduceToNat, reduceCtorEq, branch_decide, branch_not, branch_beq, branch_bne]
              exact ql
            · simp only [push_cast, ↓branch_true, ↓branch_false, Nat.reduceBEq, Nat.reduceAdd, Nat.reduceMul, Nat.reduceSub, Int.reduceToNat, reduceCtorEq, branch_decide, branch_not, branch_beq, branch_bne]
              exact fun i hi => ⟨by omega, fun k hk => long_up qi hi (by omega)⟩
            rintro r0 H1 ⟨cz, hcz, rfl, rfl⟩
            simp only [push_cast, ↓branch_true, ↓branch_false, Nat.reduceBEq, Nat.reduceAdd, Nat.reduceMul, Nat.reduceSub, Int.reduceToNat, reduceCtorEq, branch_decide, branch_not, branch_beq, branch_bne]
            intro _
            exact ⟨fun hlt => by omega, fun _ => rfl⟩
      · have hjm := johnson_sp m cm2 (by omega) (by omega) hvm
        have hfm : (runR l (johnE l)).fin ≤ (runR m (johnE m)).fin := by subst hm; exact further_fin hv hvm
        simp only [push_cast, ↓branch_true, ↓branch_false, Nat.reduceBEq, Nat.reduceAdd, Nat.reduceMul, Nat.reduceSub, Int.reduceToNat, reduceCtorEq, branch_decide, branch_not, branch_beq, branch_bne]
        refine sp_at hjm [6] rfl ?_ ?_ ?_
        · simp only [push_cast, ↓branch_true, ↓branch_false, Nat.reduceBEq, Nat.reduceAdd, Nat.reduceMul, Nat.reduceSub, Int.reduceToNat, reduceCtorEq, branch_decide, branch_not, branch_beq, branch_bne]
          exact m1
        · simp only [push_cast, ↓branch_true, ↓branch_false, Nat.reduceBEq, Nat.reduceAdd, Nat.reduceMul, Nat.reduceSub, Int.reduceToNat, reduceCtorEq, branch_decide, branch_not, branch_beq, branch_bne]
          exact fun i hi => ⟨by omega, fun k hk => snoc_up m2 m3 (by omega)⟩
        rintro r0 H1 ⟨cq, hcq, rfl, rfl⟩
        simp only [push_cast, ↓branch_true, ↓branch_false, Nat.reduceBEq, Nat.reduceAdd, Nat.reduceMul, Nat.reduceSub, Int.reduceToNat, reduceCtorEq, branch_decide, branch_not, branch_beq, branch_bne]
        intro _
        refine ⟨fun hlt => by omega, fun _ => ?_⟩
        refine ⟨fun h0 => ?_, fun h0 => ?_⟩
        · rw [fin0 (by omega)]
          simp [trueK]
        · refine sp_at (cloneJb_sp l c hlc (by omega)) [0] rfl ?_ ?_ ?_
          · simp only [push_cast, ↓branch_true, ↓branch_false, Nat.reduceBEq, Nat.reduceAdd, Nat.reduceMul, Nat.reduceSub, Int.reduceToNat, reduceCtorEq, branch_decide, branch_not, branch_beq, branch_bne]
          · simp only [push_cast, ↓branch_true, ↓branch_false, Nat.reduceBEq, Nat.reduceAdd, Nat.reduceMul, Nat.reduceSub, Int.reduceToNat, reduceCtorEq, branch_decide, branch_not, branch_beq, branch_bne]
          rintro r0 H1 ⟨cw, hcw, rfl, rfl⟩
          simp only [push_cast, ↓branch_true, ↓branch_false, Nat.reduceBEq, Nat.reduceAdd, Nat.reduceMul, Nat.reduceSub, Int.reduceToNat, reduceCtorEq, branch_decide, branch_not, branch_beq, branch_bne]
          obtain ⟨w, hw1, hw2⟩ : ∃ w : Nat, wh.tmod (l.length : Int) = (w : Int) ∧ w < l.length := by
            have a1 := Int.tmod_nonneg (l.length : Int) hw.1
            have a2 := Int.tmod_lt_of_pos wh (show (0 : Int) < l.length by omega)
            exact ⟨(wh.tmod (l.length : Int)).toNat, by omega, by omega⟩
          simp only [hw1, Int.toNat_natCast]
          have vw := validB_at hv hw2
          repeat (with_reducible refine And.intro (by omega) ?_)
          obtain ⟨q, hq⟩ : ∃ q, q = longJ l w by_ := ⟨_, rfl⟩
          have ql : q.length = l.length := by rw [hq, longJ_len]
          have qi : ∀ k, k < l.length → ix q k = if w = k then ⟨(ix l w).mark, (ix l w).cut, (ix l w).bend + by_⟩ else ix l k := fun k hk => by rw [hq, longJ_ix hk]
          refine sp_call (rvalid_pu q cw (by omega)) rfl [8] rfl ?_ ?_ ?_
          · simp only [push_cast, ↓branch_true, ↓branch_false, Nat.reduceBEq, Nat.reduceAdd, Nat.reduceMul, Nat.reduceSub, Int.reduceToNat, reduceCtorEq, branch_decide, branch_not, branch_beq, branch_bne]
            exact ql
          · simp only [push_cast, ↓branch_true, ↓branch_false, Nat.reduceBEq, Nat.reduceAdd, Nat.reduceMul, Nat.reduceSub, Int.reduceToNat, reduceCtorEq, branch_decide, branch_not, branch_beq, branch_bne]
            exact fun i hi => ⟨by omega, fun k hk => long_up qi hi (by omega)⟩
          cases hvq : validB q
          · simp only [push_cast, ↓branch_true, ↓branch_false, Nat.reduceBEq, Nat.reduceAdd, Nat.reduceMul, Nat.reduceSub, Int.reduceToNat, reduceCtorEq, branch_decide, branch_not, branch_beq, branch_bne]
            rfl
          · simp only [push_cast, ↓branch_true, ↓branch_false, Nat.reduceBEq, Nat.reduceAdd, Nat.reduceMul, Nat.reduceSub, Int.reduceToNat, reduceCtorEq, branch_decide, branch_not, branch_beq, branch_bne]
            have hjq := johnson_sp q cw (by omega) (by omega) hvq
            have hfq : (runR l (johnE l)).fin ≤ (runR q (johnE q)).fin := by subst hq; exact longer_fin hb.1 hv hvq
            refine sp_at hjq [8] rfl ?_ ?_ ?_
            · simp only [push_cast, ↓branch_true, ↓branch_false, Nat.reduceBEq, Nat.reduceAdd, Nat.reduceMul, Nat.reduceSub, Int.reduceToNat, reduceCtorEq, branch_decide, branch_not, branch_beq, branch_bne]
              exact ql
            · simp only [push_cast, ↓branch_true, ↓branch_false, Nat.reduceBEq, Nat.reduceAdd, Nat.reduceMul, Nat.reduceSub, Int.reduceToNat, reduceCtorEq, branch_decide, branch_not, branch_beq, branch_bne]
              exact fun i hi => ⟨by omega, fun k hk => long_up qi hi (by omega)⟩
            rintro r0 H1 ⟨cz, hcz, rfl, rfl⟩
            simp only [push_cast, ↓branch_true, ↓branch_false, Nat.reduceBEq, Nat.reduceAdd, Nat.reduceMul, Nat.reduceSub, Int.reduceToNat, reduceCtorEq, branch_decide, branch_not, branch_beq, branch_bne]
            intro _
            exact ⟨fun hlt => by omega, fun _ => rfl⟩
end Go.Proofs.Ytgbldceimdjblaa
