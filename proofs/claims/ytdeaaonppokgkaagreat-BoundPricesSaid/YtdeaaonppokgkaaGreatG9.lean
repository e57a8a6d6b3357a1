/- Contracts: All, Best. -/
import Derived.Test.YtdeaaonppokgkaaGreatF9
set_option maxRecDepth 100000
set_option linter.unusedSimpArgs false
set_option linter.unusedVariables false
-- 
namespace Go.Proofs.YtdeaaonppokgkaaGreat.Pat
open Go.RowKit
def allE (length : Int) (l : List Pc) : Int := if givenE length l l.length ≠ 0 then givenE length l l.length else if 10 < l.length then 6 else if 1000 < (allG l l [] length).length then 6 else 0
def allL (length : Int) (l : List Pc) : List (List Int) := if allE length l = 0 then allG l l [] length else []
/-- A list of patterns: the rows, and the list of the rows. -/
def oOutJ (jf n m oc : Nat) (caps : Nat → Nat) : Ob := ⟨32, false, .row 1 1 (fun _ => m) (fun _ => oc) (fun _ k => [.s jf k 0 n (caps k) 1])⟩
attribute [push_cast] oOutJ
theorem given_ok {length : Int} {l : List Pc} {n : Int} (h : givenE length l n = 0) : orderB l = true ∧ 1 ≤ length ∧ length ≤ 1048576 ∧ n = l.length := by
  unfold givenE at h
  by_cases h1 : orderB l = false
  · rw [if_pos h1] at h; omega
  · rw [if_neg h1] at h
    by_cases h2 : length < 1 ∨ 1048576 < length
    · rw [if_pos h2] at h; omega
    · rw [if_neg h2] at h
      by_cases h3 : n = l.length
      · exact ⟨by simpa using h1, by omega, by omega, h3⟩
      · rw [if_neg h3] at h; omega
theorem allX_sp (length : Int) (l : List Pc) (c : Nat) (hl : l.length ≤ 9223372036854775807) : Sp Tryz.prog 20 [.v (.int .i64 length), .s 0 0 0 l.length c 2] [rPc l]
    (fun r H => ∃ oc caps, r = .t [.s 2 0 0 (allL length l).length oc 1, .v (.int .i64 (allE length l))] ∧ (∀ q ∈ allL length l, q.length = l.length) ∧ H = [rPc l, oFam l.length (allL length l).length caps (allL length l), oOutJ 1 l.length (allL length l).length oc caps]) := by
  refine sp_wk ?_
  refine sp_of_ex true [] mixed Tryz.call20 Tryz.func20 rfl Tryz.ntmps20 Tryz.results20 (by decide +kernel) rfl ?_
  refine sxo ?_
  try with_reducible exact trivial
  refine sp_call (given_pu length l.length l c hl) rfl [0] rfl (by simp only [push_cast, ↓branch_true, ↓branch_false, Nat.reduceBEq, Nat.reduceAdd, Nat.reduceMul, Nat.reduceSub, Int.reduceToNat, reduceCtorEq, branch_decide, branch_not, branch_beq, branch_bne]) (by simp only [push_cast, ↓branch_true, ↓branch_false, Nat.reduceBEq, Nat.reduceAdd, Nat.reduceMul, Nat.reduceSub, Int.reduceToNat, reduceCtorEq, branch_decide, branch_not, branch_beq, branch_bne]) ?_
  refine sxo ?_
  try with_reducible exact trivial
  refine ⟨fun h => ?_, fun h => ?_⟩
  · obtain ⟨ho, hl0, hl1, _⟩ := given_ok h
    refine sp_pre_mt (args' := [.s 0 0 0 l.length c 2, .s 1 0 0 ([] : List Int).length 0 1]) (H' := [rPc l, rInt 3 []]) [0, 1] ?_ (by kernel_rfl) ?_ ((begin_sp l [] c 0 ho).mono ?_)
    · refine sxo ?_
      try with_reducible exact trivial
    · refine sxo ?_
      try with_reducible exact trivial
    rintro r0 H1 ⟨rfl, rfl⟩
    refine sxo ?_
    try with_reducible exact trivial
    refine ⟨fun h10 => ?_, fun h10 => ?_⟩
    · have e1 : allE length l = 6 := by
        unfold allE
        rw [if_neg (by omega), if_pos (by omega)]
      have e2 : allL length l = [] := by
        unfold allL
        rw [if_neg (by omega)]
      rw [e1, e2]
      refine ⟨_, _, vwk_mt [0, 5, 6] ?_ ?_ ?_, 0, fun _ => 0, rfl, (fun q hq => by cases hq), rfl⟩
      · refine sxo ?_
        try with_reducible exact trivial
      · kernel_rfl
      · refine sxo ?_
        try with_reducible exact trivial
        omega
    · have h0 := all_sp l [] c 0 ho l.length 0 length (fun _ => 0) [] (fun _ => 0) 0 (by omega) (by omega) hl1 (by simp) (by simp)
      refine sp_pre_mt (args' := [.p 4 0 0, .v (.int .i64 ((0 : Nat) : Int)), .v (.int .i64 length)]) (H' := [rPc l, rInt 3 [], rOwn 3 l.length l.length (fun _ => 0), rOwn 3 (l.length + 1) (l.length + 1) (fun k => aft (l.drop k)), oA l.length c ([] : List Int).length 0 5 ([] : List (List Int)).length 0, oOut l.length ([] : List (List Int)).length 0 (fun _ => 0), oFam l.length ([] : List (List Int)).length (fun _ => 0) []]) [0, 1, 2, 3, 4, 5, 6] ?_ (by kernel_rfl) ?_ (h0.mono ?_)
      · refine sxo ?_
        try with_reducible exact trivial
      · refine sxo ?_
        try with_reducible exact trivial
        omega
      rintro r0 H1 ⟨b, nf', pats, caps, oc, rfl, q1, q2, q3, q4, rfl⟩
      have hall : ([] : List (List Int)) ++ allG l (l.drop 0) (preF (fun _ => 0) 0) length = allG l l [] length := by simp [preF]
      rw [hall] at q3 q4
      cases b
      · have e1 : allE length l = 6 := by
          unfold allE
          rw [if_neg (by omega), if_neg (by omega), if_pos (q4 rfl)]
        have e2 : allL length l = [] := by
          unfold allL
          rw [if_neg (by omega)]
        rw [e1, e2]
        refine sxo ?_
        try with_reducible exact trivial
        refine ⟨_, _, vwk_mt [0, 8, 9] ?_ ?_ ?_, 0, fun _ => 0, rfl, (fun q hq => by cases hq), rfl⟩
        · refine sxo ?_
          try with_reducible exact trivial
        · kernel_rfl
        · refine sxo ?_
          try with_reducible exact trivial
          omega
      · obtain ⟨p1, p2⟩ := q3 rfl
        have e1 : allE length l = 0 := by
          unfold allE
          rw [if_neg (by omega), if_neg (by omega), if_neg (by rw [← p1]; omega)]
        have e2 : allL length l = pats := by
          unfold allL
          rw [if_pos e1, p1]
        rw [e1, e2]
        refine sxo ?_
        try with_reducible exact trivial
        refine ⟨_, _, vwk_mt [0, 6, 7] ?_ ?_ ?_, oc, caps, rfl, q2, rfl⟩
        · refine sxo ?_
          try with_reducible exact trivial
        · kernel_rfl
        · refine sxo ?_
          try with_reducible exact trivial
  · have e1 : allE length l = givenE length l l.length := by
      unfold allE
      rw [if_pos h]
    have e2 : allL length l = [] := by
      unfold allL
      rw [if_neg (by rw [e1]; exact h)]
    rw [e1, e2]
    refine ⟨_, _, vwk_mt [0, 1, 2] ?_ ?_ ?_, 0, fun _ => 0, rfl, (fun q hq => by cases hq), rfl⟩
    · refine sxo ?_
      try with_reducible exact trivial
    · kernel_rfl
    · refine sxo ?_
      try with_reducible exact trivial
      omega
end Go.Proofs.YtdeaaonppokgkaaGreat.Pat
