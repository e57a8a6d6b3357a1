/- PatternAll, PatternBest: the walks. -/
import Derived.Test.YthnpnoclhmneoaaV
set_option maxRecDepth 100000
set_option linter.unusedSimpArgs false
set_option linter.unusedVariables false
namespace Go.Proofs.Ythnpnoclhmneoaa
open Go.RowKit
def rPick (j : Nat) (Q : List (List Int)) (g caps : Nat → Nat) : Ob := ⟨32, true, .row 1 1 (fun _ => Q.length) (fun _ => 0) (fun _ k => [.s j (g k) 0 (ix Q k).length (caps k) 1])⟩
attribute [push_cast] rPick
theorem equalFuncG_pu (P Q E : List (List Int)) (p q g : Nat → Nat) (c d : Nat) (hP : P.length ≤ 9223372036854775806) (hQ : Q.length ≤ 9223372036854775806) (hp : ∀ x ∈ P, x.length ≤ 9223372036854775806) (hq : ∀ x ∈ Q, x.length ≤ 9223372036854775806) (hg : ∀ k, k < Q.length → g k < E.length ∧ ix E (g k) = ix Q k) :
    Pu Try.prog 13 [.s 1 0 0 P.length c 1, .s 3 0 0 Q.length d 1, .f (.func 14) [] []] [rLL P, rOut 0 P p, rLL E, rPick 2 Q g q] (.v (.bool (decide (P = Q)))) := by
  refine pu_of_ex true [] mixed Try.call13 Try.func13 rfl Try.ntmps13 Try.results13 (by decide +kernel) rfl rfl rfl ?_
  simp only [push_cast, ↓branch_true, ↓branch_false, Nat.reduceBEq, Nat.reduceAdd, Nat.reduceMul, Nat.reduceSub, Int.reduceToNat, reduceCtorEq, branch_decide, branch_not, branch_beq, branch_bne]
  refine ⟨fun h => ?_, fun h => ?_⟩
  · refine tr_loop0 mixed (by kernel_rfl) (fun (k : Nat) => [(17, .v (.int .i64 k)), (16, .v (.int .i64 P.length)), (15, .s 1 0 0 P.length c 1), (1, .s 3 0 0 Q.length d 1), (2, .f (.func 14) [] [])]) (fun k => k ≤ P.length ∧ ∀ j, j < k → ix P j = ix Q j) (fun k => P.length - k) 0 ⟨Nat.zero_le _, fun j h => by omega⟩ ?_ ?_
    · simp only [push_cast, ↓branch_true, ↓branch_false, Nat.reduceBEq, Nat.reduceAdd, Nat.reduceMul, Nat.reduceSub, Int.reduceToNat, reduceCtorEq, branch_decide, branch_not, branch_beq, branch_bne]
    · rintro k ⟨hk, hn⟩
      simp only [push_cast, ↓branch_true, ↓branch_false, Nat.reduceBEq, Nat.reduceAdd, Nat.reduceMul, Nat.reduceSub, Int.reduceToNat, reduceCtorEq, branch_decide, branch_not, branch_beq, branch_bne]
      refine ⟨fun h3 => ?_, fun h3 => ?_⟩
      · repeat (with_reducible refine And.intro (by omega) ?_)
        have hgk := hg k (by omega)
        have he := equal_pu P E k (g k) (p k) (q k) (by omega) hgk.1 (hp _ (ix_mem (by omega))) (by rw [hgk.2]; exact hq _ (ix_mem (by omega)))
        rw [hgk.2] at he
        refine sp_call he rfl [0, 2] rfl ?_ ?_ ?_
        · simp only [push_cast, ↓branch_true, ↓branch_false, Nat.reduceBEq, Nat.reduceAdd, Nat.reduceMul, Nat.reduceSub, Int.reduceToNat, reduceCtorEq, branch_decide, branch_not, branch_beq, branch_bne]
        · simp only [push_cast, ↓branch_true, ↓branch_false, Nat.reduceBEq, Nat.reduceAdd, Nat.reduceMul, Nat.reduceSub, Int.reduceToNat, reduceCtorEq, branch_decide, branch_not, branch_beq, branch_bne]
        · simp only [push_cast, ↓branch_true, ↓branch_false, Nat.reduceBEq, Nat.reduceAdd, Nat.reduceMul, Nat.reduceSub, Int.reduceToNat, reduceCtorEq, branch_decide, branch_not, branch_beq, branch_bne]
          refine ⟨fun h4 => ?_, fun h4 => ?_⟩
          · repeat (with_reducible refine And.intro (by omega) ?_)
            refine lp0_normal (k + 1) ⟨by omega, fun j hj => ?_⟩ (by omega) ?_
            · by_cases e : j = k
              · subst e; exact h4
              · exact hn j (by omega)
            · simp only [push_cast, ↓branch_true, ↓branch_false, Nat.reduceBEq, Nat.reduceAdd, Nat.reduceMul, Nat.reduceSub, Int.reduceToNat, reduceCtorEq, branch_decide, branch_not, branch_beq, branch_bne]
          · have : ¬ P = Q := fun e => h4 (by rw [e])
            simp [this]
      · have : P = Q := lists_eq_ix (by omega) fun j hj => hn j (by omega)
        simp [this]
  · have hn : ¬ P.length = Q.length := by omega
    have : ¬ P = Q := fun e => hn (by rw [e])
    simp [this]
theorem allG_max {length : Int} {l : List Pc} (h : givenE length l l.length = 0) : allG l l [] length = maxE length l := by
  obtain ⟨g1, g2, g3, g4⟩ := given_0 h
  have := allG_eq (ps := l) (d := []) (pre := []) (rest := length) (posL_of g1) rfl (by omega)
  simpa [maxE] using this
theorem allE_eq (length : Int) (l : List Pc) : rAllE length l = allE length l := by
  unfold rAllE allE
  by_cases h : givenE length l l.length = 0
  · rw [allG_max h]
  · rw [if_pos h, if_pos h]
theorem allL_eq (length : Int) (l : List Pc) : rAllL length l = allL length l := by
  unfold rAllL allL
  rw [allE_eq]
  by_cases h : allE length l = 0
  · rw [if_pos h, if_pos h, allG_max]
    unfold allE at h
    split at h
    · omega
    · omega
  · rw [if_neg h, if_neg h]
theorem few_ok {length : Int} {l : List Pc} (h : fewB length l = true) : l.length ≤ 205 ∧ (givenE length l l.length = 0 → l.length ≤ 10 → (eachG l length).length ≤ 2000 ∧ l.length ≤ 5) := by
  simp only [fewB, Bool.and_eq_true, Bool.not_eq_true', Bool.or_eq_false_iff, Bool.and_eq_false_iff, Bool.or_eq_true, decide_eq_true_eq, decide_eq_false_iff_not] at h
  refine ⟨by omega, fun hg hl => ?_⟩
  obtain ⟨g1, g2, g3, g4⟩ := given_0 hg
  have hp : prodL length l ≤ 2000 := by
    rcases h.2 with (h2 | h2) | h2
    · exact absurd hg h2
    · omega
    · exact h2
  have := eachG_count (l := l) (left := length) (length := length) (posL_of g1) (by omega) (Int.le_refl _)
  exact ⟨by omega, by omega⟩
theorem allL_len (length : Int) (l : List Pc) : (allL length l).length ≤ 1000 := by
  unfold allL
  split
  · rename_i h
    unfold allE at h
    split at h
    · omega
    · split at h
      · omega
      · split at h
        · omega
        · omega
  · simp
theorem all_sp3 (length : Int) (l : List Pc) (c : Nat) (hl : l.length ≤ 9223372036854775807) : Sp Try.prog 3 [.v (.int .i64 length), .s 0 0 0 l.length c 2] [rPc l] trueK := by
  refine sp_of_ex true [] mixed Try.call3 Try.func3 rfl Try.ntmps3 Try.results3 (by decide +kernel) rfl ?_
  simp only [push_cast, ↓branch_true, ↓branch_false, Nat.reduceBEq, Nat.reduceAdd, Nat.reduceMul, Nat.reduceSub, Int.reduceToNat, reduceCtorEq, branch_decide, branch_not, branch_beq, branch_bne]
  refine sp_at awake_sp [] rfl (by (simp only [push_cast, ↓branch_true, ↓branch_false, Nat.reduceBEq, Nat.reduceAdd, Nat.reduceMul, Nat.reduceSub, Int.reduceToNat, reduceCtorEq, branch_decide, branch_not, branch_beq, branch_bne])) (by (simp only [push_cast, ↓branch_true, ↓branch_false, Nat.reduceBEq, Nat.reduceAdd, Nat.reduceMul, Nat.reduceSub, Int.reduceToNat, reduceCtorEq, branch_decide, branch_not, branch_beq, branch_bne])) ?_
  rintro r0 H1 ⟨rfl, rfl⟩
  simp only [push_cast, ↓branch_true, ↓branch_false, Nat.reduceBEq, Nat.reduceAdd, Nat.reduceMul, Nat.reduceSub, Int.reduceToNat, reduceCtorEq, branch_decide, branch_not, branch_beq, branch_bne]
  refine sp_call (few_pu length l c hl) rfl [0] rfl (by simp only [push_cast, ↓branch_true, ↓branch_false, Nat.reduceBEq, Nat.reduceAdd, Nat.reduceMul, Nat.reduceSub, Int.reduceToNat, reduceCtorEq, branch_decide, branch_not, branch_beq, branch_bne]) (by simp only [push_cast, ↓branch_true, ↓branch_false, Nat.reduceBEq, Nat.reduceAdd, Nat.reduceMul, Nat.reduceSub, Int.reduceToNat, reduceCtorEq, branch_decide, branch_not, branch_beq, branch_bne]) ?_
  simp only [push_cast, ↓branch_true, ↓branch_false, Nat.reduceBEq, Nat.reduceAdd, Nat.reduceMul, Nat.reduceSub, Int.reduceToNat, reduceCtorEq, branch_decide, branch_not, branch_beq, branch_bne]
  refine ⟨fun hf => ?_, fun hf => rfl⟩
  obtain ⟨f1, f2⟩ := few_ok hf
  refine sp_at (allX_sp length l c (by omega)) [0] rfl ?_ ?_ ?_
  · simp only [push_cast, ↓branch_true, ↓branch_false, Nat.reduceBEq, Nat.reduceAdd, Nat.reduceMul, Nat.reduceSub, Int.reduceToNat, reduceCtorEq, branch_decide, branch_not, branch_beq, branch_bne]
  · simp only [push_cast, ↓branch_true, ↓branch_false, Nat.reduceBEq, Nat.reduceAdd, Nat.reduceMul, Nat.reduceSub, Int.reduceToNat, reduceCtorEq, branch_decide, branch_not, branch_beq, branch_bne]
  rintro r0 H1 ⟨oc, caps, rfl, q1, rfl⟩
  simp only [push_cast, ↓branch_true, ↓branch_false, Nat.reduceBEq, Nat.reduceAdd, Nat.reduceMul, Nat.reduceSub, Int.reduceToNat, reduceCtorEq, branch_decide, branch_not, branch_beq, branch_bne]
  refine sp_at (rAll_sp length l c (by omega) (fun h1 h2 => Nat.le_trans (f2 h1 h2).1 (by omega))) [0] rfl ?_ ?_ ?_
  · simp only [push_cast, ↓branch_true, ↓branch_false, Nat.reduceBEq, Nat.reduceAdd, Nat.reduceMul, Nat.reduceSub, Int.reduceToNat, reduceCtorEq, branch_decide, branch_not, branch_beq, branch_bne]
  · simp only [push_cast, ↓branch_true, ↓branch_false, Nat.reduceBEq, Nat.reduceAdd, Nat.reduceMul, Nat.reduceSub, Int.reduceToNat, reduceCtorEq, branch_decide, branch_not, branch_beq, branch_bne]
  rintro r0 H1 ⟨nE, E, g, caps2, oc2, rfl, rfl, w1, w2, rfl⟩
  simp only [push_cast, ↓branch_true, ↓branch_false, Nat.reduceBEq, Nat.reduceAdd, Nat.reduceMul, Nat.reduceSub, Int.reduceToNat, reduceCtorEq, branch_decide, branch_not, branch_beq, branch_bne]
  rw [allL_eq, allE_eq] at *
  have hlen := allL_len length l
  have q2 : ∀ x ∈ allL length l, x.length ≤ 9223372036854775806 := fun x hx => by rw [q1 x hx]; omega
  refine sp_call (equalFuncG_pu (allL length l) (allL length l) E caps caps2 g oc oc2 (by omega) (by omega) q2 q2 w2) rfl [1, 2, 3, 4] rfl ?_ ?_ ?_
  · simp only [push_cast, ↓branch_true, ↓branch_false, Nat.reduceBEq, Nat.reduceAdd, Nat.reduceMul, Nat.reduceSub, Int.reduceToNat, reduceCtorEq, branch_decide, branch_not, branch_beq, branch_bne]
  · simp only [push_cast, ↓branch_true, ↓branch_false, Nat.reduceBEq, Nat.reduceAdd, Nat.reduceMul, Nat.reduceSub, Int.reduceToNat, reduceCtorEq, branch_decide, branch_not, branch_beq, branch_bne]
    refine ⟨fun i hi => ?_, fun i hi k hk => ?_, fun i hi => ?_, fun i hi k hk => ?_⟩
    · exact Nat.le_of_eq (q1 _ (ix_mem hi))
    · exact q1 _ (ix_mem hk)
    · exact Nat.le_of_eq (w1 _ (ix_mem hi))
    · exact q1 _ (ix_mem hk)
  simp only [push_cast, ↓branch_true, ↓branch_false, Nat.reduceBEq, Nat.reduceAdd, Nat.reduceMul, Nat.reduceSub, Int.reduceToNat, reduceCtorEq, branch_decide, branch_not, branch_beq, branch_bne]
  exact fun _ => rfl
theorem best_sp4 (length : Int) (l : List Pc) (pr : List Int) (c cp : Nat) (hl : l.length ≤ 9223372036854775807) (hl2 : pr.length ≤ 9223372036854775807) : Sp Try.prog 4 [.v (.int .i64 length), .s 0 0 0 l.length c 2, .s 1 0 0 pr.length cp 1] [rPc l, rInt 3 pr] trueK := by
  refine sp_of_ex true [] mixed Try.call4 Try.func4 rfl Try.ntmps4 Try.results4 (by decide +kernel) rfl ?_
  simp only [push_cast, ↓branch_true, ↓branch_false, Nat.reduceBEq, Nat.reduceAdd, Nat.reduceMul, Nat.reduceSub, Int.reduceToNat, reduceCtorEq, branch_decide, branch_not, branch_beq, branch_bne]
  refine sp_at awake_sp [] rfl (by (simp only [push_cast, ↓branch_true, ↓branch_false, Nat.reduceBEq, Nat.reduceAdd, Nat.reduceMul, Nat.reduceSub, Int.reduceToNat, reduceCtorEq, branch_decide, branch_not, branch_beq, branch_bne])) (by (simp only [push_cast, ↓branch_true, ↓branch_false, Nat.reduceBEq, Nat.reduceAdd, Nat.reduceMul, Nat.reduceSub, Int.reduceToNat, reduceCtorEq, branch_decide, branch_not, branch_beq, branch_bne])) ?_
  rintro r0 H1 ⟨rfl, rfl⟩
  simp only [push_cast, ↓branch_true, ↓branch_false, Nat.reduceBEq, Nat.reduceAdd, Nat.reduceMul, Nat.reduceSub, Int.reduceToNat, reduceCtorEq, branch_decide, branch_not, branch_beq, branch_bne]
  refine sp_call (few_pu length l c hl) rfl [0] rfl (by simp only [push_cast, ↓branch_true, ↓branch_false, Nat.reduceBEq, Nat.reduceAdd, Nat.reduceMul, Nat.reduceSub, Int.reduceToNat, reduceCtorEq, branch_decide, branch_not, branch_beq, branch_bne]) (by simp only [push_cast, ↓branch_true, ↓branch_false, Nat.reduceBEq, Nat.reduceAdd, Nat.reduceMul, Nat.reduceSub, Int.reduceToNat, reduceCtorEq, branch_decide, branch_not, branch_beq, branch_bne]) ?_
  simp only [push_cast, ↓branch_true, ↓branch_false, Nat.reduceBEq, Nat.reduceAdd, Nat.reduceMul, Nat.reduceSub, Int.reduceToNat, reduceCtorEq, branch_decide, branch_not, branch_beq, branch_bne]
  simp only [branch]
  refine ⟨fun hf => ⟨fun _ => rfl, fun hp => ?_⟩, fun _ => rfl⟩
  obtain ⟨f1, f2⟩ := few_ok hf
  have f3 : givenE length l l.length = 0 → l.length ≤ 10 → (eachG l length).length ≤ 1000000 := fun h1 h2 => Nat.le_trans (f2 h1 h2).1 (by omega)
  refine sp_at (bestX_sp length l c pr cp (by omega) (by omega)) [0, 1] rfl ?_ ?_ ?_
  · simp only [push_cast, ↓branch_true, ↓branch_false, Nat.reduceBEq, Nat.reduceAdd, Nat.reduceMul, Nat.reduceSub, Int.reduceToNat, reduceCtorEq, branch_decide, branch_not, branch_beq, branch_bne]
  · simp only [push_cast, ↓branch_true, ↓branch_false, Nat.reduceBEq, Nat.reduceAdd, Nat.reduceMul, Nat.reduceSub, Int.reduceToNat, reduceCtorEq, branch_decide, branch_not, branch_beq, branch_bne]
  rintro r0 H1 ⟨n1, i1, l1, c1, k1, g1, rfl, b1, _, rfl⟩
  simp only [push_cast, ↓branch_true, ↓branch_false, Nat.reduceBEq, Nat.reduceAdd, Nat.reduceMul, Nat.reduceSub, Int.reduceToNat, reduceCtorEq, branch_decide, branch_not, branch_beq, branch_bne]
  refine sp_at (fullestX_sp length l c (by omega)) [0] rfl ?_ ?_ ?_
  · simp only [push_cast, ↓branch_true, ↓branch_false, Nat.reduceBEq, Nat.reduceAdd, Nat.reduceMul, Nat.reduceSub, Int.reduceToNat, reduceCtorEq, branch_decide, branch_not, branch_beq, branch_bne]
  · simp only [push_cast, ↓branch_true, ↓branch_false, Nat.reduceBEq, Nat.reduceAdd, Nat.reduceMul, Nat.reduceSub, Int.reduceToNat, reduceCtorEq, branch_decide, branch_not, branch_beq, branch_bne]
  rintro r0 H1 ⟨n2, i2, l2, c2, k2, g2, rfl, b2, rfl⟩
  simp only [push_cast, ↓branch_true, ↓branch_false, Nat.reduceBEq, Nat.reduceAdd, Nat.reduceMul, Nat.reduceSub, Int.reduceToNat, reduceCtorEq, branch_decide, branch_not, branch_beq, branch_bne]
  refine sp_at (rBest_sp length l c pr cp (by omega) (by omega) f3) [0, 1] rfl ?_ ?_ ?_
  · simp only [push_cast, ↓branch_true, ↓branch_false, Nat.reduceBEq, Nat.reduceAdd, Nat.reduceMul, Nat.reduceSub, Int.reduceToNat, reduceCtorEq, branch_decide, branch_not, branch_beq, branch_bne]
  · simp only [push_cast, ↓branch_true, ↓branch_false, Nat.reduceBEq, Nat.reduceAdd, Nat.reduceMul, Nat.reduceSub, Int.reduceToNat, reduceCtorEq, branch_decide, branch_not, branch_beq, branch_bne]
  rintro r0 H1 ⟨n3, i3, l3, c3, k3, g3, rfl, b3, rfl⟩
  simp only [push_cast, ↓branch_true, ↓branch_false, Nat.reduceBEq, Nat.reduceAdd, Nat.reduceMul, Nat.reduceSub, Int.reduceToNat, reduceCtorEq, branch_decide, branch_not, branch_beq, branch_bne]
  refine sp_at (rFullest_sp length l c (by omega) f3) [0] rfl ?_ ?_ ?_
  · simp only [push_cast, ↓branch_true, ↓branch_false, Nat.reduceBEq, Nat.reduceAdd, Nat.reduceMul, Nat.reduceSub, Int.reduceToNat, reduceCtorEq, branch_decide, branch_not, branch_beq, branch_bne]
  · simp only [push_cast, ↓branch_true, ↓branch_false, Nat.reduceBEq, Nat.reduceAdd, Nat.reduceMul, Nat.reduceSub, Int.reduceToNat, reduceCtorEq, branch_decide, branch_not, branch_beq, branch_bne]
  rintro r0 H1 ⟨n4, i4, l4, c4, k4, g4, rfl, b4, rfl⟩
  simp only [push_cast, ↓branch_true, ↓branch_false, Nat.reduceBEq, Nat.reduceAdd, Nat.reduceMul, Nat.reduceSub, Int.reduceToNat, reduceCtorEq, branch_decide, branch_not, branch_beq, branch_bne]
  refine sp_call (equalBB_pu l.length n1 n3 i1 l1 c1 i3 l3 c3 k1 k3 g1 g3 _ _ (by omega) b1 b3) rfl [2, 4] rfl ?_ ?_ ?_
  · simp only [push_cast, ↓branch_true, ↓branch_false, Nat.reduceBEq, Nat.reduceAdd, Nat.reduceMul, Nat.reduceSub, Int.reduceToNat, reduceCtorEq, branch_decide, branch_not, branch_beq, branch_bne]
  · simp only [push_cast, ↓branch_true, ↓branch_false, Nat.reduceBEq, Nat.reduceAdd, Nat.reduceMul, Nat.reduceSub, Int.reduceToNat, reduceCtorEq, branch_decide, branch_not, branch_beq, branch_bne]
  simp only [push_cast, ↓branch_true, ↓branch_false, Nat.reduceBEq, Nat.reduceAdd, Nat.reduceMul, Nat.reduceSub, Int.reduceToNat, reduceCtorEq, branch_decide, branch_not, branch_beq, branch_bne]
  intro _
  refine sp_call (equalBB_pu l.length n2 n4 i2 l2 c2 i4 l4 c4 k2 k4 g2 g4 _ _ (by omega) b2 b4) rfl [3, 5] rfl ?_ ?_ ?_
  · simp only [push_cast, ↓branch_true, ↓branch_false, Nat.reduceBEq, Nat.reduceAdd, Nat.reduceMul, Nat.reduceSub, Int.reduceToNat, reduceCtorEq, branch_decide, branch_not, branch_beq, branch_bne]
  · simp only [push_cast, ↓branch_true, ↓branch_false, Nat.reduceBEq, Nat.reduceAdd, Nat.reduceMul, Nat.reduceSub, Int.reduceToNat, reduceCtorEq, branch_decide, branch_not, branch_beq, branch_bne]
  simp only [push_cast, ↓branch_true, ↓branch_false, Nat.reduceBEq, Nat.reduceAdd, Nat.reduceMul, Nat.reduceSub, Int.reduceToNat, reduceCtorEq, branch_decide, branch_not, branch_beq, branch_bne]
  exact fun _ => rfl
end Go.Proofs.Ythnpnoclhmneoaa
