/- Contracts: the reference's Fullest and Few; equality of best patterns. -/
import Derived.Test.YtdeaaonppokgkaaU9
set_option maxRecDepth 100000
set_option linter.unusedSimpArgs false
set_option linter.unusedVariables false
-- 
namespace Go.Proofs.Ytdeaaonppokgkaa.Pat
open Go.RowKit
theorem fold_bound {B : Int} {pr : List Int} : ∀ {E : List (List Int)} {s : Bst}, (∀ q ∈ E, 0 ≤ priceL q pr ∧ priceL q pr ≤ B) → -1 ≤ s.2 → s.2 ≤ B → -1 ≤ (E.foldl (pickB [] 0 pr) s).2 ∧ (E.foldl (pickB [] 0 pr) s).2 ≤ B
  | [], s, _, h1, h2 => ⟨h1, h2⟩
  | q :: E, s, h, h1, h2 => by
    have hq := h q (List.mem_cons_self ..)
    rw [List.foldl_cons]
    refine fold_bound (fun x hx => h x (List.mem_cons_of_mem _ hx)) ?_ ?_ <;> unfold pickB <;> split <;> (try simp only) <;> omega
theorem bestE_0 {length : Int} {l : List Pc} {pr : List Int} (h : bestE length l pr = 0) : givenE length l pr.length = 0 ∧ (∀ x ∈ pr, 0 ≤ x ∧ x ≤ 1073741824) ∧ l.length ≤ 10 := by
  unfold bestE at h
  split at h
  · omega
  · split at h
    · omega
    · rename_i h1 h2
      split at h
      · omega
      · refine ⟨by omega, fun x hx => ?_, by omega⟩
        have := (List.any_eq_false.1 (by simpa using h2)) x hx
        simp only [badP, Bool.or_eq_true, decide_eq_true_eq] at this
        omega
theorem bestS_bound {length : Int} {l : List Pc} {pr : List Int} (h : bestE length l pr = 0) : -1 ≤ (bestS length l pr).2 ∧ (bestS length l pr).2 ≤ 11258999068426240 := by
  obtain ⟨h1, h2, h3⟩ := bestE_0 h
  obtain ⟨g1, g2, g3, g4⟩ := given_0 h1
  rw [bestS_fold g1 (by omega) (by omega) (fun x hx => (h2 x hx).1) h]
  refine fold_bound (fun q hq => ?_) (by simp) (by simp)
  obtain ⟨f1, f2, f3⟩ := (mem_eachG (posL_of g1) (by omega)).1 hq
  have := priceL_bound (inB_vals g1 f2 f1) h2
  omega
def fewB (length : Int) (l : List Pc) : Bool := !((decide (5 < l.length) && decide (l.length ≤ 10)) || decide (205 < l.length)) && (decide (givenE length l l.length ≠ 0) || decide (10 < l.length) || decide (prodL length l ≤ 2000))
theorem few_pu (length : Int) (l : List Pc) (c : Nat) (hl : l.length ≤ 9223372036854775807) : Pu Try.prog 10 [.v (.int .i64 length), .s 0 0 0 l.length c 2] [rPc l] (.v (.bool (fewB length l))) := by
  refine pu_of_ex true [] mixed Try.call10 Try.func10 rfl Try.ntmps10 Try.results10 (by decide +kernel) rfl rfl rfl ?_
  simp only [push_cast, ↓branch_true, ↓branch_false, Nat.reduceBEq, Nat.reduceAdd, Nat.reduceMul, Nat.reduceSub, Int.reduceToNat, reduceCtorEq, branch_decide, branch_not, branch_beq, branch_bne]
  refine ⟨fun h1 => ⟨fun h2 => ?_, fun h2 => ⟨fun h3 => ?_, fun h3 => ?_⟩⟩, fun h1 => ⟨fun h3 => ?_, fun h3 => ?_⟩⟩
  · simp [fewB, show 5 < l.length by omega, show l.length ≤ 10 by omega]
  · simp [fewB, show 205 < l.length by omega]
  · have e : fewB length l = true := by simp [fewB, show ¬ l.length ≤ 10 by omega, show ¬ 205 < l.length by omega, show 10 < l.length by omega]
    rw [e]
    refine sp_call (rgiven_pu length l.length l c (by omega)) rfl [0] rfl (by simp only [push_cast, ↓branch_true, ↓branch_false, Nat.reduceBEq, Nat.reduceAdd, Nat.reduceMul, Nat.reduceSub, Int.reduceToNat, reduceCtorEq, branch_decide, branch_not, branch_beq, branch_bne]) (by simp only [push_cast, ↓branch_true, ↓branch_false, Nat.reduceBEq, Nat.reduceAdd, Nat.reduceMul, Nat.reduceSub, Int.reduceToNat, reduceCtorEq, branch_decide, branch_not, branch_beq, branch_bne]) ?_
    simp only [push_cast, ↓branch_true, ↓branch_false, Nat.reduceBEq, Nat.reduceAdd, Nat.reduceMul, Nat.reduceSub, Int.reduceToNat, reduceCtorEq, branch_decide, branch_not, branch_beq, branch_bne]
    exact fun _ h => absurd (show 10 < (l.length : Int) by omega) h
  · simp [fewB, show 205 < l.length by omega]
  · have e : fewB length l = (decide (givenE length l l.length ≠ 0) || decide (prodL length l ≤ 2000)) := by simp [fewB, show ¬ 5 < l.length by omega, show ¬ 205 < l.length by omega, show ¬ 10 < l.length by omega]
    rw [e]
    refine sp_call (rgiven_pu length l.length l c (by omega)) rfl [0] rfl (by simp only [push_cast, ↓branch_true, ↓branch_false, Nat.reduceBEq, Nat.reduceAdd, Nat.reduceMul, Nat.reduceSub, Int.reduceToNat, reduceCtorEq, branch_decide, branch_not, branch_beq, branch_bne]) (by simp only [push_cast, ↓branch_true, ↓branch_false, Nat.reduceBEq, Nat.reduceAdd, Nat.reduceMul, Nat.reduceSub, Int.reduceToNat, reduceCtorEq, branch_decide, branch_not, branch_beq, branch_bne]) ?_
    simp only [push_cast, ↓branch_true, ↓branch_false, Nat.reduceBEq, Nat.reduceAdd, Nat.reduceMul, Nat.reduceSub, Int.reduceToNat, reduceCtorEq, branch_decide, branch_not, branch_beq, branch_bne]
    refine ⟨fun hg => ?_, fun hg => ?_⟩
    · obtain ⟨g1, g2, g3, g4⟩ := given_0 hg
      have hpos := posL_of g1
      refine ⟨fun h => absurd h (by omega), fun _ => ?_⟩
      simp only [hg, ne_eq, not_true_eq_false, decide_false, Bool.false_or]
      refine tr_loop0 mixed (by kernel_rfl) (fun (x : Nat × Int) => [(6, .v (.int .i64 x.1)), (5, .v (.int .i64 x.2)), (0, .v (.int .i64 length)), (1, .s 0 0 0 l.length c 2)]) (fun x => x.1 ≤ l.length ∧ 1 ≤ x.2 ∧ x.2 ≤ 2000 ∧ x.2 * prodL length (l.drop x.1) = prodL length l) (fun x => l.length - x.1) (0, 1) ⟨Nat.zero_le _, Int.le_refl _, by simp, by simp⟩ ?_ ?_
      · simp only [push_cast, ↓branch_true, ↓branch_false, Nat.reduceBEq, Nat.reduceAdd, Nat.reduceMul, Nat.reduceSub, Int.reduceToNat, reduceCtorEq, branch_decide, branch_not, branch_beq, branch_bne]
      rintro ⟨i, n⟩ ⟨r1, r2, r3, r4⟩
      simp only at r1 r2 r3 r4
      simp only [push_cast, ↓branch_true, ↓branch_false, Nat.reduceBEq, Nat.reduceAdd, Nat.reduceMul, Nat.reduceSub, Int.reduceToNat, reduceCtorEq, branch_decide, branch_not, branch_beq, branch_bne]
      refine ⟨fun h => ?_, fun h => ?_⟩
      · have hk : i < l.length := by omega
        have hat := order_at g1 hk
        have hd : prodL length (l.drop i) = (mostF (ix l i) length + 1) * prodL length (l.drop (i + 1)) := by rw [drop_ix hk, prodL]
        have htd : length.tdiv (ix l i).len = length / (ix l i).len := Int.tdiv_eq_ediv_of_nonneg (by omega)
        have hq0 : 0 ≤ length / (ix l i).len := Int.ediv_nonneg (by omega) (by omega)
        have hq1 : length / (ix l i).len ≤ length := Int.ediv_le_self _ (by omega)
        have hmin : min (ix l i).cnt (length / (ix l i).len) = mostF (ix l i) length := rfl
        rw [htd, hmin]
        obtain ⟨m0, m1, m2⟩ := most_bound (rest := length) hat (by omega) g3
        have p1 := prodL_pos (l := l.drop (i + 1)) (length := length) (fun q hq => hpos q (List.mem_of_mem_drop hq)) (by omega)
        have n0 : n ≤ n * (mostF (ix l i) length + 1) := by
          have := Int.mul_le_mul_of_nonneg_left (show 1 ≤ mostF (ix l i) length + 1 by omega) (show 0 ≤ n by omega)
          omega
        have n1 : n * (mostF (ix l i) length + 1) ≤ 2000 * 1048577 := Int.mul_le_mul r3 (by omega) (by omega) (by omega)
        have n2 : n * (mostF (ix l i) length + 1) * prodL length (l.drop (i + 1)) = prodL length l := by rw [← r4, hd, Int.mul_assoc]
        have n3 : n * (mostF (ix l i) length + 1) ≤ prodL length l := by
          rw [← n2]
          have := Int.mul_le_mul_of_nonneg_left p1 (show 0 ≤ n * (mostF (ix l i) length + 1) by omega)
          omega
        repeat (with_reducible refine And.intro (by omega) ?_)
        refine ⟨fun h2 => ?_, fun h2 => ?_⟩
        · simp [show ¬ prodL length l ≤ 2000 by omega]
        · repeat (with_reducible refine And.intro (by omega) ?_)
          refine lp0_normal (i + 1, n * (mostF (ix l i) length + 1)) ⟨by simp only; omega, by simp only; omega, by simp only; omega, n2⟩ (by simp only; omega) ?_
          simp only [push_cast, ↓branch_true, ↓branch_false, Nat.reduceBEq, Nat.reduceAdd, Nat.reduceMul, Nat.reduceSub, Int.reduceToNat, reduceCtorEq, branch_decide, branch_not, branch_beq, branch_bne]
      · obtain rfl : i = l.length := by omega
        rw [List.drop_length, prodL, Int.mul_one] at r4
        simp [show prodL length l ≤ 2000 by omega]
    · simp [hg]
theorem only_ob {n nb bi : Nat} {s : List Int} {bf : List (List Int)} (a1 : s = ix bf bi) (a2 : s.length = n) : ∀ i, i < nb → (ix (onlyAt nb bi s) i).length ≤ n ∧ ∀ k, k < (ix (onlyAt nb bi s) i).length → Value.int IntKind.i64 (ix (ix (onlyAt nb bi s) i) k) = Value.int IntKind.i64 (ix (ix bf i) k) := fun i h => by
  rw [onlyAt_ix h]
  by_cases e : i = bi
  · subst e
    rw [if_pos rfl, a1]
    exact ⟨by rw [← a1]; omega, fun k _ => rfl⟩
  · rw [if_neg e]
    exact ⟨Nat.zero_le _, fun k hk => absurd hk (Nat.not_lt_zero _)⟩
end Go.Proofs.Ytdeaaonppokgkaa.Pat
