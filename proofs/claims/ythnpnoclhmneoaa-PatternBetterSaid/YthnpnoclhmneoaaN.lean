/- PatternForms: the walk, and its plain facts. -/
import Derived.Test.YthnpnoclhmneoaaM
set_option maxRecDepth 100000
set_option linter.unusedSimpArgs false
set_option linter.unusedVariables false
namespace Go.Proofs.Ythnpnoclhmneoaa
open Go.RowKit
theorem order_pos {l : List Pc} (h : orderB l = true) : ∀ p ∈ l, 1 ≤ p.len ∧ p.len ≤ 1048576 ∧ 1 ≤ p.cnt ∧ p.cnt ≤ 1000000 := fun p hp => by
  obtain ⟨k, hk, rfl⟩ := List.getElem_of_mem hp
  rw [← ix_eq hk]
  exact order_at h hk
theorem sumL_nonneg : ∀ {l : List Pc} {ns : List Int}, (∀ p ∈ l, 1 ≤ p.len) → inB l ns = true → 0 ≤ sumL l ns
  | [], _, _, _ => by simp [sumL]
  | _ :: _, [], _, _ => by simp [sumL]
  | p :: l, n :: ns, h, hi => by
    simp only [inB, Bool.and_eq_true, decide_eq_true_eq] at hi
    have h1 := h p (List.mem_cons_self ..)
    have h2 := sumL_nonneg (fun q hq => h q (List.mem_cons_of_mem _ hq)) hi.2
    have := Int.mul_nonneg (show 0 ≤ p.len by omega) hi.1.1
    simp only [sumL]
    omega
theorem leftO_fits : ∀ {l : List Pc} {ns : List Int} {length : Int}, (∀ p ∈ l, 1 ≤ p.len) → ns.length = l.length → 0 ≤ length → leftO length l ns = if inB l ns = true ∧ sumL l ns ≤ length then some (length - sumL l ns) else none
  | [], [], length, _, _, h0 => by simp [leftO, inB, sumL, h0]
  | [], _ :: _, _, _, h, _ => by simp at h
  | _ :: _, [], _, _, h, _ => by simp at h
  | p :: l, n :: ns, length, h, hl, h0 => by
    have h1 := h p (List.mem_cons_self ..)
    have hq : ∀ q ∈ l, 1 ≤ q.len := fun q hq => h q (List.mem_cons_of_mem _ hq)
    have hin : inB (p :: l) (n :: ns) = true ↔ (0 ≤ n ∧ n ≤ p.cnt) ∧ inB l ns = true := by simp [inB]
    have hsum : sumL (p :: l) (n :: ns) = p.len * n + sumL l ns := rfl
    rw [leftO, hsum]
    by_cases c1 : n < 0
    · rw [if_pos (Or.inl c1), if_neg (by rw [hin]; omega)]
    by_cases c2 : p.cnt < n
    · rw [if_pos (Or.inr (Or.inl c2)), if_neg (by rw [hin]; omega)]
    by_cases c3 : length / p.len < n
    · rw [if_pos (Or.inr (Or.inr c3)), if_neg]
      rw [hin]
      rintro ⟨⟨_, hi⟩, hs⟩
      have := sumL_nonneg hq hi
      have := (Int.ediv_lt_iff_lt_mul (by omega)).1 c3
      rw [Int.mul_comm] at this
      omega
    · rw [if_neg (by omega)]
      have c4 : n * p.len ≤ length := (Int.le_ediv_iff_mul_le (show 0 < p.len by omega)).1 (show n ≤ length / p.len by omega)
      rw [leftO_fits hq (by simpa using hl) (by omega), Int.mul_comm n p.len]
      rw [Int.mul_comm] at c4
      by_cases hc : inB l ns = true ∧ sumL l ns ≤ length - p.len * n
      · rw [if_pos hc, if_pos ⟨hin.2 ⟨by omega, hc.1⟩, by omega⟩]
        congr 1; omega
      · rw [if_neg hc, if_neg]
        rintro ⟨h1, h2⟩
        exact hc ⟨(hin.1 h1).2, by omega⟩
attribute [push_cast] validV wasteV maximalV
def trueK (r : SV) (_ : List Ob) : Prop := r = .v (.bool true)
theorem forms_sp (length : Int) (l : List Pc) (p : List Int) (c c2 : Nat) (hl : l.length ≤ 9223372036854775807) (hp : p.length ≤ 9223372036854775807) :
    Sp Try.prog 6 [.v (.int .i64 length), .s 0 0 0 l.length c 2, .s 1 0 0 p.length c2 1] [rPc l, rInt 3 p] trueK := by
  refine sp_of_ex true [] mixed Try.call6 Try.func6 rfl Try.ntmps6 Try.results6 (by decide +kernel) rfl ?_
  simp only [push_cast, ↓branch_true, ↓branch_false, Nat.reduceBEq, Nat.reduceAdd, Nat.reduceMul, Nat.reduceSub, Int.reduceToNat, reduceCtorEq, branch_decide, branch_not, branch_beq, branch_bne]
  refine sp_at awake_sp [] rfl (by (simp only [push_cast, ↓branch_true, ↓branch_false, Nat.reduceBEq, Nat.reduceAdd, Nat.reduceMul, Nat.reduceSub, Int.reduceToNat, reduceCtorEq, branch_decide, branch_not, branch_beq, branch_bne])) (by (simp only [push_cast, ↓branch_true, ↓branch_false, Nat.reduceBEq, Nat.reduceAdd, Nat.reduceMul, Nat.reduceSub, Int.reduceToNat, reduceCtorEq, branch_decide, branch_not, branch_beq, branch_bne])) ?_
  rintro r0 H1 ⟨rfl, rfl⟩
  simp only [push_cast, ↓branch_true, ↓branch_false, Nat.reduceBEq, Nat.reduceAdd, Nat.reduceMul, Nat.reduceSub, Int.reduceToNat, reduceCtorEq, branch_decide, branch_not, branch_beq, branch_bne]
  refine ⟨fun _ => rfl, fun h1 => ⟨fun _ => rfl, fun h2 => ?_⟩⟩
  refine sp_call (valid_pu length l p c c2 (by omega)) rfl [0, 1] rfl (by simp only [push_cast, ↓branch_true, ↓branch_false, Nat.reduceBEq, Nat.reduceAdd, Nat.reduceMul, Nat.reduceSub, Int.reduceToNat, reduceCtorEq, branch_decide, branch_not, branch_beq, branch_bne]) (by simp only [push_cast, ↓branch_true, ↓branch_false, Nat.reduceBEq, Nat.reduceAdd, Nat.reduceMul, Nat.reduceSub, Int.reduceToNat, reduceCtorEq, branch_decide, branch_not, branch_beq, branch_bne]) ?_
  simp only [push_cast, ↓branch_true, ↓branch_false, Nat.reduceBEq, Nat.reduceAdd, Nat.reduceMul, Nat.reduceSub, Int.reduceToNat, reduceCtorEq, branch_decide, branch_not, branch_beq, branch_bne]
  refine sp_call (waste_pu length l p c c2 (by omega)) rfl [0, 1] rfl (by simp only [push_cast, ↓branch_true, ↓branch_false, Nat.reduceBEq, Nat.reduceAdd, Nat.reduceMul, Nat.reduceSub, Int.reduceToNat, reduceCtorEq, branch_decide, branch_not, branch_beq, branch_bne]) (by simp only [push_cast, ↓branch_true, ↓branch_false, Nat.reduceBEq, Nat.reduceAdd, Nat.reduceMul, Nat.reduceSub, Int.reduceToNat, reduceCtorEq, branch_decide, branch_not, branch_beq, branch_bne]) ?_
  simp only [push_cast, ↓branch_true, ↓branch_false, Nat.reduceBEq, Nat.reduceAdd, Nat.reduceMul, Nat.reduceSub, Int.reduceToNat, reduceCtorEq, branch_decide, branch_not, branch_beq, branch_bne]
  refine sp_call (maximal_pu length l p c c2 (by omega)) rfl [0, 1] rfl (by simp only [push_cast, ↓branch_true, ↓branch_false, Nat.reduceBEq, Nat.reduceAdd, Nat.reduceMul, Nat.reduceSub, Int.reduceToNat, reduceCtorEq, branch_decide, branch_not, branch_beq, branch_bne]) (by simp only [push_cast, ↓branch_true, ↓branch_false, Nat.reduceBEq, Nat.reduceAdd, Nat.reduceMul, Nat.reduceSub, Int.reduceToNat, reduceCtorEq, branch_decide, branch_not, branch_beq, branch_bne]) ?_
  simp only [push_cast, ↓branch_true, ↓branch_false, Nat.reduceBEq, Nat.reduceAdd, Nat.reduceMul, Nat.reduceSub, Int.reduceToNat, reduceCtorEq, branch_decide, branch_not, branch_beq, branch_bne]
  refine sp_call (rgiven_pu length p.length l c (by omega)) rfl [0] rfl (by simp only [push_cast, ↓branch_true, ↓branch_false, Nat.reduceBEq, Nat.reduceAdd, Nat.reduceMul, Nat.reduceSub, Int.reduceToNat, reduceCtorEq, branch_decide, branch_not, branch_beq, branch_bne]) (by simp only [push_cast, ↓branch_true, ↓branch_false, Nat.reduceBEq, Nat.reduceAdd, Nat.reduceMul, Nat.reduceSub, Int.reduceToNat, reduceCtorEq, branch_decide, branch_not, branch_beq, branch_bne]) ?_
  simp only [push_cast, ↓branch_true, ↓branch_false, Nat.reduceBEq, Nat.reduceAdd, Nat.reduceMul, Nat.reduceSub, Int.reduceToNat, reduceCtorEq, branch_decide, branch_not, branch_beq, branch_bne]
  refine ⟨fun hg => ⟨fun _ => ?_, fun h => absurd hg h⟩, fun hg => ?_⟩
  · obtain ⟨g1, g2, g3, g4⟩ := given_0 hg
    have g4 : p.length = l.length := by omega
    refine sp_call (rfits_pu length l p c c2 g1 g4) rfl [0, 1] rfl (by simp only [push_cast, ↓branch_true, ↓branch_false, Nat.reduceBEq, Nat.reduceAdd, Nat.reduceMul, Nat.reduceSub, Int.reduceToNat, reduceCtorEq, branch_decide, branch_not, branch_beq, branch_bne]) (by simp only [push_cast, ↓branch_true, ↓branch_false, Nat.reduceBEq, Nat.reduceAdd, Nat.reduceMul, Nat.reduceSub, Int.reduceToNat, reduceCtorEq, branch_decide, branch_not, branch_beq, branch_bne]) ?_
    simp only [push_cast, ↓branch_true, ↓branch_false, Nat.reduceBEq, Nat.reduceAdd, Nat.reduceMul, Nat.reduceSub, Int.reduceToNat, reduceCtorEq, branch_decide, branch_not, branch_beq, branch_bne]
    have e := leftO_fits (fun q hq => (order_pos g1 q hq).1) g4 (show 0 ≤ length by omega)
    by_cases hf : inB l p = true ∧ sumL l p ≤ length
    · rw [if_pos hf] at e
      have ef : fitsB length l p = true := by rw [fitsB, hf.1, Bool.true_and, decide_eq_true_eq]; exact hf.2
      simp only [hg, e, ef, decide_true, Option.isSome_some, Bool.and_self, if_true, Option.getD_some, Bool.true_and]
      simp only [push_cast, ↓branch_true, ↓branch_false, Nat.reduceBEq, Nat.reduceAdd, Nat.reduceMul, Nat.reduceSub, Int.reduceToNat, reduceCtorEq, branch_decide, branch_not, branch_beq, branch_bne, bne_self_eq_false, forall_const]
      refine sp_call (rsum_pu l p c c2 g1 hf.1 g4) rfl [0, 1] rfl (by simp only [push_cast, ↓branch_true, ↓branch_false, Nat.reduceBEq, Nat.reduceAdd, Nat.reduceMul, Nat.reduceSub, Int.reduceToNat, reduceCtorEq, branch_decide, branch_not, branch_beq, branch_bne]) (by simp only [push_cast, ↓branch_true, ↓branch_false, Nat.reduceBEq, Nat.reduceAdd, Nat.reduceMul, Nat.reduceSub, Int.reduceToNat, reduceCtorEq, branch_decide, branch_not, branch_beq, branch_bne]) ?_
      simp only [push_cast, ↓branch_true, ↓branch_false, Nat.reduceBEq, Nat.reduceAdd, Nat.reduceMul, Nat.reduceSub, Int.reduceToNat, reduceCtorEq, branch_decide, branch_not, branch_beq, branch_bne]
      have s0 := sumL_nonneg (fun q hq => (order_pos g1 q hq).1) hf.1
      have s1 := hf.2
      repeat (with_reducible refine And.intro (by omega) ?_)
      refine sp_call (rmaximal_pu length l p c c2 g1 hf.1 (by omega) g3 g4) rfl [0, 1] rfl (by simp only [push_cast, ↓branch_true, ↓branch_false, Nat.reduceBEq, Nat.reduceAdd, Nat.reduceMul, Nat.reduceSub, Int.reduceToNat, reduceCtorEq, branch_decide, branch_not, branch_beq, branch_bne]) (by simp only [push_cast, ↓branch_true, ↓branch_false, Nat.reduceBEq, Nat.reduceAdd, Nat.reduceMul, Nat.reduceSub, Int.reduceToNat, reduceCtorEq, branch_decide, branch_not, branch_beq, branch_bne]) ?_
      simp only [push_cast, ↓branch_true, ↓branch_false, Nat.reduceBEq, Nat.reduceAdd, Nat.reduceMul, Nat.reduceSub, Int.reduceToNat, reduceCtorEq, branch_decide, branch_not, branch_beq, branch_bne]
      rfl
    · rw [if_neg hf] at e
      have ef : fitsB length l p = false := by
        cases h : fitsB length l p with
        | false => rfl
        | true => rw [fitsB, Bool.and_eq_true, decide_eq_true_eq] at h; exact absurd h hf
      simp only [hg, e, ef, decide_true, Option.isSome_none, Bool.and_false, Bool.false_eq_true, if_true, if_false, Option.getD_none, Bool.false_and]
      simp only [push_cast, ↓branch_true, ↓branch_false, Nat.reduceBEq, Nat.reduceAdd, Nat.reduceMul, Nat.reduceSub, Int.reduceToNat, reduceCtorEq, branch_decide, branch_not, branch_beq, branch_bne, bne_self_eq_false, forall_const]
      rfl
  · simp only [hg, if_false, decide_false, Bool.false_and]
    simp only [push_cast, ↓branch_true, ↓branch_false, Nat.reduceBEq, Nat.reduceAdd, Nat.reduceMul, Nat.reduceSub, Int.reduceToNat, reduceCtorEq, branch_decide, branch_not, branch_beq, branch_bne]
    exact fun _ _ => rfl
end Go.Proofs.Ythnpnoclhmneoaa
