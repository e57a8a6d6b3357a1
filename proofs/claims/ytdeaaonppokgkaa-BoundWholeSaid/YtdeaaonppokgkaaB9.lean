/- Contracts: full, Valid, Waste, Maximal; the reference's Order, Given, Sum, Fits, Maximal. -/
import Derived.Test.YtdeaaonppokgkaaA9
set_option maxRecDepth 100000
set_option linter.unusedSimpArgs false
set_option linter.unusedVariables false
-- 
namespace Go.Proofs.Ytdeaaonppokgkaa.Pat
open Go.RowKit
theorem order_len {l : List Pc} (h : orderB l = true) : l.length ≤ 200 := by
  simp only [orderB, Bool.and_eq_true, decide_eq_true_eq] at h
  exact h.1
def fullB (rest : Int) : List Pc → List Int → Bool
  | p :: l, n :: ns => !(decide (n < p.cnt) && decide (p.len ≤ rest)) && fullB rest l ns
  | _, _ => true
theorem fullB_step {rest : Int} {l : List Pc} {ns : List Int} {k : Nat} (h1 : k < l.length) (h2 : k < ns.length) : fullB rest (l.drop k) (ns.drop k) = (!(decide (ix ns k < (ix l k).cnt) && decide ((ix l k).len ≤ rest)) && fullB rest (l.drop (k + 1)) (ns.drop (k + 1))) := by
  rw [drop_ix h1, drop_ix h2, fullB]
theorem full_pu (rest : Int) (l : List Pc) (ns : List Int) (c c2 : Nat) (hl : l.length ≤ 9223372036854775806) (he : ns.length = l.length) : Pu Try.prog 86 [.v (.int .i64 rest), .s 0 0 0 l.length c 2, .s 1 0 0 ns.length c2 1] [rPc l, rInt 3 ns] (.v (.bool (fullB rest l ns))) := by
  refine pu_of_ex true [] mixed Try.call86 Try.func86 rfl Try.ntmps86 Try.results86 (by decide +kernel) rfl rfl rfl ?_
  simp only [push_cast, ↓branch_true, ↓branch_false, Nat.reduceBEq, Nat.reduceAdd, Nat.reduceMul, Nat.reduceSub, Int.reduceToNat, reduceCtorEq, branch_decide, branch_not, branch_beq, branch_bne]
  refine tr_loop0 mixed (by kernel_rfl) (fun (k : Nat) => [(11, .v (.int .i64 k)), (0, .v (.int .i64 rest)), (10, .v (.int .i64 ns.length)), (9, .s 1 0 0 ns.length c2 1), (1, .s 0 0 0 l.length c 2)]) (fun k => k ≤ ns.length ∧ fullB rest l ns = fullB rest (l.drop k) (ns.drop k)) (fun k => ns.length - k) 0 ⟨Nat.zero_le _, by simp⟩ ?_ ?_
  · simp only [push_cast, ↓branch_true, ↓branch_false, Nat.reduceBEq, Nat.reduceAdd, Nat.reduceMul, Nat.reduceSub, Int.reduceToNat, reduceCtorEq, branch_decide, branch_not, branch_beq, branch_bne]
  · rintro k ⟨hk, hr⟩
    simp only [push_cast, ↓branch_true, ↓branch_false, Nat.reduceBEq, Nat.reduceAdd, Nat.reduceMul, Nat.reduceSub, Int.reduceToNat, reduceCtorEq, branch_decide, branch_not, branch_beq, branch_bne]
    refine ⟨fun h1 => ?_, fun h1 => ?_⟩
    · rw [fullB_step (by omega) (by omega)] at hr
      repeat' (with_reducible (first | apply And.intro | intro _))
      all_goals try omega
      · simp [*]
      · refine lp0_normal (k + 1) ⟨by omega, by simp [*]⟩ (by omega) ?_
        simp only [push_cast, ↓branch_true, ↓branch_false, Nat.reduceBEq, Nat.reduceAdd, Nat.reduceMul, Nat.reduceSub, Int.reduceToNat, reduceCtorEq, branch_decide, branch_not, branch_beq, branch_bne]
      · refine lp0_normal (k + 1) ⟨by omega, by simp [*]⟩ (by omega) ?_
        simp only [push_cast, ↓branch_true, ↓branch_false, Nat.reduceBEq, Nat.reduceAdd, Nat.reduceMul, Nat.reduceSub, Int.reduceToNat, reduceCtorEq, branch_decide, branch_not, branch_beq, branch_bne]
    · have e : k = ns.length := by omega
      subst e
      simp only [List.drop_length, he, fullB] at hr
      rw [hr]
theorem between_pu (n lo hi : Int) : Pu Try.prog 77 [.v (.int .i64 n), .v (.int .i64 lo), .v (.int .i64 hi)] [] (.v (.bool (decide (lo ≤ n) && decide (n ≤ hi)))) := by
  refine pu_of_ex true [] mixed Try.call77 Try.func77 rfl Try.ntmps77 Try.results77 (by decide +kernel) rfl rfl rfl ?_
  simp only [push_cast, ↓branch_true, ↓branch_false, Nat.reduceBEq, Nat.reduceAdd, Nat.reduceMul, Nat.reduceSub, Int.reduceToNat, reduceCtorEq, branch_decide, branch_not, branch_beq, branch_bne]
  repeat' (with_reducible (first | apply And.intro | intro _))
  all_goals simp [*]
theorem rorder_pu (l : List Pc) (c : Nat) (hl : l.length ≤ 9223372036854775806) : Pu Try.prog 48 [.s 0 0 0 l.length c 2] [rPc l] (.v (.bool (orderB l))) := by
  refine pu_of_ex true [] mixed Try.call48 Try.func48 rfl Try.ntmps48 Try.results48 (by decide +kernel) rfl rfl rfl ?_
  simp only [push_cast, ↓branch_true, ↓branch_false, Nat.reduceBEq, Nat.reduceAdd, Nat.reduceMul, Nat.reduceSub, Int.reduceToNat, reduceCtorEq, branch_decide, branch_not, branch_beq, branch_bne]
  refine ⟨fun h0 => ?_, fun h0 => ?_⟩
  · have : ¬ l.length ≤ 200 := by omega
    simp [orderB, this]
  · refine tr_loop0 mixed (by kernel_rfl) (fun (k : Nat) => [(3, .v (.int .i64 k)), (0, .s 0 0 0 l.length c 2)]) (fun k => k ≤ l.length ∧ l.any badB = (l.drop k).any badB) (fun k => l.length - k) 0 ⟨Nat.zero_le _, by simp⟩ ?_ ?_
    · simp only [push_cast, ↓branch_true, ↓branch_false, Nat.reduceBEq, Nat.reduceAdd, Nat.reduceMul, Nat.reduceSub, Int.reduceToNat, reduceCtorEq, branch_decide, branch_not, branch_beq, branch_bne]
    · rintro k ⟨hk, hr⟩
      simp only [push_cast, ↓branch_true, ↓branch_false, Nat.reduceBEq, Nat.reduceAdd, Nat.reduceMul, Nat.reduceSub, Int.reduceToNat, reduceCtorEq, branch_decide, branch_not, branch_beq, branch_bne]
      have h200 : l.length ≤ 200 := by omega
      refine ⟨fun h1 => ?_, fun h1 => ?_⟩
      · repeat (with_reducible refine And.intro (by omega) ?_)
        rw [drop_ix (by omega), List.any_cons] at hr
        refine sp_call (between_pu (ix l k).len 1 1048576) rfl [] rfl (by simp only [push_cast, ↓branch_true, ↓branch_false, Nat.reduceBEq, Nat.reduceAdd, Nat.reduceMul, Nat.reduceSub, Int.reduceToNat, reduceCtorEq, branch_decide, branch_not, branch_beq, branch_bne]) (by simp only [push_cast, ↓branch_true, ↓branch_false, Nat.reduceBEq, Nat.reduceAdd, Nat.reduceMul, Nat.reduceSub, Int.reduceToNat, reduceCtorEq, branch_decide, branch_not, branch_beq, branch_bne]) ?_
        simp only [push_cast, ↓branch_true, ↓branch_false, Nat.reduceBEq, Nat.reduceAdd, Nat.reduceMul, Nat.reduceSub, Int.reduceToNat, reduceCtorEq, branch_decide, branch_not, branch_beq, branch_bne]
        simp only [branch]
        refine ⟨fun h2 => ?_, fun h2 => ?_⟩
        · repeat (with_reducible refine And.intro (by omega) ?_)
          refine sp_call (between_pu (ix l k).cnt 1 1000000) rfl [] rfl (by simp only [push_cast, ↓branch_true, ↓branch_false, Nat.reduceBEq, Nat.reduceAdd, Nat.reduceMul, Nat.reduceSub, Int.reduceToNat, reduceCtorEq, branch_decide, branch_not, branch_beq, branch_bne]) (by simp only [push_cast, ↓branch_true, ↓branch_false, Nat.reduceBEq, Nat.reduceAdd, Nat.reduceMul, Nat.reduceSub, Int.reduceToNat, reduceCtorEq, branch_decide, branch_not, branch_beq, branch_bne]) ?_
          simp only [push_cast, ↓branch_true, ↓branch_false, Nat.reduceBEq, Nat.reduceAdd, Nat.reduceMul, Nat.reduceSub, Int.reduceToNat, reduceCtorEq, branch_decide, branch_not, branch_beq, branch_bne]
          simp only [branch]
          refine ⟨fun h3 => ?_, fun h3 => ?_⟩
          · repeat (with_reducible refine And.intro (by omega) ?_)
            have hb : badB (ix l k) = false := by
              simp only [Bool.and_eq_true, decide_eq_true_eq] at h2 h3
              simp [badB, lenB]
              omega
            refine lp0_normal (k + 1) ⟨by omega, by rw [hr, hb, Bool.false_or]⟩ (by omega) ?_
            simp only [push_cast, ↓branch_true, ↓branch_false, Nat.reduceBEq, Nat.reduceAdd, Nat.reduceMul, Nat.reduceSub, Int.reduceToNat, reduceCtorEq, branch_decide, branch_not, branch_beq, branch_bne]
          · have hb : badB (ix l k) = true := by
              simp only [Bool.and_eq_true, decide_eq_true_eq, Bool.and_eq_false_iff, decide_eq_false_iff_not] at h2 h3
              simp [badB, lenB]
              omega
            simp [orderB, hr, hb]
        · have hb : badB (ix l k) = true := by
            simp only [Bool.and_eq_false_iff, decide_eq_false_iff_not] at h2
            simp [badB, lenB]
            omega
          simp [orderB, hr, hb]
      · have e : k = l.length := by omega
        subst e
        simp [orderB, hr, h200]
theorem rgiven_pu (length n : Int) (l : List Pc) (c : Nat) (hl : l.length ≤ 9223372036854775806) : Pu Try.prog 32 [.v (.int .i64 length), .s 0 0 0 l.length c 2, .v (.int .i64 n)] [rPc l] (.v (.int .i64 (givenE length l n))) := by
  refine pu_of_ex true [] mixed Try.call32 Try.func32 rfl Try.ntmps32 Try.results32 (by decide +kernel) rfl rfl rfl ?_
  simp only [push_cast, ↓branch_true, ↓branch_false, Nat.reduceBEq, Nat.reduceAdd, Nat.reduceMul, Nat.reduceSub, Int.reduceToNat, reduceCtorEq, branch_decide, branch_not, branch_beq, branch_bne]
  refine sp_call (rorder_pu l c hl) rfl [0] rfl (by simp only [push_cast, ↓branch_true, ↓branch_false, Nat.reduceBEq, Nat.reduceAdd, Nat.reduceMul, Nat.reduceSub, Int.reduceToNat, reduceCtorEq, branch_decide, branch_not, branch_beq, branch_bne]) (by simp only [push_cast, ↓branch_true, ↓branch_false, Nat.reduceBEq, Nat.reduceAdd, Nat.reduceMul, Nat.reduceSub, Int.reduceToNat, reduceCtorEq, branch_decide, branch_not, branch_beq, branch_bne]) ?_
  simp only [push_cast, ↓branch_true, ↓branch_false, Nat.reduceBEq, Nat.reduceAdd, Nat.reduceMul, Nat.reduceSub, Int.reduceToNat, reduceCtorEq, branch_decide, branch_not, branch_beq, branch_bne]
  simp only [branch, givenE]
  repeat' (with_reducible (first | apply And.intro | intro _))
  all_goals simp [*]
theorem given_0 {length n : Int} {l : List Pc} (h : givenE length l n = 0) : orderB l = true ∧ 1 ≤ length ∧ length ≤ 1048576 ∧ n = l.length := by
  unfold givenE at h
  split at h
  · omega
  · split at h
    · omega
    · split at h
      · rename_i h1 h2 h3
        exact ⟨by simpa using h1, by omega, by omega, h3⟩
      · omega
/-- Whether a pattern fits, as the pattern's package says it. -/
def validV (length : Int) (l : List Pc) (ns : List Int) : SV := .t [.v (.bool (decide (givenE length l ns.length = 0) && (leftO length l ns).isSome)), .v (.int .i64 (givenE length l ns.length))]
theorem valid_pu (length : Int) (l : List Pc) (ns : List Int) (c c2 : Nat) (hl : l.length ≤ 9223372036854775806) : Pu Try.prog 53 [.v (.int .i64 length), .s 0 0 0 l.length c 2, .s 1 0 0 ns.length c2 1] [rPc l, rInt 3 ns] (validV length l ns) := by
  unfold validV
  refine pu_of_ex true [] mixed Try.call53 Try.func53 rfl Try.ntmps53 Try.results53 (by decide +kernel) rfl rfl rfl ?_
  simp only [push_cast, ↓branch_true, ↓branch_false, Nat.reduceBEq, Nat.reduceAdd, Nat.reduceMul, Nat.reduceSub, Int.reduceToNat, reduceCtorEq, branch_decide, branch_not, branch_beq, branch_bne]
  refine sp_call (given_pu length ns.length l c (by omega)) rfl [0] rfl (by simp only [push_cast, ↓branch_true, ↓branch_false, Nat.reduceBEq, Nat.reduceAdd, Nat.reduceMul, Nat.reduceSub, Int.reduceToNat, reduceCtorEq, branch_decide, branch_not, branch_beq, branch_bne]) (by simp only [push_cast, ↓branch_true, ↓branch_false, Nat.reduceBEq, Nat.reduceAdd, Nat.reduceMul, Nat.reduceSub, Int.reduceToNat, reduceCtorEq, branch_decide, branch_not, branch_beq, branch_bne]) ?_
  simp only [push_cast, ↓branch_true, ↓branch_false, Nat.reduceBEq, Nat.reduceAdd, Nat.reduceMul, Nat.reduceSub, Int.reduceToNat, reduceCtorEq, branch_decide, branch_not, branch_beq, branch_bne]
  refine ⟨fun h => ?_, fun h => ?_⟩
  · obtain ⟨h1, h2, h3, h4⟩ := given_0 h
    refine sp_call (left_pu length l ns c c2 (by omega) h3 h1 (by omega)) rfl [0, 1] rfl (by simp only [push_cast, ↓branch_true, ↓branch_false, Nat.reduceBEq, Nat.reduceAdd, Nat.reduceMul, Nat.reduceSub, Int.reduceToNat, reduceCtorEq, branch_decide, branch_not, branch_beq, branch_bne]) (by simp only [push_cast, ↓branch_true, ↓branch_false, Nat.reduceBEq, Nat.reduceAdd, Nat.reduceMul, Nat.reduceSub, Int.reduceToNat, reduceCtorEq, branch_decide, branch_not, branch_beq, branch_bne]) ?_
    simp only [push_cast, ↓branch_true, ↓branch_false, Nat.reduceBEq, Nat.reduceAdd, Nat.reduceMul, Nat.reduceSub, Int.reduceToNat, reduceCtorEq, branch_decide, branch_not, branch_beq, branch_bne]
    simp [h]
  · simp [h]
def wasteV (length : Int) (l : List Pc) (ns : List Int) : SV :=
  .t [.v (.int .i64 (if givenE length l ns.length = 0 then (leftO length l ns).getD 0 else 0)), .v (.int .i64 (if givenE length l ns.length = 0 then (if (leftO length l ns).isSome = true then 0 else 20) else givenE length l ns.length))]
def maximalV (length : Int) (l : List Pc) (ns : List Int) : SV :=
  .t [.v (.bool (decide (givenE length l ns.length = 0) && (leftO length l ns).isSome && fullB ((leftO length l ns).getD 0) l ns)), .v (.int .i64 (if givenE length l ns.length = 0 then (if (leftO length l ns).isSome = true then 0 else 20) else givenE length l ns.length))]
/-- The length of a pattern's pieces. -/
def sumL : List Pc → List Int → Int
  | p :: l, n :: ns => p.len * n + sumL l ns
  | _, _ => 0
def inB : List Pc → List Int → Bool
  | p :: l, n :: ns => decide (0 ≤ n) && decide (n ≤ p.cnt) && inB l ns
  | _, _ => true
theorem inB_at : ∀ {l : List Pc} {ns : List Int}, inB l ns = true → ∀ k, k < l.length → k < ns.length → 0 ≤ ix ns k ∧ ix ns k ≤ (ix l k).cnt
  | [], ns, _, k, h, _ => by simp at h
  | p :: l, [], _, k, _, h => by simp at h
  | p :: l, n :: ns, h, 0, _, _ => by
    simp only [inB, Bool.and_eq_true, decide_eq_true_eq] at h
    exact h.1
  | p :: l, n :: ns, h, k + 1, h1, h2 => by
    simp only [inB, Bool.and_eq_true, decide_eq_true_eq] at h
    exact inB_at h.2 k (by simpa using h1) (by simpa using h2)
theorem inB_step {l : List Pc} {ns : List Int} {k : Nat} (h1 : k < l.length) (h2 : k < ns.length) : inB (l.drop k) (ns.drop k) = (decide (0 ≤ ix ns k) && decide (ix ns k ≤ (ix l k).cnt) && inB (l.drop (k + 1)) (ns.drop (k + 1))) := by
  rw [drop_ix h1, drop_ix h2, inB]
theorem sumL_step {l : List Pc} {ns : List Int} {k : Nat} (h1 : k < l.length) (h2 : k < ns.length) : sumL (l.drop k) (ns.drop k) = (ix l k).len * ix ns k + sumL (l.drop (k + 1)) (ns.drop (k + 1)) := by
  rw [drop_ix h1, drop_ix h2, sumL]
theorem term_le {a b : Int} (h1 : 0 ≤ a) (h2 : a ≤ 1048576) (h3 : 0 ≤ b) (h4 : b ≤ 1000000) : 0 ≤ a * b ∧ a * b ≤ 1048576000000 :=
  ⟨Int.mul_nonneg h1 h3, Int.le_trans (Int.mul_le_mul h2 h4 h3 (by omega)) (by omega)⟩
theorem sumL_le : ∀ {l : List Pc} {ns : List Int}, orderB l = true → inB l ns = true → 0 ≤ sumL l ns ∧ sumL l ns ≤ l.length * 1048576000000
  | [], ns, _, _ => by simp [sumL]
  | p :: l, [], _, _ => by simp [sumL]; omega
  | p :: l, n :: ns, ho, h => by
    have h0 := order_at ho (k := 0) (by simp)
    have ho' : orderB l = true := by
      simp only [orderB, List.length_cons, List.any_cons, Bool.and_eq_true, decide_eq_true_eq, Bool.not_eq_true', Bool.or_eq_false_iff] at ho ⊢
      exact ⟨by omega, ho.2.2⟩
    simp only [inB, Bool.and_eq_true, decide_eq_true_eq] at h
    obtain ⟨i1, i2⟩ := sumL_le ho' h.2
    have e : ix (p :: l) 0 = p := rfl
    rw [e] at h0
    obtain ⟨t1, t2⟩ := term_le (a := p.len) (b := n) (by omega) h0.2.1 h.1.1 (by omega)
    simp only [sumL, List.length_cons]
    push_cast
    omega
def fitsB (length : Int) (l : List Pc) (ns : List Int) : Bool := inB l ns && decide (sumL l ns ≤ length)
end Go.Proofs.Ytdeaaonppokgkaa.Pat
