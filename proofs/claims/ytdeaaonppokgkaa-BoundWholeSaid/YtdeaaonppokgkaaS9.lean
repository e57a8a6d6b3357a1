/- Contract: the reference's Each. -/
import Derived.Test.YtdeaaonppokgkaaR9
set_option maxRecDepth 100000
set_option linter.unusedSimpArgs false
set_option linter.unusedVariables false
-- 
namespace Go.Proofs.Ytdeaaonppokgkaa.Pat
open Go.RowKit
def rFam (n m : Nat) (pats : List (List Int)) : Ob := ⟨3, true, .row 1 m (fun _ => n) (fun _ => 0) (fun k t => [.v (.int .i64 (ix (ix pats k) t))])⟩
attribute [push_cast] rFam
theorem chain_ix {α : Type} [Inhabited α] {f : α → Option α} {t : Option α} : ∀ {E : List α}, chainT f E t → ∀ k, k < E.length → f (ix E k) = if k + 1 < E.length then some (ix E (k + 1)) else t
  | [], _, k, h => by simp at h
  | [a], h, k, hk => by
    obtain rfl : k = 0 := by simpa using hk
    rw [if_neg (by simp), ix_eq (by simp)]
    exact h
  | a :: b :: r, h, 0, hk => by
    rw [if_pos (by simp), ix_eq (by simp), ix_eq (by simp)]
    exact h.1
  | a :: b :: r, h, k + 1, hk => by
    have e : ∀ j, j < (b :: r).length → ix (a :: b :: r) (j + 1) = ix (b :: r) j := fun j hj => by rw [ix_eq (by simpa using hj), ix_eq hj, List.getElem_cons_succ]
    have hk' : k < (b :: r).length := by simpa using hk
    have := chain_ix h.2 k hk'
    rw [e k hk', this]
    by_cases c : k + 1 < (b :: r).length
    · rw [if_pos c, if_pos (by simpa using c), e (k + 1) c]
    · rw [if_neg c, if_neg (by simpa using c)]
/-- The pattern at a place, or none behind the last one. -/
def curE (E : List (List Int)) (k : Nat) : List Int := if k < E.length then ix E k else []
theorem curE_next {l : List Pc} {length : Int} (hp : PosL l) (h0 : 0 ≤ length) {k : Nat} (hk : k < (eachG l length).length) : lessQ length l (curE (eachG l length) k) = curE (eachG l length) (k + 1) := by
  have := chain_ix (each_chain hp h0) k hk
  rw [curE, if_pos hk, lessQ, this, curE]
  split <;> rfl
theorem curE_facts {l : List Pc} {length : Int} (hp : PosL l) (h0 : 0 ≤ length) {k : Nat} (hk : k < (eachG l length).length) : (curE (eachG l length) k).length = l.length ∧ inB l (curE (eachG l length) k) = true ∧ sumL l (curE (eachG l length) k) ≤ length := by
  rw [curE, if_pos hk]
  exact (mem_eachG hp h0).1 (ix_mem hk)
theorem curE_zero {l : List Pc} {length : Int} (hp : PosL l) (h0 : 0 ≤ length) : curE (eachG l length) 0 = fillL length l ∧ 0 < (eachG l length).length := by
  obtain ⟨r, hr⟩ := eachG_head hp h0
  rw [hr, curE, if_pos (by simp), ix_eq (by simp)]
  exact ⟨rfl, by simp⟩
theorem each_sp (length : Int) (l : List Pc) (c : Nat) (ho : orderB l = true) (h0 : 0 ≤ length) (h1 : length ≤ 1048576) (hn : (eachG l length).length ≤ 1000000) :
    Sp Try.prog 62 [.v (.int .i64 length), .s 0 0 0 l.length c 2] [rPc l] (fun r H => ∃ oc caps, r = .s 2 0 0 (eachG l length).length oc 1 ∧ H = [rPc l, rFam l.length (eachG l length).length (eachG l length), oOutJ 1 l.length (eachG l length).length oc caps]) := by
  have h200 := order_len ho
  have hpos := posL_of ho
  obtain ⟨hz, hE⟩ := curE_zero hpos h0
  refine sp_wk ?_
  refine sp_of_ex true [] mixed Try.call62 Try.func62 rfl Try.ntmps62 Try.results62 (by decide +kernel) rfl ?_
  simp only [push_cast, ↓branch_true, ↓branch_false, Nat.reduceBEq, Nat.reduceAdd, Nat.reduceMul, Nat.reduceSub, Int.reduceToNat, reduceCtorEq, branch_decide, branch_not, branch_beq, branch_bne]
  have hfill := fill_sp length l [] c 0 ho h0 h1 (Nat.zero_le _) (by cases l <;> rfl) (by rw [sumL_nil]; exact h0)
  rw [sumL_nil, Int.sub_zero, List.nil_append, List.length_nil, List.drop_zero, ← hz] at hfill
  refine sp_pre_mt (args' := [.v (.int .i64 length), .s 0 0 0 l.length c 2, .s 1 0 0 0 0 1]) (H' := [rPc l, rInt 3 []]) [0, 1] ?_ (by kernel_rfl) ?_ (hfill.mono ?_)
  · simp only [push_cast, ↓branch_true, ↓branch_false, Nat.reduceBEq, Nat.reduceAdd, Nat.reduceMul, Nat.reduceSub, Int.reduceToNat, reduceCtorEq, branch_decide, branch_not, branch_beq, branch_bne]
  · simp only [push_cast, ↓branch_true, ↓branch_false, Nat.reduceBEq, Nat.reduceAdd, Nat.reduceMul, Nat.reduceSub, Int.reduceToNat, reduceCtorEq, branch_decide, branch_not, branch_beq, branch_bne]
  rintro r0 H1 ⟨cap, hcap, rfl, rfl⟩
  simp only [push_cast, ↓branch_true, ↓branch_false, Nat.reduceBEq, Nat.reduceAdd, Nat.reduceMul, Nat.reduceSub, Int.reduceToNat, reduceCtorEq, branch_decide, branch_not, branch_beq, branch_bne]
  have hcl : (curE (eachG l length) 0).length = l.length := (curE_facts hpos h0 hE).1
  refine tr_loop mixed (by kernel_rfl) (fun (x : Nat × (Nat → Nat) × Nat × Nat) => [(5, .s 2 0 0 x.1 x.2.2.1 1), (6, .s 3 0 0 (curE (eachG l length) x.1).length x.2.2.2 1), (0, .v (.int .i64 length)), (1, .s 0 0 0 l.length c 2)])
    (fun x => [rPc l, rFam l.length x.1 (eachG l length), oOutJ 1 l.length x.1 x.2.2.1 x.2.1, rOwn 3 (curE (eachG l length) x.1).length x.2.2.2 (fun k => ix (curE (eachG l length) x.1) k)])
    (fun x => (x.1 ≤ (eachG l length).length ∧ (l.length = 0 → x.1 = 0)) ∧ (curE (eachG l length) x.1).length ≤ x.2.2.2) (fun x => (eachG l length).length - x.1) (0, fun _ => 0, 0, cap) ⟨⟨Nat.zero_le _, fun _ => rfl⟩, by simp only; omega⟩ (Mt.wk (rl := [0, 3, 4, 2]) ⟨by kernel_rfl, ?_, ?_⟩) ?_
  · simp only [push_cast, ↓branch_true, ↓branch_false, Nat.reduceBEq, Nat.reduceAdd, Nat.reduceMul, Nat.reduceSub, Int.reduceToNat, reduceCtorEq, branch_decide, branch_not, branch_beq, branch_bne]
    exact hcl
  · simp only [push_cast, ↓branch_true, ↓branch_false, Nat.reduceBEq, Nat.reduceAdd, Nat.reduceMul, Nat.reduceSub, Int.reduceToNat, reduceCtorEq, branch_decide, branch_not, branch_beq, branch_bne]
    exact ⟨by omega, fun i hi => by omega⟩
  rintro ⟨k, caps, oc, ccap⟩ ⟨⟨r1, r3⟩, r2⟩
  simp only at r1 r2 r3
  simp only [push_cast, ↓branch_true, ↓branch_false, Nat.reduceBEq, Nat.reduceAdd, Nat.reduceMul, Nat.reduceSub, Int.reduceToNat, reduceCtorEq, branch_decide, branch_not, branch_beq, branch_bne]
  refine ⟨fun h => ?_, fun h => ?_⟩
  · have hk : k < (eachG l length).length := by
      by_cases hz0 : l.length = 0
      · rw [r3 hz0]; exact hE
      · apply Decidable.byContradiction
        intro hk
        rw [curE, if_neg hk] at h
        simp at h
        omega
    obtain ⟨f1, f2, f3⟩ := curE_facts hpos h0 hk
    have hnx := curE_next hpos h0 hk
    have hcx : ∀ j, ix (curE (eachG l length) k) j = ix (ix (eachG l length) k) j := fun j => by rw [curE, if_pos hk]
    repeat (with_reducible refine And.intro (by omega) ?_)
    refine .inr ?_
    repeat (with_reducible refine And.intro (by omega) ?_)
    intro cap2 hcap2
    refine ⟨fun hl0 => ?_, fun hl0 => ?_⟩
    · have hk0 : k = 0 := r3 (by omega)
      have hEl : (eachG l length).length = 1 := by
        obtain rfl : l = [] := List.length_eq_zero_iff.1 (by omega)
        rfl
      subst hk0
      refine ⟨_, _, (vwk_mt (r' := .s 5 0 0 1 cap2 1) (H' := [rPc l, rFam l.length 0 (eachG l length), deadOb, rInt 3 (curE (eachG l length) 0), deadOb, ⟨23, false, .row 1 1 (fun _ => 1) (fun _ => cap2) (fun _ _ => [.s 3 0 0 l.length ccap 1])⟩]) [0, 1, 2, 3, 4, 5] ?_ ?_ ?_).trans ((vwk_join 1 3 (by omega) (by omega) ?_).trans (vwk_mt [0, 1, 5] ?_ ?_ ?_)), cap2, fun _ => ccap, rfl, rfl⟩
      · simp only [push_cast, ↓branch_true, ↓branch_false, Nat.reduceBEq, Nat.reduceAdd, Nat.reduceMul, Nat.reduceSub, Int.reduceToNat, reduceCtorEq, branch_decide, branch_not, branch_beq, branch_bne]
      · kernel_rfl
      · simp only [push_cast, ↓branch_true, ↓branch_false, Nat.reduceBEq, Nat.reduceAdd, Nat.reduceMul, Nat.reduceSub, Int.reduceToNat, reduceCtorEq, branch_decide, branch_not, branch_beq, branch_bne]
        intro i hi k hk
        obtain rfl : k = 0 := by omega
        simp only [f1, Nat.lt_irrefl, decide_false, cond_false]
        simp only [push_cast, ↓branch_true, ↓branch_false, Nat.reduceBEq, Nat.reduceAdd, Nat.reduceMul, Nat.reduceSub, Int.reduceToNat, reduceCtorEq, branch_decide, branch_not, branch_beq, branch_bne]
      · simp only [push_cast, ↓branch_true, ↓branch_false, Nat.reduceBEq, Nat.reduceAdd, Nat.reduceMul, Nat.reduceSub, Int.reduceToNat, reduceCtorEq, branch_decide, branch_not, branch_beq, branch_bne]
      · simp only [push_cast, ↓branch_true, ↓branch_false, Nat.reduceBEq, Nat.reduceAdd, Nat.reduceMul, Nat.reduceSub, Int.reduceToNat, reduceCtorEq, branch_decide, branch_not, branch_beq, branch_bne]
        exact hEl
      · kernel_rfl
      · simp only [push_cast, ↓branch_true, ↓branch_false, Nat.reduceBEq, Nat.reduceAdd, Nat.reduceMul, Nat.reduceSub, Int.reduceToNat, reduceCtorEq, branch_decide, branch_not, branch_beq, branch_bne]
        refine ⟨⟨hEl, fun i hi => ⟨?_, fun k hk => absurd hk (by omega)⟩⟩, fun i hi => ⟨by omega, fun k hk => .inr (by omega)⟩⟩
        obtain rfl : i = 0 := by omega
        simp [f1]
    · have hl := less_sp length l (curE (eachG l length) k) c ccap ho h0 h1 f1 f2 f3 r2
      rw [hnx] at hl
      refine sp_at hl [0, 3] rfl ?_ ?_ ?_
      · simp only [push_cast, ↓branch_true, ↓branch_false, Nat.reduceBEq, Nat.reduceAdd, Nat.reduceMul, Nat.reduceSub, Int.reduceToNat, reduceCtorEq, branch_decide, branch_not, branch_beq, branch_bne]
      · simp only [push_cast, ↓branch_true, ↓branch_false, Nat.reduceBEq, Nat.reduceAdd, Nat.reduceMul, Nat.reduceSub, Int.reduceToNat, reduceCtorEq, branch_decide, branch_not, branch_beq, branch_bne]
      rintro r0 H1 ⟨cap3, hcap3, rfl, rfl⟩
      simp only [push_cast, ↓branch_true, ↓branch_false, Nat.reduceBEq, Nat.reduceAdd, Nat.reduceMul, Nat.reduceSub, Int.reduceToNat, reduceCtorEq, branch_decide, branch_not, branch_beq, branch_bne]
      refine lpK_wk (k + 1, (fun i => bif i == k then ccap else caps i), cap2, cap3) ⟨⟨by simp only; omega, fun h => absurd h (by omega)⟩, hcap3⟩ (by simp only; omega) ((swk_join 1 3 (by omega) (by omega) ?_).trans (Mt.wk (rl := [0, 1, 5, 6]) ⟨by kernel_rfl, ?_, ?_⟩))
      · simp only [push_cast, ↓branch_true, ↓branch_false, Nat.reduceBEq, Nat.reduceAdd, Nat.reduceMul, Nat.reduceSub, Int.reduceToNat, reduceCtorEq, branch_decide, branch_not, branch_beq, branch_bne]
      · simp only [push_cast, ↓branch_true, ↓branch_false, Nat.reduceBEq, Nat.reduceAdd, Nat.reduceMul, Nat.reduceSub, Int.reduceToNat, reduceCtorEq, branch_decide, branch_not, branch_beq, branch_bne]
      · simp only [push_cast, ↓branch_true, ↓branch_false, Nat.reduceBEq, Nat.reduceAdd, Nat.reduceMul, Nat.reduceSub, Int.reduceToNat, reduceCtorEq, branch_decide, branch_not, branch_beq, branch_bne]
        refine ⟨fun i hi => ⟨?_, fun j hj => ?_⟩, fun i hi j hj => ?_⟩
        · cases (i == k) <;> simp [f1]
        · by_cases e : i = k
          · subst e
            simp only [beq_self_eq_true, cond_true, hcx, jnL, jn1, mtL, mt, and_true]
          · have eb : (i == k) = false := by simpa using e
            simp only [eb, cond_false, jnL, jn1, mtL, mt, and_true]
        · by_cases e : j < k
          · have eb : (j == k) = false := by simp; omega
            simp only [eb, e, decide_true, cond_true, cond_false]
            simp only [push_cast, ↓branch_true, ↓branch_false, Nat.reduceBEq, Nat.reduceAdd, Nat.reduceMul, Nat.reduceSub, Int.reduceToNat, reduceCtorEq, branch_decide, branch_not, branch_beq, branch_bne]
          · obtain rfl : j = k := by omega
            simp only [e, decide_false, beq_self_eq_true, cond_true, cond_false]
            simp only [push_cast, ↓branch_true, ↓branch_false, Nat.reduceBEq, Nat.reduceAdd, Nat.reduceMul, Nat.reduceSub, Int.reduceToNat, reduceCtorEq, branch_decide, branch_not, branch_beq, branch_bne]
            exact f1.symm
  · have hk : k = (eachG l length).length := by
      apply Decidable.byContradiction
      intro hk
      exact h (by rw [(curE_facts hpos h0 (show k < _ by omega)).1])
    subst hk
    refine ⟨_, _, vwk_mt [0, 1, 2] ?_ ?_ ?_, oc, caps, rfl, rfl⟩
    · simp only [push_cast, ↓branch_true, ↓branch_false, Nat.reduceBEq, Nat.reduceAdd, Nat.reduceMul, Nat.reduceSub, Int.reduceToNat, reduceCtorEq, branch_decide, branch_not, branch_beq, branch_bne]
    · kernel_rfl
    · simp only [push_cast, ↓branch_true, ↓branch_false, Nat.reduceBEq, Nat.reduceAdd, Nat.reduceMul, Nat.reduceSub, Int.reduceToNat, reduceCtorEq, branch_decide, branch_not, branch_beq, branch_bne]
end Go.Proofs.Ytdeaaonppokgkaa.Pat
