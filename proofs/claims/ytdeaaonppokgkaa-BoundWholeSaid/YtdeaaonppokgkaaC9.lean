/- Contracts: begin. -/
import Derived.Test.YtdeaaonppokgkaaB9
set_option maxRecDepth 100000
set_option linter.unusedSimpArgs false
set_option linter.unusedVariables false
-- 
namespace Go.Proofs.Ytdeaaonppokgkaa.Pat
open Go.RowKit
/-- The length of all pieces. -/
def aft : List Pc → Int
  | [] => 0
  | p :: l => p.cnt * p.len + aft l
theorem aft_bound : ∀ (l : List Pc), (∀ p ∈ l, 1 ≤ p.len ∧ p.len ≤ 1048576 ∧ 1 ≤ p.cnt ∧ p.cnt ≤ 1000000) → 0 ≤ aft l ∧ aft l ≤ 1048576000000 * l.length
  | [], _ => by simp [aft]
  | p :: l, h => by
    have ih := aft_bound l fun q hq => h q (List.mem_cons_of_mem _ hq)
    have hp := h p List.mem_cons_self
    simp only [aft, List.length_cons]
    have h1 : 0 ≤ p.cnt * p.len := Int.mul_nonneg (by omega) (by omega)
    have h2 : p.cnt * p.len ≤ 1000000 * 1048576 := Int.mul_le_mul (by omega) (by omega) (by omega) (by omega)
    push_cast
    omega
theorem order_mem {l : List Pc} (h : orderB l = true) {p : Pc} (hp : p ∈ l) : 1 ≤ p.len ∧ p.len ≤ 1048576 ∧ 1 ≤ p.cnt ∧ p.cnt ≤ 1000000 := by
  obtain ⟨k, hk, rfl⟩ := List.mem_iff_getElem.1 hp
  rw [← ix_eq hk]
  exact order_at h hk
/-- A search: the order, the numbers now, the lengths behind, what it found, prices, the best. -/
def oS (n c np cp cn ca : Nat) (out best : SV) (most : Int) : Ob := ⟨97, false, .st [.s 0 0 0 n c 2, .s 2 0 0 n cn 1, .s 3 0 0 (n + 1) ca 1, out, .s 1 0 0 np cp 1, best, .v (.int .i64 most)]⟩
attribute [push_cast] oS
theorem begin_sp (l : List Pc) (pr : List Int) (c cp : Nat) (ho : orderB l = true) : Sp Try.prog 60 [.s 0 0 0 l.length c 2, .s 1 0 0 pr.length cp 1] [rPc l, rInt 3 pr]
    (fun r H => r = .p 4 0 0 ∧ H = [rPc l, rInt 3 pr, rOwn 3 l.length l.length (fun _ => 0), rOwn 3 (l.length + 1) (l.length + 1) (fun k => aft (l.drop k)), oS l.length c pr.length cp l.length (l.length + 1) (.v (.slice none 0 0)) (.v (.slice none 0 0)) (-1)]) := by
  have hl := order_len ho
  have h0 : ∀ k, k < l.length + 1 → Value.int .i64 (if (k : Int) ≤ l.length - 1 then 0 else aft (l.drop k)) = Value.int .i64 0 := fun k hk => by
    by_cases e : (k : Int) ≤ l.length - 1
    · rw [if_pos e]
    · rw [if_neg e, show k = l.length by omega, List.drop_length]; rfl
  refine sp_of_ex true [(1, .one 0 (.one 1 (.one 2 (.one 4 (.one 5 (.one 6 (.one 8 (.alt [(3, .one 7 (.one 9 (.one 10 (.one 11 .fin)))), (7, .one 3 (.one 9 (.one 10 (.one 11 .fin))))]))))))))] mixed Try.call60 Try.func60 rfl Try.ntmps60 Try.results60 (by decide +kernel) rfl ?_
  simp only [push_cast, ↓branch_true, ↓branch_false, Nat.reduceBEq, Nat.reduceAdd, Nat.reduceMul, Nat.reduceSub, Int.reduceToNat, reduceCtorEq, branch_decide, branch_not, branch_beq, branch_bne]
  repeat' (with_reducible (first | apply And.intro | intro _))
  all_goals try omega
  all_goals refine tr_wk (σ' := [(5, .p 4 0 0), (6, .v (.int .i64 (l.length - 1))), (0, .s 0 0 0 l.length c 2)]) (H' := [rPc l, rInt 3 pr, rOwn 3 l.length l.length (fun _ => 0), rOwn 3 (l.length + 1) (l.length + 1) (fun k => if (k : Int) ≤ l.length - 1 then 0 else aft (l.drop k)), oS l.length c pr.length cp l.length (l.length + 1) (.v (.slice none 0 0)) (.v (.slice none 0 0)) (-1)]) ?_ ?_
  · refine Mt.wk (rl := [0, 1, 2, 3, 4]) ⟨by kernel_rfl, ?_, ?_⟩
    · simp only [push_cast, ↓branch_true, ↓branch_false, Nat.reduceBEq, Nat.reduceAdd, Nat.reduceMul, Nat.reduceSub, Int.reduceToNat, reduceCtorEq, branch_decide, branch_not, branch_beq, branch_bne]
    · simp only [push_cast, ↓branch_true, ↓branch_false, Nat.reduceBEq, Nat.reduceAdd, Nat.reduceMul, Nat.reduceSub, Int.reduceToNat, reduceCtorEq, branch_decide, branch_not, branch_beq, branch_bne]
      exact ⟨fun i hi => ⟨by omega, by omega, fun k hk => h0 k hk⟩, by omega, by omega⟩
  rotate_left
  · refine Mt.wk (rl := [0, 1, 3, 2, 4]) ⟨by kernel_rfl, ?_, ?_⟩
    · simp only [push_cast, ↓branch_true, ↓branch_false, Nat.reduceBEq, Nat.reduceAdd, Nat.reduceMul, Nat.reduceSub, Int.reduceToNat, reduceCtorEq, branch_decide, branch_not, branch_beq, branch_bne]
    · simp only [push_cast, ↓branch_true, ↓branch_false, Nat.reduceBEq, Nat.reduceAdd, Nat.reduceMul, Nat.reduceSub, Int.reduceToNat, reduceCtorEq, branch_decide, branch_not, branch_beq, branch_bne]
      exact ⟨fun i hi => ⟨by omega, by omega, fun k hk => h0 k hk⟩, by omega, by omega⟩
  all_goals
    refine tr_loop mixed (by kernel_rfl) (fun (i : Int) => [(5, .p 4 0 0), (6, .v (.int .i64 i)), (0, .s 0 0 0 l.length c 2)]) (fun i => [rPc l, rInt 3 pr, rOwn 3 l.length l.length (fun _ => 0), rOwn 3 (l.length + 1) (l.length + 1) (fun k => if (k : Int) ≤ i then 0 else aft (l.drop k)), oS l.length c pr.length cp l.length (l.length + 1) (.v (.slice none 0 0)) (.v (.slice none 0 0)) (-1)])
      (fun i => -1 ≤ i ∧ i < l.length) (fun i => (i + 1).toNat) (l.length - 1) ⟨by omega, by omega⟩ (Mt.wk (rl := [0, 1, 2, 3, 4]) ⟨by kernel_rfl, ?_, ?_⟩) ?_
    · simp only [push_cast, ↓branch_true, ↓branch_false, Nat.reduceBEq, Nat.reduceAdd, Nat.reduceMul, Nat.reduceSub, Int.reduceToNat, reduceCtorEq, branch_decide, branch_not, branch_beq, branch_bne]
    · simp only [push_cast, ↓branch_true, ↓branch_false, Nat.reduceBEq, Nat.reduceAdd, Nat.reduceMul, Nat.reduceSub, Int.reduceToNat, reduceCtorEq, branch_decide, branch_not, branch_beq, branch_bne]
    rintro i ⟨hi, hi2⟩
    simp only [push_cast, ↓branch_true, ↓branch_false, Nat.reduceBEq, Nat.reduceAdd, Nat.reduceMul, Nat.reduceSub, Int.reduceToNat, reduceCtorEq, branch_decide, branch_not, branch_beq, branch_bne]
    refine ⟨fun h1 => ?_, fun h1 => ?_⟩
    · have hat := order_at ho (k := i.toNat) (by omega)
      have hb := aft_bound l fun p hp => order_mem ho hp
      have hb2 := aft_bound (l.drop (i + 1).toNat) fun p hp => order_mem ho (List.mem_of_mem_drop hp)
      have hd : aft (l.drop i.toNat) = (ix l i.toNat).cnt * (ix l i.toNat).len + aft (l.drop (i + 1).toNat) := by
        rw [drop_ix (by omega), aft, show i.toNat + 1 = (i + 1).toNat by omega]
      have hm1 : 0 ≤ (ix l i.toNat).cnt * (ix l i.toNat).len := Int.mul_nonneg (by omega) (by omega)
      have hm2 : (ix l i.toNat).cnt * (ix l i.toNat).len ≤ 1000000 * 1048576 := Int.mul_le_mul (by omega) (by omega) (by omega) (by omega)
      have hdl : (l.drop (i + 1).toNat).length ≤ 200 := by rw [List.length_drop]; omega
      rw [if_neg (by omega)]
      repeat (with_reducible refine And.intro (by omega) ?_)
      refine lpK_normal (i - 1) [0, 1, 2, 3, 4] ⟨by omega, by omega⟩ (by omega) (by kernel_rfl) ?_ ?_
      · simp only [push_cast, ↓branch_true, ↓branch_false, Nat.reduceBEq, Nat.reduceAdd, Nat.reduceMul, Nat.reduceSub, Int.reduceToNat, reduceCtorEq, branch_decide, branch_not, branch_beq, branch_bne]
      · simp only [push_cast, ↓branch_true, ↓branch_false, Nat.reduceBEq, Nat.reduceAdd, Nat.reduceMul, Nat.reduceSub, Int.reduceToNat, reduceCtorEq, branch_decide, branch_not, branch_beq, branch_bne]
        intro j hj k hk
        obtain rfl : j = 0 := by omega
        by_cases e : k = i.toNat
        · subst e
          simp only [beq_self_eq_true, Bool.and_self, cond_true, mtL, and_true]
          rw [if_neg (by omega), hd, Int.add_comm]
        · have eb : (k == i.toNat) = false := by simpa using e
          simp only [eb, Bool.and_false, cond_false, mtL, and_true]
          by_cases e2 : (k : Int) ≤ i
          · rw [if_pos (by omega), if_pos e2]
          · rw [if_neg (by omega), if_neg e2]
    · obtain rfl : i = -1 := by omega
      have e : (fun (x : Nat) (k : Nat) => [SV.v (Value.int .i64 (if (k : Int) ≤ -1 then 0 else aft (l.drop k)))]) = fun x k => [SV.v (Value.int .i64 (aft (l.drop k)))] := by
        funext x k
        rw [if_neg (by omega)]
      simp only [e, and_self]
end Go.Proofs.Ytdeaaonppokgkaa.Pat
