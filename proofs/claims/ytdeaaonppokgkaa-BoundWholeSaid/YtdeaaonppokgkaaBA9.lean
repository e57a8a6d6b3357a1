/- Contracts: the bounds of the reference and of the program. -/
import Derived.Test.YtdeaaonppokgkaaB9
set_option maxRecDepth 100000
set_option linter.unusedSimpArgs false
set_option linter.unusedVariables false
-- 
namespace Go.Proofs.Ytdeaaonppokgkaa.Pat
open Go.RowKit
theorem mul_le {a b A B : Int} (h0 : 0 ≤ a) (h1 : a ≤ A) (h2 : 0 ≤ b) (h3 : b ≤ B) : 0 ≤ a * b ∧ a * b ≤ A * B := ⟨Int.mul_nonneg h0 h2, Int.le_trans (Int.mul_le_mul_of_nonneg_right h1 h2) (Int.mul_le_mul_of_nonneg_left h3 (by omega))⟩
def oIx (i : Int) : Ob := ⟨3, true, .st [.v (.int .i64 i)]⟩
attribute [push_cast] oIx
def totT (l : List Pc) (k : Nat) : Int := ((l.take k).map fun p => p.len * p.cnt).sum
theorem totT_succ {l : List Pc} {k : Nat} (h : k < l.length) : totT l (k + 1) = totT l k + (ix l k).len * (ix l k).cnt := by
  unfold totT
  rw [take_snoc h, List.map_append, List.sum_append]; simp
theorem tot_range {l : List Pc} (ho : orderB l = true) : ∀ k, k ≤ l.length → (k : Int) ≤ totT l k ∧ totT l k ≤ 1048576000000 * k
  | 0, _ => by simp [totT]
  | k + 1, hk => by
    have ih := tot_range ho k (by omega)
    have h2 := order_at ho (k := k) (by omega)
    have hm := mul_le (show 0 ≤ (ix l k).len by omega) h2.2.1 (show 0 ≤ (ix l k).cnt by omega) h2.2.2.2
    have hp : 1 * 1 ≤ (ix l k).len * (ix l k).cnt := Int.mul_le_mul (by omega) (by omega) (by decide) (by omega)
    rw [totT_succ (by omega)]
    omega
def totL (l : List Pc) : Int := totT l l.length
theorem rtotal_pu (l : List Pc) (c : Nat) (ho : orderB l = true) : Pu Try.prog 51 [.s 0 0 0 l.length c 2] [rPc l] (.v (.int .i64 (totL l))) := by
  have hll := order_len ho
  refine pu_of_ex true [] mixed Try.call51 Try.func51 rfl Try.ntmps51 Try.results51 (by decide +kernel) rfl rfl rfl ?_
  simp only [push_cast, ↓branch_true, ↓branch_false, Nat.reduceBEq, Nat.reduceAdd, Nat.reduceMul, Nat.reduceSub, Int.reduceToNat, reduceCtorEq, branch_decide, branch_not, branch_beq, branch_bne]
  refine tr_loop0 mixed (by kernel_rfl) (fun (k : Nat) => [(4, .v (.int .i64 k)), (3, .v (.int .i64 (totT l k))), (0, .s 0 0 0 l.length c 2)]) (fun k => k ≤ l.length) (fun k => l.length - k) 0 (Nat.zero_le _) ?_ ?_
  · simp only [push_cast, ↓branch_true, ↓branch_false, Nat.reduceBEq, Nat.reduceAdd, Nat.reduceMul, Nat.reduceSub, Int.reduceToNat, reduceCtorEq, branch_decide, branch_not, branch_beq, branch_bne]
    simp [totT]
  intro k hk
  have hr := tot_range ho k hk
  simp only [push_cast, ↓branch_true, ↓branch_false, Nat.reduceBEq, Nat.reduceAdd, Nat.reduceMul, Nat.reduceSub, Int.reduceToNat, reduceCtorEq, branch_decide, branch_not, branch_beq, branch_bne]
  refine ⟨fun h => ?_, fun h => ?_⟩
  · have h2 := order_at ho (k := k) (by omega)
    have hm := mul_le (show 0 ≤ (ix l k).len by omega) h2.2.1 (show 0 ≤ (ix l k).cnt by omega) h2.2.2.2
    repeat (with_reducible refine And.intro (by omega) ?_)
    refine lp0_normal (k + 1) (by omega) (by omega) ?_
    simp only [push_cast, ↓branch_true, ↓branch_false, Nat.reduceBEq, Nat.reduceAdd, Nat.reduceMul, Nat.reduceSub, Int.reduceToNat, reduceCtorEq, branch_decide, branch_not, branch_beq, branch_bne, totT_succ (show k < l.length by omega)]
  · obtain rfl : k = l.length := by omega
    rfl
theorem total_pu (l : List Pc) (c : Nat) (hl : l.length ≤ 9223372036854775807) : Pu Try.prog 78 [.s 0 0 0 l.length c 2] [rPc l] (.t [.v (.int .i64 (if orderB l then totL l else 0)), .v (.int .i64 (if orderB l then 0 else 1))]) := by
  refine pu_of_ex true [] mixed Try.call78 Try.func78 rfl Try.ntmps78 Try.results78 (by decide +kernel) rfl rfl rfl ?_
  simp only [push_cast, ↓branch_true, ↓branch_false, Nat.reduceBEq, Nat.reduceAdd, Nat.reduceMul, Nat.reduceSub, Int.reduceToNat, reduceCtorEq, branch_decide, branch_not, branch_beq, branch_bne]
  refine sp_call (order_pu l c hl) rfl [0] rfl (by simp only [push_cast, ↓branch_true, ↓branch_false, Nat.reduceBEq, Nat.reduceAdd, Nat.reduceMul, Nat.reduceSub, Int.reduceToNat, reduceCtorEq, branch_decide, branch_not, branch_beq, branch_bne]) (by simp only [push_cast, ↓branch_true, ↓branch_false, Nat.reduceBEq, Nat.reduceAdd, Nat.reduceMul, Nat.reduceSub, Int.reduceToNat, reduceCtorEq, branch_decide, branch_not, branch_beq, branch_bne]) ?_
  simp only [push_cast, ↓branch_true, ↓branch_false, Nat.reduceBEq, Nat.reduceAdd, Nat.reduceMul, Nat.reduceSub, Int.reduceToNat, reduceCtorEq, branch_decide, branch_not, branch_beq, branch_bne]
  cases ho : orderB l with
  | false =>
    simp only [push_cast, ↓branch_true, ↓branch_false, Nat.reduceBEq, Nat.reduceAdd, Nat.reduceMul, Nat.reduceSub, Int.reduceToNat, reduceCtorEq, branch_decide, branch_not, branch_beq, branch_bne]
  | true =>
  have hll := order_len ho
  simp only [push_cast, ↓branch_true, ↓branch_false, Nat.reduceBEq, Nat.reduceAdd, Nat.reduceMul, Nat.reduceSub, Int.reduceToNat, reduceCtorEq, branch_decide, branch_not, branch_beq, branch_bne]
  refine tr_loop mixed (by kernel_rfl) (fun (k : Nat) => [(12, .v (.int .i64 k)), (11, .v (.int .i64 l.length)), (10, .s 0 0 0 l.length c 2), (4, .v (.int .i64 (totT l k)))]) (fun _ => [rPc l]) (fun k => k ≤ l.length) (fun k => l.length - k) 0 (Nat.zero_le _) (Mt.wk (rl := [0]) ⟨by kernel_rfl, ?_, ?_⟩) ?_
  · simp only [push_cast, ↓branch_true, ↓branch_false, Nat.reduceBEq, Nat.reduceAdd, Nat.reduceMul, Nat.reduceSub, Int.reduceToNat, reduceCtorEq, branch_decide, branch_not, branch_beq, branch_bne]
    simp [totT]
  · simp only [push_cast, ↓branch_true, ↓branch_false, Nat.reduceBEq, Nat.reduceAdd, Nat.reduceMul, Nat.reduceSub, Int.reduceToNat, reduceCtorEq, branch_decide, branch_not, branch_beq, branch_bne]
  intro k hk
  have hr := tot_range ho k hk
  simp only [push_cast, ↓branch_true, ↓branch_false, Nat.reduceBEq, Nat.reduceAdd, Nat.reduceMul, Nat.reduceSub, Int.reduceToNat, reduceCtorEq, branch_decide, branch_not, branch_beq, branch_bne]
  refine ⟨fun h => ?_, fun h => ?_⟩
  · have h2 := order_at ho (k := k) (by omega)
    have hm := mul_le (show 0 ≤ (ix l k).len by omega) h2.2.1 (show 0 ≤ (ix l k).cnt by omega) h2.2.2.2
    repeat (with_reducible refine And.intro (by omega) ?_)
    refine lpK_normal (k + 1) [0] (by omega) (by omega) (by kernel_rfl) ?_ ?_
    · simp only [push_cast, ↓branch_true, ↓branch_false, Nat.reduceBEq, Nat.reduceAdd, Nat.reduceMul, Nat.reduceSub, Int.reduceToNat, reduceCtorEq, branch_decide, branch_not, branch_beq, branch_bne, totT_succ (show k < l.length by omega)]
    · simp only [push_cast, ↓branch_true, ↓branch_false, Nat.reduceBEq, Nat.reduceAdd, Nat.reduceMul, Nat.reduceSub, Int.reduceToNat, reduceCtorEq, branch_decide, branch_not, branch_beq, branch_bne]
  · obtain rfl : k = l.length := by omega
    simp [totL]
/-- The order does not fit the length. -/
def gapB (l : List Pc) (lim : Int) : Bool := l.any fun p => decide (lim < p.len)
def givR (lim : Int) (l : List Pc) : Int := if orderB l = false then 1 else if ¬ (1 ≤ lim ∧ lim ≤ 1048576) then 2 else if gapB l lim = true then 22 else 0
theorem rgivenB_pu (lim : Int) (l : List Pc) (c : Nat) (hl : l.length ≤ 9223372036854775806) : Pu Try.prog 17 [.v (.int .i64 lim), .s 0 0 0 l.length c 2] [rPc l] (.v (.int .i64 (givR lim l))) := by
  refine pu_of_ex true [] mixed Try.call17 Try.func17 rfl Try.ntmps17 Try.results17 (by decide +kernel) rfl rfl rfl ?_
  simp only [push_cast, ↓branch_true, ↓branch_false, Nat.reduceBEq, Nat.reduceAdd, Nat.reduceMul, Nat.reduceSub, Int.reduceToNat, reduceCtorEq, branch_decide, branch_not, branch_beq, branch_bne]
  refine sp_call (rorder_pu l c hl) rfl [0] rfl (by simp only [push_cast, ↓branch_true, ↓branch_false, Nat.reduceBEq, Nat.reduceAdd, Nat.reduceMul, Nat.reduceSub, Int.reduceToNat, reduceCtorEq, branch_decide, branch_not, branch_beq, branch_bne]) (by simp only [push_cast, ↓branch_true, ↓branch_false, Nat.reduceBEq, Nat.reduceAdd, Nat.reduceMul, Nat.reduceSub, Int.reduceToNat, reduceCtorEq, branch_decide, branch_not, branch_beq, branch_bne]) ?_
  simp only [push_cast, ↓branch_true, ↓branch_false, Nat.reduceBEq, Nat.reduceAdd, Nat.reduceMul, Nat.reduceSub, Int.reduceToNat, reduceCtorEq, branch_decide, branch_not, branch_beq, branch_bne]
  unfold givR
  cases ho : orderB l with
  | false =>
    simp only [push_cast, ↓branch_true, ↓branch_false, Nat.reduceBEq, Nat.reduceAdd, Nat.reduceMul, Nat.reduceSub, Int.reduceToNat, reduceCtorEq, branch_decide, branch_not, branch_beq, branch_bne]
    try rfl
  | true =>
  have hll := order_len ho
  simp only [push_cast, ↓branch_true, ↓branch_false, Nat.reduceBEq, Nat.reduceAdd, Nat.reduceMul, Nat.reduceSub, Int.reduceToNat, reduceCtorEq, branch_decide, branch_not, branch_beq, branch_bne]
  refine ⟨fun h => by rw [if_pos (by omega)], fun h => ⟨fun h3 => by rw [if_pos (by omega)], fun h3 => ?_⟩⟩
  rw [if_neg (show ¬¬(1 ≤ lim ∧ lim ≤ 1048576) by omega)]
  refine tr_loop0 mixed (by kernel_rfl) (fun (k : Nat) => [(5, .v (.int .i64 k)), (0, .v (.int .i64 lim)), (1, .s 0 0 0 l.length c 2)]) (fun k => k ≤ l.length ∧ ∀ j, j < k → (ix l j).len ≤ lim) (fun k => l.length - k) 0 ⟨Nat.zero_le _, fun j h => by omega⟩ ?_ ?_
  · simp only [push_cast, ↓branch_true, ↓branch_false, Nat.reduceBEq, Nat.reduceAdd, Nat.reduceMul, Nat.reduceSub, Int.reduceToNat, reduceCtorEq, branch_decide, branch_not, branch_beq, branch_bne]
  rintro k ⟨hk, hn⟩
  simp only [push_cast, ↓branch_true, ↓branch_false, Nat.reduceBEq, Nat.reduceAdd, Nat.reduceMul, Nat.reduceSub, Int.reduceToNat, reduceCtorEq, branch_decide, branch_not, branch_beq, branch_bne]
  refine ⟨fun h4 => ?_, fun h4 => ?_⟩
  · repeat (with_reducible refine And.intro (by omega) ?_)
    refine ⟨fun h5 => ?_, fun h5 => ?_⟩
    · have : gapB l lim = true := List.any_eq_true.2 ⟨_, ix_mem (l := l) (k := k) (by omega), by simpa using h5⟩
      rw [if_pos this]
    · repeat (with_reducible refine And.intro (by omega) ?_)
      refine lp0_normal (k + 1) ⟨by omega, fun j hj => ?_⟩ (by omega) ?_
      · by_cases e : j = k
        · subst e; omega
        · exact hn j (by omega)
      · simp only [push_cast, ↓branch_true, ↓branch_false, Nat.reduceBEq, Nat.reduceAdd, Nat.reduceMul, Nat.reduceSub, Int.reduceToNat, reduceCtorEq, branch_decide, branch_not, branch_beq, branch_bne]
  · have : ¬ gapB l lim = true := fun h => by
      obtain ⟨x, hx, h6⟩ := List.any_eq_true.1 h
      obtain ⟨j, hj, rfl⟩ := List.getElem_of_mem hx
      have := hn j (by omega)
      rw [ix_eq hj] at this
      simp at h6
      omega
    rw [if_neg this]
/-- n over m, rounded up. -/
def upR (n m : Int) : Int := (n + m - 1).tdiv m
theorem rup_pu (n m : Int) (h0 : 0 ≤ n) (h1 : n ≤ 4611686018427387904) (h2 : 1 ≤ m) (h3 : m ≤ 4294967296) : Pu Try.prog 40 [.v (.int .i64 n), .v (.int .i64 m)] [] (.v (.int .i64 (upR n m))) := by
  refine pu_of_ex true [] mixed Try.call40 Try.func40 rfl Try.ntmps40 Try.results40 (by decide +kernel) rfl rfl rfl ?_
  simp only [push_cast, ↓branch_true, ↓branch_false, Nat.reduceBEq, Nat.reduceAdd, Nat.reduceMul, Nat.reduceSub, Int.reduceToNat, reduceCtorEq, branch_decide, branch_not, branch_beq, branch_bne]
  have a1 : 0 ≤ (n + m - 1).tdiv m := Int.tdiv_nonneg (by omega) (by omega)
  have a2 : (n + m - 1).tdiv m ≤ n + m - 1 := Int.tdiv_le_self _ (by omega)
  exact ⟨by omega, by omega, by omega, by omega, rfl⟩
def matR (lim : Int) (l : List Pc) : Int := upR (totL l) lim
theorem totL_range {l : List Pc} (ho : orderB l = true) : 0 ≤ totL l ∧ totL l ≤ 209715200000000 := by
  have h := tot_range ho l.length (Nat.le_refl _)
  have hll := order_len ho
  unfold totL
  omega
theorem rmat_pu (lim : Int) (l : List Pc) (c : Nat) (ho : orderB l = true) (h1 : 1 ≤ lim) (h2 : lim ≤ 1048576) : Pu Try.prog 22 [.v (.int .i64 lim), .s 0 0 0 l.length c 2] [rPc l] (.v (.int .i64 (matR lim l))) := by
  obtain ⟨g1, g2⟩ := totL_range ho
  refine pu_of_ex true [] mixed Try.call22 Try.func22 rfl Try.ntmps22 Try.results22 (by decide +kernel) rfl rfl rfl ?_
  simp only [push_cast, ↓branch_true, ↓branch_false, Nat.reduceBEq, Nat.reduceAdd, Nat.reduceMul, Nat.reduceSub, Int.reduceToNat, reduceCtorEq, branch_decide, branch_not, branch_beq, branch_bne]
  refine sp_call (rtotal_pu l c ho) rfl [0] rfl (by simp only [push_cast, ↓branch_true, ↓branch_false, Nat.reduceBEq, Nat.reduceAdd, Nat.reduceMul, Nat.reduceSub, Int.reduceToNat, reduceCtorEq, branch_decide, branch_not, branch_beq, branch_bne]) (by simp only [push_cast, ↓branch_true, ↓branch_false, Nat.reduceBEq, Nat.reduceAdd, Nat.reduceMul, Nat.reduceSub, Int.reduceToNat, reduceCtorEq, branch_decide, branch_not, branch_beq, branch_bne]) ?_
  simp only [push_cast, ↓branch_true, ↓branch_false, Nat.reduceBEq, Nat.reduceAdd, Nat.reduceMul, Nat.reduceSub, Int.reduceToNat, reduceCtorEq, branch_decide, branch_not, branch_beq, branch_bne]
  refine sp_call (rup_pu (totL l) lim (by omega) (by omega) (by omega) (by omega)) rfl [] rfl (by simp only [push_cast, ↓branch_true, ↓branch_false, Nat.reduceBEq, Nat.reduceAdd, Nat.reduceMul, Nat.reduceSub, Int.reduceToNat, reduceCtorEq, branch_decide, branch_not, branch_beq, branch_bne]) (by simp only [push_cast, ↓branch_true, ↓branch_false, Nat.reduceBEq, Nat.reduceAdd, Nat.reduceMul, Nat.reduceSub, Int.reduceToNat, reduceCtorEq, branch_decide, branch_not, branch_beq, branch_bne]) ?_
  simp only [push_cast, ↓branch_true, ↓branch_false, Nat.reduceBEq, Nat.reduceAdd, Nat.reduceMul, Nat.reduceSub, Int.reduceToNat, reduceCtorEq, branch_decide, branch_not, branch_beq, branch_bne]
  rfl
def largT (lim : Int) (l : List Pc) : Nat → Int
  | 0 => 0
  | k + 1 => if lim < 2 * (ix l k).len then largT lim l k + (ix l k).cnt else largT lim l k
theorem larg_range {lim : Int} {l : List Pc} (ho : orderB l = true) : ∀ k, k ≤ l.length → 0 ≤ largT lim l k ∧ largT lim l k ≤ 1000000 * k
  | 0, _ => by simp [largT]
  | k + 1, h => by
    have := larg_range (lim := lim) ho k (by omega)
    have h2 := order_at ho (k := k) (by omega)
    unfold largT
    split <;> omega
theorem rlarge_pu (lim : Int) (l : List Pc) (c : Nat) (ho : orderB l = true) : Pu Try.prog 23 [.v (.int .i64 lim), .s 0 0 0 l.length c 2] [rPc l] (.v (.int .i64 (largT lim l l.length))) := by
  have hll := order_len ho
  refine pu_of_ex true [] mixed Try.call23 Try.func23 rfl Try.ntmps23 Try.results23 (by decide +kernel) rfl rfl rfl ?_
  simp only [push_cast, ↓branch_true, ↓branch_false, Nat.reduceBEq, Nat.reduceAdd, Nat.reduceMul, Nat.reduceSub, Int.reduceToNat, reduceCtorEq, branch_decide, branch_not, branch_beq, branch_bne]
  refine tr_loop0 mixed (by kernel_rfl) (fun (k : Nat) => [(6, .v (.int .i64 k)), (5, .v (.int .i64 (largT lim l k))), (0, .v (.int .i64 lim)), (1, .s 0 0 0 l.length c 2)]) (fun k => k ≤ l.length) (fun k => l.length - k) 0 (Nat.zero_le _) ?_ ?_
  · simp only [push_cast, ↓branch_true, ↓branch_false, Nat.reduceBEq, Nat.reduceAdd, Nat.reduceMul, Nat.reduceSub, Int.reduceToNat, reduceCtorEq, branch_decide, branch_not, branch_beq, branch_bne]
    try rfl
  intro k hk
  have hr := larg_range (lim := lim) ho k hk
  simp only [push_cast, ↓branch_true, ↓branch_false, Nat.reduceBEq, Nat.reduceAdd, Nat.reduceMul, Nat.reduceSub, Int.reduceToNat, reduceCtorEq, branch_decide, branch_not, branch_beq, branch_bne]
  refine ⟨fun h => ?_, fun h => ?_⟩
  · have h2 := order_at ho (k := k) (by omega)
    have e1 : largT lim l (k + 1) = if lim < 2 * (ix l k).len then largT lim l k + (ix l k).cnt else largT lim l k := rfl
    repeat (with_reducible refine And.intro (by omega) ?_)
    refine ⟨fun h5 => ?_, fun h5 => ?_⟩
    · rw [if_pos h5] at e1
      repeat (with_reducible refine And.intro (by omega) ?_)
      refine lp0_normal (k + 1) (by omega) (by omega) ?_
      simp only [push_cast, ↓branch_true, ↓branch_false, Nat.reduceBEq, Nat.reduceAdd, Nat.reduceMul, Nat.reduceSub, Int.reduceToNat, reduceCtorEq, branch_decide, branch_not, branch_beq, branch_bne, e1]
    · rw [if_neg h5] at e1
      repeat (with_reducible refine And.intro (by omega) ?_)
      refine lp0_normal (k + 1) (by omega) (by omega) ?_
      simp only [push_cast, ↓branch_true, ↓branch_false, Nat.reduceBEq, Nat.reduceAdd, Nat.reduceMul, Nat.reduceSub, Int.reduceToNat, reduceCtorEq, branch_decide, branch_not, branch_beq, branch_bne, e1]
  · obtain rfl : k = l.length := by omega
    trivial
theorem mulB {a b A B : Int} (h0 : 0 ≤ a) (h1 : a ≤ A) (h2 : 0 ≤ b) (h3 : b ≤ B) : 0 ≤ a * b ∧ a * b ≤ A * B :=
  ⟨Int.mul_nonneg h0 h2, Int.mul_le_mul h1 h3 h2 (by omega)⟩
/-- What a line of pieces adds to the bound of a number. -/
def dualI (lim k : Int) (p : Pc) : Int := if ((k + 1) * p.len).tmod lim = 0 then p.cnt * ((k + 1) * p.len).tdiv lim * k else p.cnt * ((k + 1) * p.len).tdiv lim * (k + 1)
def dualT (lim k : Int) (l : List Pc) : Nat → Int
  | 0 => 0
  | j + 1 => dualT lim k l j + dualI lim k (ix l j)
structure DualB (lim k : Int) (p : Pc) : Prop where
  n0 : 0 ≤ (k + 1) * p.len
  n1 : (k + 1) * p.len ≤ 105906176
  q0 : 0 ≤ ((k + 1) * p.len).tdiv lim
  q1 : ((k + 1) * p.len).tdiv lim ≤ 105906176
  c0 : 0 ≤ p.cnt * ((k + 1) * p.len).tdiv lim
  c1 : p.cnt * ((k + 1) * p.len).tdiv lim ≤ 105906176000000
  s0 : 0 ≤ p.cnt * ((k + 1) * p.len).tdiv lim * k
  s1 : p.cnt * ((k + 1) * p.len).tdiv lim * k ≤ 10696523776000000
  t0 : 0 ≤ p.cnt * ((k + 1) * p.len).tdiv lim * (k + 1)
  t1 : p.cnt * ((k + 1) * p.len).tdiv lim * (k + 1) ≤ 10696523776000000
theorem dual_bounds {lim k : Int} {p : Pc} (h1 : 1 ≤ lim) (hk : 1 ≤ k ∧ k ≤ 100) (hp : 1 ≤ p.len ∧ p.len ≤ 1048576 ∧ 1 ≤ p.cnt ∧ p.cnt ≤ 1000000) : DualB lim k p := by
  obtain ⟨a0, a1⟩ := mulB (show 0 ≤ k + 1 by omega) (show k + 1 ≤ 101 by omega) (show 0 ≤ p.len by omega) hp.2.1
  have b0 : 0 ≤ ((k + 1) * p.len).tdiv lim := Int.tdiv_nonneg a0 (by omega)
  have b1 : ((k + 1) * p.len).tdiv lim ≤ (k + 1) * p.len := Int.tdiv_le_self _ a0
  obtain ⟨c0, c1⟩ := mulB (show 0 ≤ p.cnt by omega) hp.2.2.2 b0 (show ((k + 1) * p.len).tdiv lim ≤ 105906176 by omega)
  obtain ⟨d0, d1⟩ := mulB c0 c1 (show 0 ≤ k by omega) (show k ≤ 101 by omega)
  obtain ⟨e0, e1⟩ := mulB c0 c1 (show 0 ≤ k + 1 by omega) (show k + 1 ≤ 101 by omega)
  exact ⟨a0, by omega, b0, by omega, c0, by omega, d0, by omega, e0, by omega⟩
theorem dualI_range {lim k : Int} {p : Pc} (h : DualB lim k p) : 0 ≤ dualI lim k p ∧ dualI lim k p ≤ 10696523776000000 := by
  obtain ⟨_, _, _, _, _, _, s0, s1, t0, t1⟩ := h
  unfold dualI
  split
  · exact ⟨s0, s1⟩
  · exact ⟨t0, t1⟩
theorem dualT_range {lim k : Int} {l : List Pc} (h1 : 1 ≤ lim) (hk : 1 ≤ k ∧ k ≤ 100) (ho : orderB l = true) : ∀ j, j ≤ l.length → 0 ≤ dualT lim k l j ∧ dualT lim k l j ≤ 10696523776000000 * j
  | 0, _ => by simp [dualT]
  | j + 1, h => by
    have ih := dualT_range (lim := lim) (k := k) h1 hk ho j (by omega)
    have := dualI_range (dual_bounds h1 hk (order_at ho (k := j) (by omega)))
    have e : dualT lim k l (j + 1) = dualT lim k l j + dualI lim k (ix l j) := rfl
    omega
def dualR (lim k : Int) (l : List Pc) : Int := upR (dualT lim k l l.length) (k * (k + 1))
theorem kk_range {k : Int} (hk : 1 ≤ k ∧ k ≤ 100) : 1 ≤ k * (k + 1) ∧ k * (k + 1) ≤ 10100 := by
  obtain ⟨_, b⟩ := mulB (show 0 ≤ k by omega) hk.2 (show 0 ≤ k + 1 by omega) (show k + 1 ≤ 101 by omega)
  have := Int.mul_le_mul hk.1 (show (1 : Int) ≤ k + 1 by omega) (by decide) (by omega)
  omega
set_option maxHeartbeats 1000000 in
theorem rdual_pu (lim k : Int) (l : List Pc) (c : Nat) (ho : orderB l = true) (h1 : 1 ≤ lim) (hk : 1 ≤ k ∧ k ≤ 100) : Pu Try.prog 18 [.v (.int .i64 lim), .s 0 0 0 l.length c 2, .v (.int .i64 k)] [rPc l] (.v (.int .i64 (dualR lim k l))) := by
  have hll := order_len ho
  have hkk := kk_range hk
  refine pu_of_ex true [(7, .one 0 (.one 1 (.one 2 (.one 3 (.one 4 (.one 6 (.one 7 (.one 8 (.one 10 (.one 5 (.one 9 (.one 11 (.one 12 (.one 13 .fin)))))))))))))), (8, .one 0 (.one 1 (.one 2 (.one 3 (.one 4 (.one 6 (.one 7 (.one 8 (.one 10 (.one 11 (.one 5 (.one 9 (.one 12 (.one 13 (.one 14 .fin)))))))))))))))] mixed Try.call18 Try.func18 rfl Try.ntmps18 Try.results18 (by decide +kernel) rfl rfl rfl ?_
  simp only [push_cast, ↓branch_true, ↓branch_false, Nat.reduceBEq, Nat.reduceAdd, Nat.reduceMul, Nat.reduceSub, Int.reduceToNat, reduceCtorEq, branch_decide, branch_not, branch_beq, branch_bne]
  refine tr_loop0 mixed (by kernel_rfl) (fun (j : Nat) => [(8, .v (.int .i64 j)), (7, .v (.int .i64 (dualT lim k l j))), (0, .v (.int .i64 lim)), (1, .s 0 0 0 l.length c 2), (2, .v (.int .i64 k))]) (fun j => j ≤ l.length) (fun j => l.length - j) 0 (Nat.zero_le _) ?_ ?_
  · simp only [push_cast, ↓branch_true, ↓branch_false, Nat.reduceBEq, Nat.reduceAdd, Nat.reduceMul, Nat.reduceSub, Int.reduceToNat, reduceCtorEq, branch_decide, branch_not, branch_beq, branch_bne]
    try rfl
  intro j hj
  have hr := dualT_range h1 hk ho j hj
  simp only [push_cast, ↓branch_true, ↓branch_false, Nat.reduceBEq, Nat.reduceAdd, Nat.reduceMul, Nat.reduceSub, Int.reduceToNat, reduceCtorEq, branch_decide, branch_not, branch_beq, branch_bne]
  refine ⟨fun h => ?_, fun h => ?_⟩
  · have hB := dual_bounds h1 hk (order_at ho (k := j) (by omega))
    have e1 : dualT lim k l (j + 1) = dualT lim k l j + dualI lim k (ix l j) := rfl
    obtain ⟨n0, n1, q0, q1, c0, c1, s0, s1, t0, t1⟩ := hB
    unfold dualI at e1
    generalize (k + 1) * (ix l j).len = n at *
    generalize hq : n.tdiv lim = q at *
    generalize (ix l j).cnt * q = a at *
    generalize a * k = s at *
    generalize a * (k + 1) = t at *
    repeat (with_reducible refine And.intro (by omega) ?_)
    refine ⟨fun h5 => ?_, fun h5 => ?_⟩
    · rw [if_pos h5] at e1
      repeat (with_reducible refine And.intro (by omega) ?_)
      refine lp0_normal (j + 1) (by omega) (by omega) ?_
      simp only [push_cast, ↓branch_true, ↓branch_false, Nat.reduceBEq, Nat.reduceAdd, Nat.reduceMul, Nat.reduceSub, Int.reduceToNat, reduceCtorEq, branch_decide, branch_not, branch_beq, branch_bne, e1]
    · rw [if_neg h5] at e1
      repeat (with_reducible refine And.intro (by omega) ?_)
      refine lp0_normal (j + 1) (by omega) (by omega) ?_
      simp only [push_cast, ↓branch_true, ↓branch_false, Nat.reduceBEq, Nat.reduceAdd, Nat.reduceMul, Nat.reduceSub, Int.reduceToNat, reduceCtorEq, branch_decide, branch_not, branch_beq, branch_bne, e1]
  · obtain rfl : j = l.length := by omega
    repeat (with_reducible refine And.intro (by omega) ?_)
    refine sp_call (rup_pu (dualT lim k l l.length) (k * (k + 1)) (by omega) (by omega) (by omega) (by omega)) rfl [] rfl (by simp only [push_cast, ↓branch_true, ↓branch_false, Nat.reduceBEq, Nat.reduceAdd, Nat.reduceMul, Nat.reduceSub, Int.reduceToNat, reduceCtorEq, branch_decide, branch_not, branch_beq, branch_bne]) (by simp only [push_cast, ↓branch_true, ↓branch_false, Nat.reduceBEq, Nat.reduceAdd, Nat.reduceMul, Nat.reduceSub, Int.reduceToNat, reduceCtorEq, branch_decide, branch_not, branch_beq, branch_bne]) ?_
    simp only [push_cast, ↓branch_true, ↓branch_false, Nat.reduceBEq, Nat.reduceAdd, Nat.reduceMul, Nat.reduceSub, Int.reduceToNat, reduceCtorEq, branch_decide, branch_not, branch_beq, branch_bne]
    rfl
/-- The best bound by the first numbers. -/
def bestT (lim : Int) (l : List Pc) : Nat → Int
  | 0 => max (matR lim l) (largT lim l l.length)
  | k + 1 => max (bestT lim l k) (dualR lim (k + 1 : Nat) l)
def bestR (lim : Int) (l : List Pc) : Int := bestT lim l 10
theorem rbnd_pu (lim : Int) (l : List Pc) (c : Nat) (ho : orderB l = true) (h1 : 1 ≤ lim) (h2 : lim ≤ 1048576) : Pu Try.prog 24 [.v (.int .i64 lim), .s 0 0 0 l.length c 2] [rPc l] (.v (.int .i64 (bestR lim l))) := by
  refine pu_of_ex true [] mixed Try.call24 Try.func24 rfl Try.ntmps24 Try.results24 (by decide +kernel) rfl rfl rfl ?_
  simp only [push_cast, ↓branch_true, ↓branch_false, Nat.reduceBEq, Nat.reduceAdd, Nat.reduceMul, Nat.reduceSub, Int.reduceToNat, reduceCtorEq, branch_decide, branch_not, branch_beq, branch_bne]
  refine sp_call (rmat_pu lim l c ho h1 h2) rfl [0] rfl (by simp only [push_cast, ↓branch_true, ↓branch_false, Nat.reduceBEq, Nat.reduceAdd, Nat.reduceMul, Nat.reduceSub, Int.reduceToNat, reduceCtorEq, branch_decide, branch_not, branch_beq, branch_bne]) (by simp only [push_cast, ↓branch_true, ↓branch_false, Nat.reduceBEq, Nat.reduceAdd, Nat.reduceMul, Nat.reduceSub, Int.reduceToNat, reduceCtorEq, branch_decide, branch_not, branch_beq, branch_bne]) ?_
  simp only [push_cast, ↓branch_true, ↓branch_false, Nat.reduceBEq, Nat.reduceAdd, Nat.reduceMul, Nat.reduceSub, Int.reduceToNat, reduceCtorEq, branch_decide, branch_not, branch_beq, branch_bne]
  refine sp_call (rlarge_pu lim l c ho) rfl [0] rfl (by simp only [push_cast, ↓branch_true, ↓branch_false, Nat.reduceBEq, Nat.reduceAdd, Nat.reduceMul, Nat.reduceSub, Int.reduceToNat, reduceCtorEq, branch_decide, branch_not, branch_beq, branch_bne]) (by simp only [push_cast, ↓branch_true, ↓branch_false, Nat.reduceBEq, Nat.reduceAdd, Nat.reduceMul, Nat.reduceSub, Int.reduceToNat, reduceCtorEq, branch_decide, branch_not, branch_beq, branch_bne]) ?_
  simp only [push_cast, ↓branch_true, ↓branch_false, Nat.reduceBEq, Nat.reduceAdd, Nat.reduceMul, Nat.reduceSub, Int.reduceToNat, reduceCtorEq, branch_decide, branch_not, branch_beq, branch_bne]
  refine tr_loop0 mixed (by kernel_rfl) (fun (k : Nat) => [(6, .v (.int .i64 (k + 1 : Nat))), (5, .v (.int .i64 (bestT lim l k))), (0, .v (.int .i64 lim)), (1, .s 0 0 0 l.length c 2)]) (fun k => k ≤ 10) (fun k => 10 - k) 0 (Nat.zero_le _) ?_ ?_
  · simp only [push_cast, ↓branch_true, ↓branch_false, Nat.reduceBEq, Nat.reduceAdd, Nat.reduceMul, Nat.reduceSub, Int.reduceToNat, reduceCtorEq, branch_decide, branch_not, branch_beq, branch_bne]
    exact ⟨rfl, rfl⟩
  intro k hk
  have e1 : bestT lim l (k + 1) = max (bestT lim l k) (dualR lim (k + 1 : Nat) l) := rfl
  simp only [push_cast, ↓branch_true, ↓branch_false, Nat.reduceBEq, Nat.reduceAdd, Nat.reduceMul, Nat.reduceSub, Int.reduceToNat, reduceCtorEq, branch_decide, branch_not, branch_beq, branch_bne]
  refine ⟨fun h => ?_, fun h => ?_⟩
  · refine sp_call (rdual_pu lim (k + 1 : Nat) l c ho h1 (by omega)) rfl [0] rfl (by simp only [push_cast, ↓branch_true, ↓branch_false, Nat.reduceBEq, Nat.reduceAdd, Nat.reduceMul, Nat.reduceSub, Int.reduceToNat, reduceCtorEq, branch_decide, branch_not, branch_beq, branch_bne]) (by simp only [push_cast, ↓branch_true, ↓branch_false, Nat.reduceBEq, Nat.reduceAdd, Nat.reduceMul, Nat.reduceSub, Int.reduceToNat, reduceCtorEq, branch_decide, branch_not, branch_beq, branch_bne]) ?_
    simp only [push_cast, ↓branch_true, ↓branch_false, Nat.reduceBEq, Nat.reduceAdd, Nat.reduceMul, Nat.reduceSub, Int.reduceToNat, reduceCtorEq, branch_decide, branch_not, branch_beq, branch_bne]
    repeat (with_reducible refine And.intro (by omega) ?_)
    refine lp0_normal (k + 1) (by omega) (by omega) ?_
    simp only [push_cast, ↓branch_true, ↓branch_false, Nat.reduceBEq, Nat.reduceAdd, Nat.reduceMul, Nat.reduceSub, Int.reduceToNat, reduceCtorEq, branch_decide, branch_not, branch_beq, branch_bne, e1]
    try omega
  · obtain rfl : k = 10 := by omega
    rfl
def givE (lim : Int) (l : List Pc) : Int := if orderB l = false then 1 else if lim < 1 ∨ 1048576 < lim then 2 else if l.any (fun p => decide (lim < p.len)) = true then 22 else 0
theorem givE_0 {lim : Int} {l : List Pc} (h : givE lim l = 0) : orderB l = true ∧ 1 ≤ lim ∧ lim ≤ 1048576 ∧ ∀ k, k < l.length → (ix l k).len ≤ lim := by
  unfold givE at h
  split at h
  · omega
  · split at h
    · omega
    · split at h
      · omega
      · rename_i h1 h2 h3
        refine ⟨by simpa using h1, by omega, by omega, fun k hk => ?_⟩
        rw [List.any_eq_true] at h3
        refine Int.not_lt.1 fun h4 => h3 ⟨_, ix_mem hk, decide_eq_true h4⟩
theorem over2_pu (l : List Pc) (lim : Int) (k : Nat) : Pu Try.prog 56 [.a (cPc (ix l k)), .p 1 0 0] [rPc l, oIx lim] (.v (.bool (decide (lim < (ix l k).len)))) := by
  refine pu_of_ex true [] mixed Try.call56 Try.func56 rfl Try.ntmps56 Try.results56 (by decide +kernel) rfl rfl rfl ?_
  simp only [push_cast, ↓branch_true, ↓branch_false, Nat.reduceBEq, Nat.reduceAdd, Nat.reduceMul, Nat.reduceSub, Int.reduceToNat, reduceCtorEq, branch_decide, branch_not, branch_beq, branch_bne]
theorem bgiven_pu (lim : Int) (l : List Pc) (c : Nat) (hl : l.length ≤ 9223372036854775807) : Pu Try.prog 33 [.v (.int .i64 lim), .s 0 0 0 l.length c 2] [rPc l] (.v (.int .i64 (givE lim l))) := by
  unfold givE
  refine pu_of_ex true [] mixed Try.call33 Try.func33 rfl Try.ntmps33 Try.results33 (by decide +kernel) rfl rfl rfl ?_
  simp only [push_cast, ↓branch_true, ↓branch_false, Nat.reduceBEq, Nat.reduceAdd, Nat.reduceMul, Nat.reduceSub, Int.reduceToNat, reduceCtorEq, branch_decide, branch_not, branch_beq, branch_bne]
  refine sp_call (order_pu l c hl) rfl [0] rfl (by simp only [push_cast, ↓branch_true, ↓branch_false, Nat.reduceBEq, Nat.reduceAdd, Nat.reduceMul, Nat.reduceSub, Int.reduceToNat, reduceCtorEq, branch_decide, branch_not, branch_beq, branch_bne]) (by simp only [push_cast, ↓branch_true, ↓branch_false, Nat.reduceBEq, Nat.reduceAdd, Nat.reduceMul, Nat.reduceSub, Int.reduceToNat, reduceCtorEq, branch_decide, branch_not, branch_beq, branch_bne]) ?_
  simp only [push_cast, ↓branch_true, ↓branch_false, Nat.reduceBEq, Nat.reduceAdd, Nat.reduceMul, Nat.reduceSub, Int.reduceToNat, reduceCtorEq, branch_decide, branch_not, branch_beq, branch_bne]
  cases hvo : orderB l with
  | false =>
    simp only [push_cast, ↓branch_true, ↓branch_false, Nat.reduceBEq, Nat.reduceAdd, Nat.reduceMul, Nat.reduceSub, Int.reduceToNat, reduceCtorEq, branch_decide, branch_not, branch_beq, branch_bne]
    try rfl
  | true =>
  simp only [push_cast, ↓branch_true, ↓branch_false, Nat.reduceBEq, Nat.reduceAdd, Nat.reduceMul, Nat.reduceSub, Int.reduceToNat, reduceCtorEq, branch_decide, branch_not, branch_beq, branch_bne]
  refine ⟨fun h1 => by rw [if_pos (by omega)], fun h1 => ⟨fun h2 => by rw [if_pos (by omega)], fun h2 => ?_⟩⟩
  rw [if_neg (by omega)]
  refine sp_call (containsPc_pu l c 56 [] [.p 1 0 0] [oIx lim] (fun p => decide (lim < p.len)) rfl hl fun x hx => ?_) rfl [0, 1] rfl ?_ ?_ ?_
  · obtain ⟨k, hk, rfl⟩ := List.getElem_of_mem hx
    have := over2_pu l lim k
    rwa [ix_eq hk] at this
  · simp only [push_cast, ↓branch_true, ↓branch_false, Nat.reduceBEq, Nat.reduceAdd, Nat.reduceMul, Nat.reduceSub, Int.reduceToNat, reduceCtorEq, branch_decide, branch_not, branch_beq, branch_bne]
  · simp only [push_cast, ↓branch_true, ↓branch_false, Nat.reduceBEq, Nat.reduceAdd, Nat.reduceMul, Nat.reduceSub, Int.reduceToNat, reduceCtorEq, branch_decide, branch_not, branch_beq, branch_bne]
  cases hany : l.any (fun p => decide (lim < p.len)) with
  | true =>
    simp only [push_cast, ↓branch_true, ↓branch_false, Nat.reduceBEq, Nat.reduceAdd, Nat.reduceMul, Nat.reduceSub, Int.reduceToNat, reduceCtorEq, branch_decide, branch_not, branch_beq, branch_bne]
    try rfl
  | false =>
    simp only [push_cast, ↓branch_true, ↓branch_false, Nat.reduceBEq, Nat.reduceAdd, Nat.reduceMul, Nat.reduceSub, Int.reduceToNat, reduceCtorEq, branch_decide, branch_not, branch_beq, branch_bne]
    try rfl
theorem bup_pu (n m : Int) (h0 : 0 ≤ n) (h1 : n ≤ 4611686018427387904) (h2 : 1 ≤ m) (h3 : m ≤ 4294967296) : Pu Try.prog 37 [.v (.int .i64 n), .v (.int .i64 m)] [] (.v (.int .i64 (upR n m))) := by
  refine pu_of_ex true [] mixed Try.call37 Try.func37 rfl Try.ntmps37 Try.results37 (by decide +kernel) rfl rfl rfl ?_
  simp only [push_cast, ↓branch_true, ↓branch_false, Nat.reduceBEq, Nat.reduceAdd, Nat.reduceMul, Nat.reduceSub, Int.reduceToNat, reduceCtorEq, branch_decide, branch_not, branch_beq, branch_bne]
  have a1 : 0 ≤ (n + m - 1).tdiv m := Int.tdiv_nonneg (by omega) (by omega)
  have a2 : (n + m - 1).tdiv m ≤ n + m - 1 := Int.tdiv_le_self _ (by omega)
  exact ⟨by omega, by omega, by omega, by omega, rfl⟩
theorem bmat_pu (lim : Int) (l : List Pc) (c : Nat) (ho : orderB l = true) (h1 : 1 ≤ lim) (h2 : lim ≤ 1048576) : Pu Try.prog 49 [.v (.int .i64 lim), .s 0 0 0 l.length c 2] [rPc l] (.v (.int .i64 (matR lim l))) := by
  obtain ⟨g1, g2⟩ := totL_range ho
  have hll := order_len ho
  refine pu_of_ex true [] mixed Try.call49 Try.func49 rfl Try.ntmps49 Try.results49 (by decide +kernel) rfl rfl rfl ?_
  simp only [push_cast, ↓branch_true, ↓branch_false, Nat.reduceBEq, Nat.reduceAdd, Nat.reduceMul, Nat.reduceSub, Int.reduceToNat, reduceCtorEq, branch_decide, branch_not, branch_beq, branch_bne]
  refine sp_call (total_pu l c (by omega)) rfl [0] rfl (by simp only [push_cast, ↓branch_true, ↓branch_false, Nat.reduceBEq, Nat.reduceAdd, Nat.reduceMul, Nat.reduceSub, Int.reduceToNat, reduceCtorEq, branch_decide, branch_not, branch_beq, branch_bne]) (by simp only [push_cast, ↓branch_true, ↓branch_false, Nat.reduceBEq, Nat.reduceAdd, Nat.reduceMul, Nat.reduceSub, Int.reduceToNat, reduceCtorEq, branch_decide, branch_not, branch_beq, branch_bne]) ?_
  simp only [push_cast, ↓branch_true, ↓branch_false, Nat.reduceBEq, Nat.reduceAdd, Nat.reduceMul, Nat.reduceSub, Int.reduceToNat, reduceCtorEq, branch_decide, branch_not, branch_beq, branch_bne]
  rw [ho]
  simp only [push_cast, ↓branch_true, ↓branch_false, Nat.reduceBEq, Nat.reduceAdd, Nat.reduceMul, Nat.reduceSub, Int.reduceToNat, reduceCtorEq, branch_decide, branch_not, branch_beq, branch_bne]
  refine sp_call (bup_pu (totL l) lim (by omega) (by omega) (by omega) (by omega)) rfl [] rfl (by simp only [push_cast, ↓branch_true, ↓branch_false, Nat.reduceBEq, Nat.reduceAdd, Nat.reduceMul, Nat.reduceSub, Int.reduceToNat, reduceCtorEq, branch_decide, branch_not, branch_beq, branch_bne]) (by simp only [push_cast, ↓branch_true, ↓branch_false, Nat.reduceBEq, Nat.reduceAdd, Nat.reduceMul, Nat.reduceSub, Int.reduceToNat, reduceCtorEq, branch_decide, branch_not, branch_beq, branch_bne]) ?_
  simp only [push_cast, ↓branch_true, ↓branch_false, Nat.reduceBEq, Nat.reduceAdd, Nat.reduceMul, Nat.reduceSub, Int.reduceToNat, reduceCtorEq, branch_decide, branch_not, branch_beq, branch_bne]
  rfl
theorem blarge_pu (lim : Int) (l : List Pc) (c : Nat) (ho : orderB l = true) : Pu Try.prog 50 [.v (.int .i64 lim), .s 0 0 0 l.length c 2] [rPc l] (.v (.int .i64 (largT lim l l.length))) := by
  have hll := order_len ho
  refine pu_of_ex true [] mixed Try.call50 Try.func50 rfl Try.ntmps50 Try.results50 (by decide +kernel) rfl rfl rfl ?_
  simp only [push_cast, ↓branch_true, ↓branch_false, Nat.reduceBEq, Nat.reduceAdd, Nat.reduceMul, Nat.reduceSub, Int.reduceToNat, reduceCtorEq, branch_decide, branch_not, branch_beq, branch_bne]
  refine tr_loop mixed (by kernel_rfl) (fun (k : Nat) => [(10, .v (.int .i64 k)), (9, .v (.int .i64 l.length)), (8, .s 0 0 0 l.length c 2), (5, .v (.int .i64 (largT lim l k))), (0, .v (.int .i64 lim))]) (fun _ => [rPc l]) (fun k => k ≤ l.length) (fun k => l.length - k) 0 (Nat.zero_le _) (Mt.wk (rl := [0]) ⟨by kernel_rfl, ?_, ?_⟩) ?_
  · simp only [push_cast, ↓branch_true, ↓branch_false, Nat.reduceBEq, Nat.reduceAdd, Nat.reduceMul, Nat.reduceSub, Int.reduceToNat, reduceCtorEq, branch_decide, branch_not, branch_beq, branch_bne]
    rfl
  · simp only [push_cast, ↓branch_true, ↓branch_false, Nat.reduceBEq, Nat.reduceAdd, Nat.reduceMul, Nat.reduceSub, Int.reduceToNat, reduceCtorEq, branch_decide, branch_not, branch_beq, branch_bne]
  intro k hk
  have hr := larg_range (lim := lim) ho k hk
  simp only [push_cast, ↓branch_true, ↓branch_false, Nat.reduceBEq, Nat.reduceAdd, Nat.reduceMul, Nat.reduceSub, Int.reduceToNat, reduceCtorEq, branch_decide, branch_not, branch_beq, branch_bne]
  refine ⟨fun h => ?_, fun h => ?_⟩
  · have h2 := order_at ho (k := k) (by omega)
    have e1 : largT lim l (k + 1) = if lim < 2 * (ix l k).len then largT lim l k + (ix l k).cnt else largT lim l k := rfl
    repeat (with_reducible refine And.intro (by omega) ?_)
    refine ⟨fun h5 => ?_, fun h5 => ?_⟩
    · rw [if_pos h5] at e1
      repeat (with_reducible refine And.intro (by omega) ?_)
      refine lpK_normal (k + 1) [0] (by omega) (by omega) (by kernel_rfl) ?_ ?_
      · simp only [push_cast, ↓branch_true, ↓branch_false, Nat.reduceBEq, Nat.reduceAdd, Nat.reduceMul, Nat.reduceSub, Int.reduceToNat, reduceCtorEq, branch_decide, branch_not, branch_beq, branch_bne, e1]
      · simp only [push_cast, ↓branch_true, ↓branch_false, Nat.reduceBEq, Nat.reduceAdd, Nat.reduceMul, Nat.reduceSub, Int.reduceToNat, reduceCtorEq, branch_decide, branch_not, branch_beq, branch_bne]
    · rw [if_neg h5] at e1
      repeat (with_reducible refine And.intro (by omega) ?_)
      refine lpK_normal (k + 1) [0] (by omega) (by omega) (by kernel_rfl) ?_ ?_
      · simp only [push_cast, ↓branch_true, ↓branch_false, Nat.reduceBEq, Nat.reduceAdd, Nat.reduceMul, Nat.reduceSub, Int.reduceToNat, reduceCtorEq, branch_decide, branch_not, branch_beq, branch_bne, e1]
      · simp only [push_cast, ↓branch_true, ↓branch_false, Nat.reduceBEq, Nat.reduceAdd, Nat.reduceMul, Nat.reduceSub, Int.reduceToNat, reduceCtorEq, branch_decide, branch_not, branch_beq, branch_bne]
  · obtain rfl : k = l.length := by omega
    rfl
/-- A sum of parts, and what the parts are of. -/
def oPa (s K : Int) : Ob := ⟨117, false, .st [.v (.int .i64 s), .v (.int .i64 K)]⟩
attribute [push_cast] oPa
theorem add_sp (s K cnt num den : Int) (hd : den ≠ 0) (h0 : 0 ≤ cnt * num ∧ cnt * num ≤ 105906176000000) (h1 : -9223372036854775808 ≤ K.tdiv den ∧ K.tdiv den ≤ 9223372036854775807) (h2 : 0 ≤ cnt * num * K.tdiv den ∧ cnt * num * K.tdiv den ≤ 10696523776000000) (h3 : 0 ≤ s ∧ s ≤ 4611686018427387904) :
    Sp Try.prog 76 [.p 0 0 0, .v (.int .i64 cnt), .v (.int .i64 num), .v (.int .i64 den)] [oPa s K] (fun r H => r = .t [] ∧ H = [oPa (s + cnt * num * K.tdiv den) K]) := by
  refine sp_weak ?_
  refine sp_of_ex true [(0, .one 0 (.one 1 (.one 2 (.one 4 (.one 5 (.one 6 (.one 7 (.one 8 (.one 9 (.one 11 (.alt [(3, .one 10 (.one 12 (.one 13 (.one 14 (.one 15 (.one 16 (.one 17 .fin))))))), (10, .one 12 (.one 13 (.one 3 (.one 14 (.one 15 (.one 16 (.one 17 .fin)))))))])))))))))))] mixed Try.call76 Try.func76 rfl Try.ntmps76 Try.results76 (by decide +kernel) rfl ?_
  simp only [push_cast, ↓branch_true, ↓branch_false, Nat.reduceBEq, Nat.reduceAdd, Nat.reduceMul, Nat.reduceSub, Int.reduceToNat, reduceCtorEq, branch_decide, branch_not, branch_beq, branch_bne]
  have key : ∃ r H2 rl, mt rl r (SV.t []) ∧ (keepB 0 rl 1 && nodupB (liveL rl H2) && rl.length.beq H2.length) = true ∧ obsM rl [oPa (s + cnt * num * K.tdiv den) K] rl H2 ∧ r = SV.t [] ∧ H2 = [oPa (s + cnt * num * K.tdiv den) K] := by
    refine ⟨_, _, [0], ?_, by kernel_rfl, ?_, rfl, rfl⟩
    · simp only [push_cast, ↓branch_true, ↓branch_false, Nat.reduceBEq, Nat.reduceAdd, Nat.reduceMul, Nat.reduceSub, Int.reduceToNat, reduceCtorEq, branch_decide, branch_not, branch_beq, branch_bne]
    · simp only [push_cast, ↓branch_true, ↓branch_false, Nat.reduceBEq, Nat.reduceAdd, Nat.reduceMul, Nat.reduceSub, Int.reduceToNat, reduceCtorEq, branch_decide, branch_not, branch_beq, branch_bne]
  exact ⟨by omega, ⟨hd, by omega, by omega, by omega, key⟩, hd, by omega, by omega, by omega, key⟩
theorem kk_div {k : Int} (hk : 1 ≤ k) : (k * (k + 1)).tdiv k = k + 1 ∧ (k * (k + 1)).tdiv (k + 1) = k := by
  constructor
  · exact Int.mul_tdiv_cancel_left _ (by omega)
  · exact Int.mul_tdiv_cancel _ (by omega)
set_option maxHeartbeats 1000000 in
theorem bdual_pu (lim k : Int) (l : List Pc) (c : Nat) (ho : orderB l = true) (h1 : 1 ≤ lim) (hk : 1 ≤ k ∧ k ≤ 100) : Pu Try.prog 47 [.v (.int .i64 lim), .s 0 0 0 l.length c 2, .v (.int .i64 k)] [rPc l] (.v (.int .i64 (dualR lim k l))) := by
  have hll := order_len ho
  have hkk := kk_range hk
  obtain ⟨hd1, hd2⟩ := kk_div hk.1
  refine pu_of_ex true [(7, .one 0 (.one 1 (.one 3 (.one 4 (.one 5 (.one 6 (.one 7 (.one 2 (.one 8 .fin))))))))), (8, .one 0 (.one 1 (.one 3 (.one 4 (.one 5 (.one 6 (.one 2 (.one 7 .fin)))))))), (10, .one 0 (.one 1 (.one 2 (.one 4 (.one 5 (.one 6 (.alt [(3, .one 7 (.one 8 (.one 9 .fin))), (7, .one 3 (.one 8 (.one 9 .fin)))])))))))] mixed Try.call47 Try.func47 rfl Try.ntmps47 Try.results47 (by decide +kernel) rfl rfl rfl ?_
  simp only [push_cast, ↓branch_true, ↓branch_false, Nat.reduceBEq, Nat.reduceAdd, Nat.reduceMul, Nat.reduceSub, Int.reduceToNat, reduceCtorEq, branch_decide, branch_not, branch_beq, branch_bne]
  repeat (with_reducible refine And.intro (by omega) ?_)
  generalize hK : k * (k + 1) = K at *
  refine tr_loop mixed (by kernel_rfl) (fun (j : Nat) => [(19, .v (.int .i64 j)), (18, .v (.int .i64 l.length)), (17, .s 0 0 0 l.length c 2), (7, .p 1 0 0), (0, .v (.int .i64 lim)), (2, .v (.int .i64 k))]) (fun j => [rPc l, oPa (dualT lim k l j) K]) (fun j => j ≤ l.length) (fun j => l.length - j) 0 (Nat.zero_le _) (Mt.wk (rl := [0, 1]) ⟨by kernel_rfl, ?_, ?_⟩) ?_
  · simp only [push_cast, ↓branch_true, ↓branch_false, Nat.reduceBEq, Nat.reduceAdd, Nat.reduceMul, Nat.reduceSub, Int.reduceToNat, reduceCtorEq, branch_decide, branch_not, branch_beq, branch_bne]
  · simp only [push_cast, ↓branch_true, ↓branch_false, Nat.reduceBEq, Nat.reduceAdd, Nat.reduceMul, Nat.reduceSub, Int.reduceToNat, reduceCtorEq, branch_decide, branch_not, branch_beq, branch_bne]
    exact rfl
  intro j hj
  have hr := dualT_range h1 hk ho j hj
  simp only [push_cast, ↓branch_true, ↓branch_false, Nat.reduceBEq, Nat.reduceAdd, Nat.reduceMul, Nat.reduceSub, Int.reduceToNat, reduceCtorEq, branch_decide, branch_not, branch_beq, branch_bne]
  refine ⟨fun h => ?_, fun h => ?_⟩
  · have hB := dual_bounds h1 hk (order_at ho (k := j) (by omega))
    have e1 : dualT lim k l (j + 1) = dualT lim k l j + dualI lim k (ix l j) := rfl
    obtain ⟨n0, n1, q0, q1, c0, c1, s0, s1, t0, t1⟩ := hB
    unfold dualI at e1
    generalize (k + 1) * (ix l j).len = n at *
    generalize hq : n.tdiv lim = q at *
    have hs3 : 0 ≤ dualT lim k l j ∧ dualT lim k l j ≤ 4611686018427387904 := by omega
    have ha := add_sp (dualT lim k l j) K (ix l j).cnt q (k + 1) (by omega) ⟨c0, c1⟩ (by rw [hd2]; omega) (by rw [hd2]; exact ⟨s0, s1⟩) hs3
    have hb := add_sp (dualT lim k l j) K (ix l j).cnt q k (by omega) ⟨c0, c1⟩ (by rw [hd1]; omega) (by rw [hd1]; exact ⟨t0, t1⟩) hs3
    rw [hd2] at ha
    rw [hd1] at hb
    repeat (with_reducible refine And.intro (by omega) ?_)
    refine ⟨fun h5 => ?_, fun h5 => ?_⟩
    · rw [if_pos h5] at e1
      repeat' (with_reducible (first | apply And.intro | intro _))
      all_goals try omega
      all_goals
        refine sp_at ha [1] rfl ?_ ?_ ?_
        · simp only [push_cast, ↓branch_true, ↓branch_false, Nat.reduceBEq, Nat.reduceAdd, Nat.reduceMul, Nat.reduceSub, Int.reduceToNat, reduceCtorEq, branch_decide, branch_not, branch_beq, branch_bne]
        · simp only [push_cast, ↓branch_true, ↓branch_false, Nat.reduceBEq, Nat.reduceAdd, Nat.reduceMul, Nat.reduceSub, Int.reduceToNat, reduceCtorEq, branch_decide, branch_not, branch_beq, branch_bne]
        rintro _ _ ⟨rfl, rfl⟩
        simp only [push_cast, ↓branch_true, ↓branch_false, Nat.reduceBEq, Nat.reduceAdd, Nat.reduceMul, Nat.reduceSub, Int.reduceToNat, reduceCtorEq, branch_decide, branch_not, branch_beq, branch_bne]
        repeat (with_reducible refine And.intro (by omega) ?_)
        refine lpK_normal (j + 1) [0, 1] (by omega) (by omega) (by kernel_rfl) ?_ ?_
        · simp only [push_cast, ↓branch_true, ↓branch_false, Nat.reduceBEq, Nat.reduceAdd, Nat.reduceMul, Nat.reduceSub, Int.reduceToNat, reduceCtorEq, branch_decide, branch_not, branch_beq, branch_bne]
        · simp only [push_cast, ↓branch_true, ↓branch_false, Nat.reduceBEq, Nat.reduceAdd, Nat.reduceMul, Nat.reduceSub, Int.reduceToNat, reduceCtorEq, branch_decide, branch_not, branch_beq, branch_bne, e1]
    · rw [if_neg h5] at e1
      repeat' (with_reducible (first | apply And.intro | intro _))
      all_goals try omega
      all_goals
        refine sp_at hb [1] rfl ?_ ?_ ?_
        · simp only [push_cast, ↓branch_true, ↓branch_false, Nat.reduceBEq, Nat.reduceAdd, Nat.reduceMul, Nat.reduceSub, Int.reduceToNat, reduceCtorEq, branch_decide, branch_not, branch_beq, branch_bne]
        · simp only [push_cast, ↓branch_true, ↓branch_false, Nat.reduceBEq, Nat.reduceAdd, Nat.reduceMul, Nat.reduceSub, Int.reduceToNat, reduceCtorEq, branch_decide, branch_not, branch_beq, branch_bne]
        rintro _ _ ⟨rfl, rfl⟩
        simp only [push_cast, ↓branch_true, ↓branch_false, Nat.reduceBEq, Nat.reduceAdd, Nat.reduceMul, Nat.reduceSub, Int.reduceToNat, reduceCtorEq, branch_decide, branch_not, branch_beq, branch_bne]
        repeat (with_reducible refine And.intro (by omega) ?_)
        refine lpK_normal (j + 1) [0, 1] (by omega) (by omega) (by kernel_rfl) ?_ ?_
        · simp only [push_cast, ↓branch_true, ↓branch_false, Nat.reduceBEq, Nat.reduceAdd, Nat.reduceMul, Nat.reduceSub, Int.reduceToNat, reduceCtorEq, branch_decide, branch_not, branch_beq, branch_bne]
        · simp only [push_cast, ↓branch_true, ↓branch_false, Nat.reduceBEq, Nat.reduceAdd, Nat.reduceMul, Nat.reduceSub, Int.reduceToNat, reduceCtorEq, branch_decide, branch_not, branch_beq, branch_bne, e1]
  · obtain rfl : j = l.length := by omega
    repeat (with_reducible refine And.intro (by omega) ?_)
    repeat' (with_reducible (first | apply And.intro | intro _))
    all_goals
      refine sp_call (bup_pu (dualT lim k l l.length) K (by omega) (by omega) (by omega) (by omega)) rfl [] rfl (by simp only [push_cast, ↓branch_true, ↓branch_false, Nat.reduceBEq, Nat.reduceAdd, Nat.reduceMul, Nat.reduceSub, Int.reduceToNat, reduceCtorEq, branch_decide, branch_not, branch_beq, branch_bne]) (by simp only [push_cast, ↓branch_true, ↓branch_false, Nat.reduceBEq, Nat.reduceAdd, Nat.reduceMul, Nat.reduceSub, Int.reduceToNat, reduceCtorEq, branch_decide, branch_not, branch_beq, branch_bne]) ?_
      simp only [push_cast, ↓branch_true, ↓branch_false, Nat.reduceBEq, Nat.reduceAdd, Nat.reduceMul, Nat.reduceSub, Int.reduceToNat, reduceCtorEq, branch_decide, branch_not, branch_beq, branch_bne]
      rw [← hK]
      rfl
theorem mat_nn {lim : Int} {l : List Pc} (ho : orderB l = true) (h1 : 1 ≤ lim) : 0 ≤ matR lim l := by
  have := (totL_range ho).1
  exact Int.tdiv_nonneg (by omega) (by omega)
def bF (lim : Int) (l : List Pc) : Nat → Int
  | 0 => 0
  | 1 => max 0 (matR lim l)
  | _ => max (max 0 (matR lim l)) (largT lim l l.length)
def nI : Nat → Int
  | 0 => 0
  | 1 => 1
  | _ => 2
def oFn : Ob := ⟨40, false, .row 1 1 (fun _ => 2) (fun _ => 2) (fun _ => rowF [.f (.func 49) [] [], .f (.func 50) [] []] 1)⟩
attribute [push_cast] oFn
theorem bbest_pu (lim : Int) (l : List Pc) (c : Nat) (hl : l.length ≤ 9223372036854775807) : Pu Try.prog 21 [.v (.int .i64 lim), .s 0 0 0 l.length c 2] [rPc l] (.t [.v (.int .i64 (if givE lim l = 0 then bestR lim l else 0)), .v (.int .i64 (givE lim l))]) := by
  refine pu_of_ex true [] mixed Try.call21 Try.func21 rfl Try.ntmps21 Try.results21 (by decide +kernel) rfl rfl rfl ?_
  simp only [push_cast, ↓branch_true, ↓branch_false, Nat.reduceBEq, Nat.reduceAdd, Nat.reduceMul, Nat.reduceSub, Int.reduceToNat, reduceCtorEq, branch_decide, branch_not, branch_beq, branch_bne]
  refine sp_call (bgiven_pu lim l c hl) rfl [0] rfl (by simp only [push_cast, ↓branch_true, ↓branch_false, Nat.reduceBEq, Nat.reduceAdd, Nat.reduceMul, Nat.reduceSub, Int.reduceToNat, reduceCtorEq, branch_decide, branch_not, branch_beq, branch_bne]) (by simp only [push_cast, ↓branch_true, ↓branch_false, Nat.reduceBEq, Nat.reduceAdd, Nat.reduceMul, Nat.reduceSub, Int.reduceToNat, reduceCtorEq, branch_decide, branch_not, branch_beq, branch_bne]) ?_
  simp only [push_cast, ↓branch_true, ↓branch_false, Nat.reduceBEq, Nat.reduceAdd, Nat.reduceMul, Nat.reduceSub, Int.reduceToNat, reduceCtorEq, branch_decide, branch_not, branch_beq, branch_bne]
  by_cases hg : givE lim l = 0
  rotate_left
  · rw [if_neg hg]
    simp only [push_cast, ↓branch_true, ↓branch_false, Nat.reduceBEq, Nat.reduceAdd, Nat.reduceMul, Nat.reduceSub, Int.reduceToNat, reduceCtorEq, branch_decide, branch_not, branch_beq, branch_bne]
    exact fun h => absurd h hg
  rw [if_pos hg, hg]
  obtain ⟨ho, h1, h2, _⟩ := givE_0 hg
  simp only [push_cast, ↓branch_true, ↓branch_false, Nat.reduceBEq, Nat.reduceAdd, Nat.reduceMul, Nat.reduceSub, Int.reduceToNat, reduceCtorEq, branch_decide, branch_not, branch_beq, branch_bne]
  intro _
  repeat (with_reducible refine And.intro (by omega) ?_)
  have hm0 := mat_nn ho h1
  have hfn : ∀ i : Nat, i < 1 → ∀ k : Nat, k < 2 → mtL [0, 1] (List.take 1 (List.drop (k * 1) [SV.f (Fn.func 49) [] [], SV.f (Fn.func 50) [] []])) (List.take 1 (List.drop (k * 1) [SV.f (Fn.func 49) [] [], SV.f (Fn.func 50) [] []])) := by
    intro _ _ k hk
    obtain rfl | rfl : k = 0 ∨ k = 1 := by omega
    · simp only [push_cast, ↓branch_true, ↓branch_false, Nat.reduceBEq, Nat.reduceAdd, Nat.reduceMul, Nat.reduceSub, Int.reduceToNat, reduceCtorEq, branch_decide, branch_not, branch_beq, branch_bne]
    · simp only [push_cast, ↓branch_true, ↓branch_false, Nat.reduceBEq, Nat.reduceAdd, Nat.reduceMul, Nat.reduceSub, Int.reduceToNat, reduceCtorEq, branch_decide, branch_not, branch_beq, branch_bne]
  refine tr_loop mixed (by kernel_rfl) (fun (k : Nat) => [(19, .v (.int .i64 (nI k))), (18, .v (.int .i64 2)), (17, .s 1 0 0 2 2 1), (7, .v (.int .i64 (bF lim l k))), (0, .v (.int .i64 lim)), (1, .s 0 0 0 l.length c 2)]) (fun _ => [rPc l, oFn]) (fun k => k ≤ 2) (fun k => 2 - k) 0 (Nat.zero_le _) (Mt.wk (rl := [0, 1]) ⟨by kernel_rfl, ?_, ?_⟩) ?_
  · simp only [push_cast, ↓branch_true, ↓branch_false, Nat.reduceBEq, Nat.reduceAdd, Nat.reduceMul, Nat.reduceSub, Int.reduceToNat, reduceCtorEq, branch_decide, branch_not, branch_beq, branch_bne]
    exact ⟨rfl, rfl, rfl⟩
  · simp only [push_cast, ↓branch_true, ↓branch_false, Nat.reduceBEq, Nat.reduceAdd, Nat.reduceMul, Nat.reduceSub, Int.reduceToNat, reduceCtorEq, branch_decide, branch_not, branch_beq, branch_bne]
    exact hfn
  intro k hk
  have n0 : nI 0 = 0 := rfl
  have n1 : nI 1 = 1 := rfl
  have n2 : nI 2 = 2 := rfl
  have b0 : bF lim l 0 = 0 := rfl
  have b1 : bF lim l 1 = max 0 (matR lim l) := rfl
  have b2 : bF lim l 2 = max (max 0 (matR lim l)) (largT lim l l.length) := rfl
  obtain rfl | rfl | rfl : k = 0 ∨ k = 1 ∨ k = 2 := by omega
  · simp only [push_cast, ↓branch_true, ↓branch_false, Nat.reduceBEq, Nat.reduceAdd, Nat.reduceMul, Nat.reduceSub, Int.reduceToNat, reduceCtorEq, branch_decide, branch_not, branch_beq, branch_bne, n0, b0]
    refine ⟨fun _ => ?_, fun h => absurd (by decide) h⟩
    repeat (with_reducible refine And.intro (by omega) ?_)
    refine sp_call (bmat_pu lim l c ho h1 h2) rfl [0] rfl ?_ ?_ ?_
    · simp only [push_cast, ↓branch_true, ↓branch_false, Nat.reduceBEq, Nat.reduceAdd, Nat.reduceMul, Nat.reduceSub, Int.reduceToNat, reduceCtorEq, branch_decide, branch_not, branch_beq, branch_bne]
    · simp only [push_cast, ↓branch_true, ↓branch_false, Nat.reduceBEq, Nat.reduceAdd, Nat.reduceMul, Nat.reduceSub, Int.reduceToNat, reduceCtorEq, branch_decide, branch_not, branch_beq, branch_bne]
    simp only [push_cast, ↓branch_true, ↓branch_false, Nat.reduceBEq, Nat.reduceAdd, Nat.reduceMul, Nat.reduceSub, Int.reduceToNat, reduceCtorEq, branch_decide, branch_not, branch_beq, branch_bne]
    repeat (with_reducible refine And.intro (by omega) ?_)
    refine lpK_normal 1 [0, 1] (by omega) (by omega) (by kernel_rfl) ?_ ?_
    · simp only [push_cast, ↓branch_true, ↓branch_false, Nat.reduceBEq, Nat.reduceAdd, Nat.reduceMul, Nat.reduceSub, Int.reduceToNat, reduceCtorEq, branch_decide, branch_not, branch_beq, branch_bne, n1, b1]
      rfl
    · simp only [push_cast, ↓branch_true, ↓branch_false, Nat.reduceBEq, Nat.reduceAdd, Nat.reduceMul, Nat.reduceSub, Int.reduceToNat, reduceCtorEq, branch_decide, branch_not, branch_beq, branch_bne]
      exact hfn
  · simp only [push_cast, ↓branch_true, ↓branch_false, Nat.reduceBEq, Nat.reduceAdd, Nat.reduceMul, Nat.reduceSub, Int.reduceToNat, reduceCtorEq, branch_decide, branch_not, branch_beq, branch_bne, n1, b1]
    refine ⟨fun _ => ?_, fun h => absurd (by decide) h⟩
    repeat (with_reducible refine And.intro (by omega) ?_)
    refine sp_call (blarge_pu lim l c ho) rfl [0] rfl ?_ ?_ ?_
    · simp only [push_cast, ↓branch_true, ↓branch_false, Nat.reduceBEq, Nat.reduceAdd, Nat.reduceMul, Nat.reduceSub, Int.reduceToNat, reduceCtorEq, branch_decide, branch_not, branch_beq, branch_bne]
    · simp only [push_cast, ↓branch_true, ↓branch_false, Nat.reduceBEq, Nat.reduceAdd, Nat.reduceMul, Nat.reduceSub, Int.reduceToNat, reduceCtorEq, branch_decide, branch_not, branch_beq, branch_bne]
    simp only [push_cast, ↓branch_true, ↓branch_false, Nat.reduceBEq, Nat.reduceAdd, Nat.reduceMul, Nat.reduceSub, Int.reduceToNat, reduceCtorEq, branch_decide, branch_not, branch_beq, branch_bne]
    repeat (with_reducible refine And.intro (by omega) ?_)
    refine lpK_normal 2 [0, 1] (by omega) (by omega) (by kernel_rfl) ?_ ?_
    · simp only [push_cast, ↓branch_true, ↓branch_false, Nat.reduceBEq, Nat.reduceAdd, Nat.reduceMul, Nat.reduceSub, Int.reduceToNat, reduceCtorEq, branch_decide, branch_not, branch_beq, branch_bne, n2, b2]
      rfl
    · simp only [push_cast, ↓branch_true, ↓branch_false, Nat.reduceBEq, Nat.reduceAdd, Nat.reduceMul, Nat.reduceSub, Int.reduceToNat, reduceCtorEq, branch_decide, branch_not, branch_beq, branch_bne]
      exact hfn
  simp only [push_cast, ↓branch_true, ↓branch_false, Nat.reduceBEq, Nat.reduceAdd, Nat.reduceMul, Nat.reduceSub, Int.reduceToNat, reduceCtorEq, branch_decide, branch_not, branch_beq, branch_bne, n2, b2]
  refine ⟨fun h => absurd h (by decide), fun _ => ?_⟩
  have e0 : max (max 0 (matR lim l)) (largT lim l l.length) = bestT lim l 0 := by
    rw [show max 0 (matR lim l) = matR lim l by omega]; rfl
  rw [e0]
  refine tr_loop mixed (by kernel_rfl) (fun (k : Nat) => [(10, .v (.int .i64 (k + 1 : Nat))), (7, .v (.int .i64 (bestT lim l k))), (0, .v (.int .i64 lim)), (1, .s 0 0 0 l.length c 2)]) (fun _ => [rPc l]) (fun k => k ≤ 10) (fun k => 10 - k) 0 (Nat.zero_le _) (Mt.wk (rl := [0]) ⟨by kernel_rfl, ?_, ?_⟩) ?_
  · simp only [push_cast, ↓branch_true, ↓branch_false, Nat.reduceBEq, Nat.reduceAdd, Nat.reduceMul, Nat.reduceSub, Int.reduceToNat, reduceCtorEq, branch_decide, branch_not, branch_beq, branch_bne]
    rfl
  · simp only [push_cast, ↓branch_true, ↓branch_false, Nat.reduceBEq, Nat.reduceAdd, Nat.reduceMul, Nat.reduceSub, Int.reduceToNat, reduceCtorEq, branch_decide, branch_not, branch_beq, branch_bne]
  intro k hk
  have e1 : bestT lim l (k + 1) = max (bestT lim l k) (dualR lim (k + 1 : Nat) l) := rfl
  simp only [push_cast, ↓branch_true, ↓branch_false, Nat.reduceBEq, Nat.reduceAdd, Nat.reduceMul, Nat.reduceSub, Int.reduceToNat, reduceCtorEq, branch_decide, branch_not, branch_beq, branch_bne]
  refine ⟨fun h => ?_, fun h => ?_⟩
  · refine sp_call (bdual_pu lim (k + 1 : Nat) l c ho h1 (by omega)) rfl [0] rfl (by simp only [push_cast, ↓branch_true, ↓branch_false, Nat.reduceBEq, Nat.reduceAdd, Nat.reduceMul, Nat.reduceSub, Int.reduceToNat, reduceCtorEq, branch_decide, branch_not, branch_beq, branch_bne]) (by simp only [push_cast, ↓branch_true, ↓branch_false, Nat.reduceBEq, Nat.reduceAdd, Nat.reduceMul, Nat.reduceSub, Int.reduceToNat, reduceCtorEq, branch_decide, branch_not, branch_beq, branch_bne]) ?_
    simp only [push_cast, ↓branch_true, ↓branch_false, Nat.reduceBEq, Nat.reduceAdd, Nat.reduceMul, Nat.reduceSub, Int.reduceToNat, reduceCtorEq, branch_decide, branch_not, branch_beq, branch_bne]
    repeat (with_reducible refine And.intro (by omega) ?_)
    refine lpK_normal (k + 1) [0] (by omega) (by omega) (by kernel_rfl) ?_ ?_
    · simp only [push_cast, ↓branch_true, ↓branch_false, Nat.reduceBEq, Nat.reduceAdd, Nat.reduceMul, Nat.reduceSub, Int.reduceToNat, reduceCtorEq, branch_decide, branch_not, branch_beq, branch_bne, e1]
    · simp only [push_cast, ↓branch_true, ↓branch_false, Nat.reduceBEq, Nat.reduceAdd, Nat.reduceMul, Nat.reduceSub, Int.reduceToNat, reduceCtorEq, branch_decide, branch_not, branch_beq, branch_bne]
  · obtain rfl : k = 10 := by omega
    rfl
end Go.Proofs.Ytdeaaonppokgkaa.Pat
