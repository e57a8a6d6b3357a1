/- Contracts: the bounds of the reference and of the program. -/
import Derived.Test.YtdeaaonppokgkaaGreatGF
set_option maxRecDepth 100000
set_option linter.unusedSimpArgs false
set_option linter.unusedVariables false
-- 
namespace Go.Proofs.YtdeaaonppokgkaaGreat.Pat
open Go.RowKit
theorem mul_le {a b A B : Int} (h0 : 0 ≤ a) (h1 : a ≤ A) (h2 : 0 ≤ b) (h3 : b ≤ B) : 0 ≤ a * b ∧ a * b ≤ A * B := ⟨Int.mul_nonneg h0 h2, Int.le_trans (Int.mul_le_mul_of_nonneg_right h1 h2) (Int.mul_le_mul_of_nonneg_left h3 (by omega))⟩
def oIx (i : Int) : Ob := ⟨3, true, .st [.v (.int .i64 i)]⟩
attribute [push_cast] oIx
def totT (l : List Pc) (k : Nat) : Int := ((l.take k).map fun p => p.len * p.cnt).sum
theorem totT_succ {l : List Pc} {k : Nat} (h : k < l.length) : totT l (k + 1) = totT l k + (ix l k).len * (ix l k).cnt := by
  unfold totT
  rw [take_snoc h, List.map_append, List.sum_append]; simp
theorem tot_range {l : List Pc} (ho : orderB l = true) : ∀ k, k ≤ l.length → (k : Int) ≤ totT l k ∧ totT l k ≤ 1048576000000 * k
  | 0, _ => by simp [totT]
  | k + 1, hk => by
    have ih := tot_range ho k (by omega)
    have h2 := order_at ho (k := k) (by omega)
    have hm := mul_le (show 0 ≤ (ix l k).len by omega) h2.2.1 (show 0 ≤ (ix l k).cnt by omega) h2.2.2.2
    have hp : 1 * 1 ≤ (ix l k).len * (ix l k).cnt := Int.mul_le_mul (by omega) (by omega) (by decide) (by omega)
    rw [totT_succ (by omega)]
    omega
def totL (l : List Pc) : Int := totT l l.length
theorem total_pu (l : List Pc) (c : Nat) (hl : l.length ≤ 9223372036854775807) : Pu Tryz.prog 73 [.s 0 0 0 l.length c 2] [rPc l] (.t [.v (.int .i64 (if orderB l then totL l else 0)), .v (.int .i64 (if orderB l then 0 else 1))]) := by
  refine pu_of_ex true [] mixed Tryz.call73 Tryz.func73 rfl Tryz.ntmps73 Tryz.results73 (by decide +kernel) rfl rfl rfl ?_
  refine sxo ?_
  try with_reducible exact trivial
  refine sp_call (order_pu l c hl) rfl [0] rfl (by simp only [push_cast, ↓branch_true, ↓branch_false, Nat.reduceBEq, Nat.reduceAdd, Nat.reduceMul, Nat.reduceSub, Int.reduceToNat, reduceCtorEq, branch_decide, branch_not, branch_beq, branch_bne]) (by simp only [push_cast, ↓branch_true, ↓branch_false, Nat.reduceBEq, Nat.reduceAdd, Nat.reduceMul, Nat.reduceSub, Int.reduceToNat, reduceCtorEq, branch_decide, branch_not, branch_beq, branch_bne]) ?_
  refine sxo ?_
  try with_reducible exact trivial
  cases ho : orderB l with
  | false =>
    refine sxo ?_
    try with_reducible exact trivial
  | true =>
  have hll := order_len ho
  refine sxo ?_
  try with_reducible exact trivial
  refine tr_loop mixed (by kernel_rfl) (fun (k : Nat) => [(12, .v (.int .i64 k)), (11, .v (.int .i64 l.length)), (10, .s 0 0 0 l.length c 2), (4, .v (.int .i64 (totT l k)))]) (fun _ => [rPc l]) (fun k => k ≤ l.length) (fun k => l.length - k) 0 (Nat.zero_le _) (Mt.wk (rl := [0]) ⟨by kernel_rfl, ?_, ?_⟩) ?_
  · refine sxo ?_
    try with_reducible exact trivial
    simp [totT]
  · refine sxo ?_
    try with_reducible exact trivial
  intro k hk
  have hr := tot_range ho k hk
  refine sxo ?_
  try with_reducible exact trivial
  refine ⟨fun h => ?_, fun h => ?_⟩
  · have h2 := order_at ho (k := k) (by omega)
    have hm := mul_le (show 0 ≤ (ix l k).len by omega) h2.2.1 (show 0 ≤ (ix l k).cnt by omega) h2.2.2.2
    repeat (with_reducible refine And.intro (by omega) ?_)
    refine lpK_normal (k + 1) [0] (by omega) (by omega) (by kernel_rfl) ?_ ?_
    · simp only [push_cast, ↓branch_true, ↓branch_false, Nat.reduceBEq, Nat.reduceAdd, Nat.reduceMul, Nat.reduceSub, Int.reduceToNat, reduceCtorEq, branch_decide, branch_not, branch_beq, branch_bne, totT_succ (show k < l.length by omega)]
    · refine sxo ?_
      try with_reducible exact trivial
  · obtain rfl : k = l.length := by omega
    simp [totL]
/-- The order does not fit the length. -/
def gapB (l : List Pc) (lim : Int) : Bool := l.any fun p => decide (lim < p.len)
def givR (lim : Int) (l : List Pc) : Int := if orderB l = false then 1 else if ¬ (1 ≤ lim ∧ lim ≤ 1048576) then 2 else if gapB l lim = true then 22 else 0
theorem rgivenB_pu (lim : Int) (l : List Pc) (c : Nat) (hl : l.length ≤ 9223372036854775806) : Pu Tryz.prog 7 [.v (.int .i64 lim), .s 0 0 0 l.length c 2] [rPc l] (.v (.int .i64 (givR lim l))) := by
  refine pu_of_ex true [] mixed Tryz.call7 Tryz.func7 rfl Tryz.ntmps7 Tryz.results7 (by decide +kernel) rfl rfl rfl ?_
  refine sxo ?_
  try with_reducible exact trivial
  refine sp_call (rorder_pu l c hl) rfl [0] rfl (by simp only [push_cast, ↓branch_true, ↓branch_false, Nat.reduceBEq, Nat.reduceAdd, Nat.reduceMul, Nat.reduceSub, Int.reduceToNat, reduceCtorEq, branch_decide, branch_not, branch_beq, branch_bne]) (by simp only [push_cast, ↓branch_true, ↓branch_false, Nat.reduceBEq, Nat.reduceAdd, Nat.reduceMul, Nat.reduceSub, Int.reduceToNat, reduceCtorEq, branch_decide, branch_not, branch_beq, branch_bne]) ?_
  refine sxo ?_
  try with_reducible exact trivial
  unfold givR
  cases ho : orderB l with
  | false =>
    refine sxo ?_
    try with_reducible exact trivial
    try rfl
  | true =>
  have hll := order_len ho
  refine sxo ?_
  try with_reducible exact trivial
  refine ⟨fun h => by rw [if_pos (by omega)], fun h => ⟨fun h3 => by rw [if_pos (by omega)], fun h3 => ?_⟩⟩
  rw [if_neg (show ¬¬(1 ≤ lim ∧ lim ≤ 1048576) by omega)]
  refine tr_loop0 mixed (by kernel_rfl) (fun (k : Nat) => [(5, .v (.int .i64 k)), (0, .v (.int .i64 lim)), (1, .s 0 0 0 l.length c 2)]) (fun k => k ≤ l.length ∧ ∀ j, j < k → (ix l j).len ≤ lim) (fun k => l.length - k) 0 ⟨Nat.zero_le _, fun j h => by omega⟩ ?_ ?_
  · refine sxo ?_
    try with_reducible exact trivial
  rintro k ⟨hk, hn⟩
  refine sxo ?_
  try with_reducible exact trivial
  refine ⟨fun h4 => ?_, fun h4 => ?_⟩
  · repeat (with_reducible refine And.intro (by omega) ?_)
    refine ⟨fun h5 => ?_, fun h5 => ?_⟩
    · have : gapB l lim = true := List.any_eq_true.2 ⟨_, ix_mem (l := l) (k := k) (by omega), by simpa using h5⟩
      rw [if_pos this]
    · repeat (with_reducible refine And.intro (by omega) ?_)
      refine lp0_normal (k + 1) ⟨by omega, fun j hj => ?_⟩ (by omega) ?_
      · by_cases e : j = k
        · subst e; omega
        · exact hn j (by omega)
      · refine sxo ?_
        try with_reducible exact trivial
  · have : ¬ gapB l lim = true := fun h => by
      obtain ⟨x, hx, h6⟩ := List.any_eq_true.1 h
      obtain ⟨j, hj, rfl⟩ := List.getElem_of_mem hx
      have := hn j (by omega)
      rw [ix_eq hj] at this
      simp at h6
      omega
    rw [if_neg this]
/-- n over m, rounded up. -/
def upR (n m : Int) : Int := (n + m - 1).tdiv m
def matR (lim : Int) (l : List Pc) : Int := upR (totL l) lim
theorem totL_range {l : List Pc} (ho : orderB l = true) : 0 ≤ totL l ∧ totL l ≤ 209715200000000 := by
  have h := tot_range ho l.length (Nat.le_refl _)
  have hll := order_len ho
  unfold totL
  omega
def largT (lim : Int) (l : List Pc) : Nat → Int
  | 0 => 0
  | k + 1 => if lim < 2 * (ix l k).len then largT lim l k + (ix l k).cnt else largT lim l k
theorem larg_range {lim : Int} {l : List Pc} (ho : orderB l = true) : ∀ k, k ≤ l.length → 0 ≤ largT lim l k ∧ largT lim l k ≤ 1000000 * k
  | 0, _ => by simp [largT]
  | k + 1, h => by
    have := larg_range (lim := lim) ho k (by omega)
    have h2 := order_at ho (k := k) (by omega)
    unfold largT
    split <;> omega
structure DualB (lim k : Int) (p : Pc) : Prop where
  n0 : 0 ≤ (k + 1) * p.len
  n1 : (k + 1) * p.len ≤ 105906176
  q0 : 0 ≤ ((k + 1) * p.len).tdiv lim
  q1 : ((k + 1) * p.len).tdiv lim ≤ 105906176
  c0 : 0 ≤ p.cnt * ((k + 1) * p.len).tdiv lim
  c1 : p.cnt * ((k + 1) * p.len).tdiv lim ≤ 105906176000000
  s0 : 0 ≤ p.cnt * ((k + 1) * p.len).tdiv lim * k
  s1 : p.cnt * ((k + 1) * p.len).tdiv lim * k ≤ 10696523776000000
  t0 : 0 ≤ p.cnt * ((k + 1) * p.len).tdiv lim * (k + 1)
  t1 : p.cnt * ((k + 1) * p.len).tdiv lim * (k + 1) ≤ 10696523776000000
def givE (lim : Int) (l : List Pc) : Int := if orderB l = false then 1 else if lim < 1 ∨ 1048576 < lim then 2 else if l.any (fun p => decide (lim < p.len)) = true then 22 else 0
theorem givE_0 {lim : Int} {l : List Pc} (h : givE lim l = 0) : orderB l = true ∧ 1 ≤ lim ∧ lim ≤ 1048576 ∧ ∀ k, k < l.length → (ix l k).len ≤ lim := by
  unfold givE at h
  split at h
  · omega
  · split at h
    · omega
    · split at h
      · omega
      · rename_i h1 h2 h3
        refine ⟨by simpa using h1, by omega, by omega, fun k hk => ?_⟩
        rw [List.any_eq_true] at h3
        refine Int.not_lt.1 fun h4 => h3 ⟨_, ix_mem hk, decide_eq_true h4⟩
theorem over2_pu (l : List Pc) (lim : Int) (k : Nat) : Pu Tryz.prog 45 [.a (cPc (ix l k)), .p 1 0 0] [rPc l, oIx lim] (.v (.bool (decide (lim < (ix l k).len)))) := by
  refine pu_of_ex true [] mixed Tryz.call45 Tryz.func45 rfl Tryz.ntmps45 Tryz.results45 (by decide +kernel) rfl rfl rfl ?_
  refine sxo ?_
  try with_reducible exact trivial
theorem bgiven_pu (lim : Int) (l : List Pc) (c : Nat) (hl : l.length ≤ 9223372036854775807) : Pu Tryz.prog 18 [.v (.int .i64 lim), .s 0 0 0 l.length c 2] [rPc l] (.v (.int .i64 (givE lim l))) := by
  unfold givE
  refine pu_of_ex true [] mixed Tryz.call18 Tryz.func18 rfl Tryz.ntmps18 Tryz.results18 (by decide +kernel) rfl rfl rfl ?_
  refine sxo ?_
  try with_reducible exact trivial
  refine sp_call (order_pu l c hl) rfl [0] rfl (by simp only [push_cast, ↓branch_true, ↓branch_false, Nat.reduceBEq, Nat.reduceAdd, Nat.reduceMul, Nat.reduceSub, Int.reduceToNat, reduceCtorEq, branch_decide, branch_not, branch_beq, branch_bne]) (by simp only [push_cast, ↓branch_true, ↓branch_false, Nat.reduceBEq, Nat.reduceAdd, Nat.reduceMul, Nat.reduceSub, Int.reduceToNat, reduceCtorEq, branch_decide, branch_not, branch_beq, branch_bne]) ?_
  refine sxo ?_
  try with_reducible exact trivial
  cases hvo : orderB l with
  | false =>
    refine sxo ?_
    try with_reducible exact trivial
    try rfl
  | true =>
  refine sxo ?_
  try with_reducible exact trivial
  refine ⟨fun h1 => by rw [if_pos (by omega)], fun h1 => ⟨fun h2 => by rw [if_pos (by omega)], fun h2 => ?_⟩⟩
  rw [if_neg (by omega)]
  refine sp_call (containsPc_pu l c 45 [] [.p 1 0 0] [oIx lim] (fun p => decide (lim < p.len)) rfl hl fun x hx => ?_) rfl [0, 1] rfl ?_ ?_ ?_
  · obtain ⟨k, hk, rfl⟩ := List.getElem_of_mem hx
    have := over2_pu l lim k
    rwa [ix_eq hk] at this
  · refine sxo ?_
    try with_reducible exact trivial
  · refine sxo ?_
    try with_reducible exact trivial
  cases hany : l.any (fun p => decide (lim < p.len)) with
  | true =>
    refine sxo ?_
    try with_reducible exact trivial
    try rfl
  | false =>
    refine sxo ?_
    try with_reducible exact trivial
    try rfl
theorem bup_pu (n m : Int) (h0 : 0 ≤ n) (h1 : n ≤ 4611686018427387904) (h2 : 1 ≤ m) (h3 : m ≤ 4294967296) : Pu Tryz.prog 42 [.v (.int .i64 n), .v (.int .i64 m)] [] (.v (.int .i64 (upR n m))) := by
  refine pu_of_ex true [] mixed Tryz.call42 Tryz.func42 rfl Tryz.ntmps42 Tryz.results42 (by decide +kernel) rfl rfl rfl ?_
  refine sxo ?_
  try with_reducible exact trivial
  have a1 : 0 ≤ (n + m - 1).tdiv m := Int.tdiv_nonneg (by omega) (by omega)
  have a2 : (n + m - 1).tdiv m ≤ n + m - 1 := Int.tdiv_le_self _ (by omega)
  exact ⟨by omega, by omega, by omega, by omega, rfl⟩
theorem bmat_pu (lim : Int) (l : List Pc) (c : Nat) (ho : orderB l = true) (h1 : 1 ≤ lim) (h2 : lim ≤ 1048576) : Pu Tryz.prog 37 [.v (.int .i64 lim), .s 0 0 0 l.length c 2] [rPc l] (.v (.int .i64 (matR lim l))) := by
  obtain ⟨g1, g2⟩ := totL_range ho
  have hll := order_len ho
  refine pu_of_ex true [] mixed Tryz.call37 Tryz.func37 rfl Tryz.ntmps37 Tryz.results37 (by decide +kernel) rfl rfl rfl ?_
  refine sxo ?_
  try with_reducible exact trivial
  refine sp_call (total_pu l c (by omega)) rfl [0] rfl (by simp only [push_cast, ↓branch_true, ↓branch_false, Nat.reduceBEq, Nat.reduceAdd, Nat.reduceMul, Nat.reduceSub, Int.reduceToNat, reduceCtorEq, branch_decide, branch_not, branch_beq, branch_bne]) (by simp only [push_cast, ↓branch_true, ↓branch_false, Nat.reduceBEq, Nat.reduceAdd, Nat.reduceMul, Nat.reduceSub, Int.reduceToNat, reduceCtorEq, branch_decide, branch_not, branch_beq, branch_bne]) ?_
  refine sxo ?_
  try with_reducible exact trivial
  rw [ho]
  refine sxo ?_
  try with_reducible exact trivial
  refine sp_call (bup_pu (totL l) lim (by omega) (by omega) (by omega) (by omega)) rfl [] rfl (by simp only [push_cast, ↓branch_true, ↓branch_false, Nat.reduceBEq, Nat.reduceAdd, Nat.reduceMul, Nat.reduceSub, Int.reduceToNat, reduceCtorEq, branch_decide, branch_not, branch_beq, branch_bne]) (by simp only [push_cast, ↓branch_true, ↓branch_false, Nat.reduceBEq, Nat.reduceAdd, Nat.reduceMul, Nat.reduceSub, Int.reduceToNat, reduceCtorEq, branch_decide, branch_not, branch_beq, branch_bne]) ?_
  refine sxo ?_
  try with_reducible exact trivial
  rfl
theorem blarge_pu (lim : Int) (l : List Pc) (c : Nat) (ho : orderB l = true) : Pu Tryz.prog 38 [.v (.int .i64 lim), .s 0 0 0 l.length c 2] [rPc l] (.v (.int .i64 (largT lim l l.length))) := by
  have hll := order_len ho
  refine pu_of_ex true [] mixed Tryz.call38 Tryz.func38 rfl Tryz.ntmps38 Tryz.results38 (by decide +kernel) rfl rfl rfl ?_
  refine sxo ?_
  try with_reducible exact trivial
  refine tr_loop mixed (by kernel_rfl) (fun (k : Nat) => [(10, .v (.int .i64 k)), (9, .v (.int .i64 l.length)), (8, .s 0 0 0 l.length c 2), (5, .v (.int .i64 (largT lim l k))), (0, .v (.int .i64 lim))]) (fun _ => [rPc l]) (fun k => k ≤ l.length) (fun k => l.length - k) 0 (Nat.zero_le _) (Mt.wk (rl := [0]) ⟨by kernel_rfl, ?_, ?_⟩) ?_
  · refine sxo ?_
    try with_reducible exact trivial
    rfl
  · refine sxo ?_
    try with_reducible exact trivial
  intro k hk
  have hr := larg_range (lim := lim) ho k hk
  refine sxo ?_
  try with_reducible exact trivial
  refine ⟨fun h => ?_, fun h => ?_⟩
  · have h2 := order_at ho (k := k) (by omega)
    have e1 : largT lim l (k + 1) = if lim < 2 * (ix l k).len then largT lim l k + (ix l k).cnt else largT lim l k := rfl
    repeat (with_reducible refine And.intro (by omega) ?_)
    refine ⟨fun h5 => ?_, fun h5 => ?_⟩
    · rw [if_pos h5] at e1
      repeat (with_reducible refine And.intro (by omega) ?_)
      refine lpK_normal (k + 1) [0] (by omega) (by omega) (by kernel_rfl) ?_ ?_
      · simp only [push_cast, ↓branch_true, ↓branch_false, Nat.reduceBEq, Nat.reduceAdd, Nat.reduceMul, Nat.reduceSub, Int.reduceToNat, reduceCtorEq, branch_decide, branch_not, branch_beq, branch_bne, e1]
      · refine sxo ?_
        try with_reducible exact trivial
    · rw [if_neg h5] at e1
      repeat (with_reducible refine And.intro (by omega) ?_)
      refine lpK_normal (k + 1) [0] (by omega) (by omega) (by kernel_rfl) ?_ ?_
      · simp only [push_cast, ↓branch_true, ↓branch_false, Nat.reduceBEq, Nat.reduceAdd, Nat.reduceMul, Nat.reduceSub, Int.reduceToNat, reduceCtorEq, branch_decide, branch_not, branch_beq, branch_bne, e1]
      · refine sxo ?_
        try with_reducible exact trivial
  · obtain rfl : k = l.length := by omega
    rfl
end Go.Proofs.YtdeaaonppokgkaaGreat.Pat
