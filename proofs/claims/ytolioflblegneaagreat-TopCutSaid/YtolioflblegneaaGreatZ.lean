/- Contracts: the reference's search of the least number. Contracts: the reference's List and Least. Contracts: the bounds' reference. Contracts: the bounds' reference: Material, Large. Contracts: the bounds' reference: Dual, Best. Contracts: the program's bounds. Contracts: Proved. -/
import Derived.Test.YtolioflblegneaaGreatU
import Derived.Test.YtolioflblegneaaGreatVA
set_option maxRecDepth 100000
set_option linter.unusedSimpArgs false
set_option linter.unusedVariables false
namespace Go.Proofs.YtolioflblegneaaGreat
open Go.RowKit
/-- What is left of the loads. -/
def usedR (lim : Int) (room : List Int) : List Int := room.map fun r => lim - r
/-- The tries so far. -/
structure TrI (lim w : Int) (ws room : List Int) (mo i m : Nat) : Prop where
  le : m ≤ mo
  all : ∀ j, j < i → w ≤ ix room j → m ≤ optF lim ws (usedR lim (room.set j (ix room j - w)))
  one : m = mo ∨ ∃ j, j < i ∧ w ≤ ix room j ∧ m = optF lim ws (usedR lim (room.set j (ix room j - w)))
end Go.Proofs.YtolioflblegneaaGreat
namespace Go.Proofs.YtolioflblegneaaGreat
open Go.RowKit
def wsT (l : List Pc) (k : Nat) : List Int := (l.take k).flatMap fun p => List.replicate p.cnt.toNat p.len
theorem wsT_succ {l : List Pc} {k : Nat} (hk : k < l.length) : wsT l (k + 1) = wsT l k ++ List.replicate (ix l k).cnt.toNat (ix l k).len := by
  unfold wsT
  rw [take_snoc hk, List.flatMap_append]
  simp
theorem wsT_len {l : List Pc} (ho : orderB l = true) : ∀ k, k ≤ l.length → ((wsT l k).length : Int) = cntT l k
  | 0, _ => by simp [wsT, cntT]
  | k + 1, h => by
    have := wsT_len ho k (by omega)
    have h2 := order_at ho (k := k) (by omega)
    rw [wsT_succ (by omega), cntT_succ (by omega), List.length_append, List.length_replicate]
    omega
def wsO (l : List Pc) : List Int := wsT l l.length
theorem wsO_mem {l : List Pc} {x : Int} (h : x ∈ wsO l) : ∃ k, k < l.length ∧ x = (ix l k).len := by
  unfold wsO wsT at h
  rw [List.take_length] at h
  obtain ⟨p, hp, hx⟩ := List.mem_flatMap.1 h
  obtain ⟨k, hk, rfl⟩ := List.getElem_of_mem hp
  exact ⟨k, hk, by rw [ix_eq hk]; exact (List.mem_replicate.1 hx).2⟩
end Go.Proofs.YtolioflblegneaaGreat
namespace Go.Proofs.YtolioflblegneaaGreat
open Go.RowKit
/-- n over m, rounded up. -/
def upR (n m : Int) : Int := (n + m - 1).tdiv m
end Go.Proofs.YtolioflblegneaaGreat
namespace Go.Proofs.YtolioflblegneaaGreat
open Go.RowKit
def matR (lim : Int) (l : List Pc) : Int := upR (totL l) lim
theorem totL_range {l : List Pc} (ho : orderB l = true) : 0 ≤ totL l ∧ totL l ≤ 209715200000000 := by
  have h := tot_range ho l.length (Nat.le_refl _)
  have hll := order_len ho
  unfold totL
  omega
def largT (lim : Int) (l : List Pc) : Nat → Int
  | 0 => 0
  | k + 1 => if lim < 2 * (ix l k).len then largT lim l k + (ix l k).cnt else largT lim l k
theorem larg_range {lim : Int} {l : List Pc} (ho : orderB l = true) : ∀ k, k ≤ l.length → 0 ≤ largT lim l k ∧ largT lim l k ≤ 1000000 * k
  | 0, _ => by simp [largT]
  | k + 1, h => by
    have := larg_range (lim := lim) ho k (by omega)
    have h2 := order_at ho (k := k) (by omega)
    unfold largT
    split <;> omega
end Go.Proofs.YtolioflblegneaaGreat
namespace Go.Proofs.YtolioflblegneaaGreat
open Go.RowKit
theorem mulB {a b A B : Int} (h0 : 0 ≤ a) (h1 : a ≤ A) (h2 : 0 ≤ b) (h3 : b ≤ B) : 0 ≤ a * b ∧ a * b ≤ A * B :=
  ⟨Int.mul_nonneg h0 h2, Int.mul_le_mul h1 h3 h2 (by omega)⟩
/-- What a line of pieces adds to the bound of a number. -/
def dualI (lim k : Int) (p : Pc) : Int := if ((k + 1) * p.len).tmod lim = 0 then p.cnt * ((k + 1) * p.len).tdiv lim * k else p.cnt * ((k + 1) * p.len).tdiv lim * (k + 1)
def dualT (lim k : Int) (l : List Pc) : Nat → Int
  | 0 => 0
  | j + 1 => dualT lim k l j + dualI lim k (ix l j)
structure DualB (lim k : Int) (p : Pc) : Prop where
  n0 : 0 ≤ (k + 1) * p.len
  n1 : (k + 1) * p.len ≤ 11534336
  q0 : 0 ≤ ((k + 1) * p.len).tdiv lim
  q1 : ((k + 1) * p.len).tdiv lim ≤ 11534336
  c0 : 0 ≤ p.cnt * ((k + 1) * p.len).tdiv lim
  c1 : p.cnt * ((k + 1) * p.len).tdiv lim ≤ 11534336000000
  s0 : 0 ≤ p.cnt * ((k + 1) * p.len).tdiv lim * k
  s1 : p.cnt * ((k + 1) * p.len).tdiv lim * k ≤ 126877696000000
  t0 : 0 ≤ p.cnt * ((k + 1) * p.len).tdiv lim * (k + 1)
  t1 : p.cnt * ((k + 1) * p.len).tdiv lim * (k + 1) ≤ 126877696000000
theorem dual_bounds {lim k : Int} {p : Pc} (h1 : 1 ≤ lim) (hk : 1 ≤ k ∧ k ≤ 10) (hp : 1 ≤ p.len ∧ p.len ≤ 1048576 ∧ 1 ≤ p.cnt ∧ p.cnt ≤ 1000000) : DualB lim k p := by
  obtain ⟨a0, a1⟩ := mulB (show 0 ≤ k + 1 by omega) (show k + 1 ≤ 11 by omega) (show 0 ≤ p.len by omega) hp.2.1
  have b0 : 0 ≤ ((k + 1) * p.len).tdiv lim := Int.tdiv_nonneg a0 (by omega)
  have b1 : ((k + 1) * p.len).tdiv lim ≤ (k + 1) * p.len := Int.tdiv_le_self _ a0
  obtain ⟨c0, c1⟩ := mulB (show 0 ≤ p.cnt by omega) hp.2.2.2 b0 (show ((k + 1) * p.len).tdiv lim ≤ 11534336 by omega)
  obtain ⟨d0, d1⟩ := mulB c0 c1 (show 0 ≤ k by omega) (show k ≤ 11 by omega)
  obtain ⟨e0, e1⟩ := mulB c0 c1 (show 0 ≤ k + 1 by omega) (show k + 1 ≤ 11 by omega)
  exact ⟨a0, by omega, b0, by omega, c0, by omega, d0, by omega, e0, by omega⟩
theorem dualI_range {lim k : Int} {p : Pc} (h : DualB lim k p) : 0 ≤ dualI lim k p ∧ dualI lim k p ≤ 126877696000000 := by
  obtain ⟨_, _, _, _, _, _, s0, s1, t0, t1⟩ := h
  unfold dualI
  split
  · exact ⟨s0, s1⟩
  · exact ⟨t0, t1⟩
theorem dualT_range {lim k : Int} {l : List Pc} (h1 : 1 ≤ lim) (hk : 1 ≤ k ∧ k ≤ 10) (ho : orderB l = true) : ∀ j, j ≤ l.length → 0 ≤ dualT lim k l j ∧ dualT lim k l j ≤ 126877696000000 * j
  | 0, _ => by simp [dualT]
  | j + 1, h => by
    have ih := dualT_range (lim := lim) (k := k) h1 hk ho j (by omega)
    have := dualI_range (dual_bounds h1 hk (order_at ho (k := j) (by omega)))
    have e : dualT lim k l (j + 1) = dualT lim k l j + dualI lim k (ix l j) := rfl
    omega
def dualR (lim k : Int) (l : List Pc) : Int := upR (dualT lim k l l.length) (k * (k + 1))
theorem kk_range {k : Int} (hk : 1 ≤ k ∧ k ≤ 10) : 1 ≤ k * (k + 1) ∧ k * (k + 1) ≤ 110 := by
  obtain ⟨_, b⟩ := mulB (show 0 ≤ k by omega) hk.2 (show 0 ≤ k + 1 by omega) (show k + 1 ≤ 11 by omega)
  have := Int.mul_le_mul hk.1 (show (1 : Int) ≤ k + 1 by omega) (by decide) (by omega)
  omega
/-- The best bound by the first numbers. -/
def bestT (lim : Int) (l : List Pc) : Nat → Int
  | 0 => max (matR lim l) (largT lim l l.length)
  | k + 1 => max (bestT lim l k) (dualR lim (k + 1 : Nat) l)
def bestR (lim : Int) (l : List Pc) : Int := bestT lim l 10
end Go.Proofs.YtolioflblegneaaGreat
namespace Go.Proofs.YtolioflblegneaaGreat
open Go.RowKit
theorem over2_pu (l : List Pc) (lim : Int) (k : Nat) : Pu Tryz.prog 85 [.a (cPc (ix l k)), .p 1 0 0] [rPc l, oI lim] (.v (.bool (decide (lim < (ix l k).len)))) := by
  refine pu_of_ex true [] mixed Tryz.call85 Tryz.func85 rfl Tryz.ntmps85 Tryz.results85 (by decide +kernel) rfl rfl rfl ?_
  refine sxo ?_
  try with_reducible exact trivial
theorem bgiven_pu (lim : Int) (l : List Pc) (c : Nat) (hl : l.length ≤ 9223372036854775807) : Pu Tryz.prog 43 [.v (.int .i64 lim), .s 0 0 0 l.length c 2] [rPc l] (.v (.int .i64 (givE lim l))) := by
  unfold givE
  refine pu_of_ex true [] mixed Tryz.call43 Tryz.func43 rfl Tryz.ntmps43 Tryz.results43 (by decide +kernel) rfl rfl rfl ?_
  refine sxo ?_
  try with_reducible exact trivial
  refine sp_call (order_pu l c hl) rfl [0] rfl (by simp only [push_cast, ↓branch_true, ↓branch_false, Nat.reduceBEq, Nat.reduceAdd, Nat.reduceMul, Nat.reduceSub, Int.reduceToNat, reduceCtorEq, branch_decide, branch_not, branch_beq, branch_bne]) (by simp only [push_cast, ↓branch_true, ↓branch_false, Nat.reduceBEq, Nat.reduceAdd, Nat.reduceMul, Nat.reduceSub, Int.reduceToNat, reduceCtorEq, branch_decide, branch_not, branch_beq, branch_bne]) ?_
  refine sxo ?_
  try with_reducible exact trivial
  cases hvo : orderB l with
  | false =>
    refine sxo ?_
    try with_reducible exact trivial
    try rfl
  | true =>
  refine sxo ?_
  try with_reducible exact trivial
  refine ⟨fun h1 => by rw [if_pos (by omega)], fun h1 => ⟨fun h2 => by rw [if_pos (by omega)], fun h2 => ?_⟩⟩
  rw [if_neg (by omega)]
  refine sp_call (containsPc_pu l c 85 [] [.p 1 0 0] [oI lim] (fun p => decide (lim < p.len)) rfl hl fun x hx => ?_) rfl [0, 1] rfl ?_ ?_ ?_
  · obtain ⟨k, hk, rfl⟩ := List.getElem_of_mem hx
    have := over2_pu l lim k
    rwa [ix_eq hk] at this
  · refine sxo ?_
    try with_reducible exact trivial
  · refine sxo ?_
    try with_reducible exact trivial
  cases hany : l.any (fun p => decide (lim < p.len)) with
  | true =>
    refine sxo ?_
    try with_reducible exact trivial
    try rfl
  | false =>
    refine sxo ?_
    try with_reducible exact trivial
    try rfl
theorem bup_pu (n m : Int) (h0 : 0 ≤ n) (h1 : n ≤ 4611686018427387904) (h2 : 1 ≤ m) (h3 : m ≤ 4294967296) : Pu Tryz.prog 86 [.v (.int .i64 n), .v (.int .i64 m)] [] (.v (.int .i64 (upR n m))) := by
  refine pu_of_ex true [] mixed Tryz.call86 Tryz.func86 rfl Tryz.ntmps86 Tryz.results86 (by decide +kernel) rfl rfl rfl ?_
  refine sxo ?_
  try with_reducible exact trivial
  have a1 : 0 ≤ (n + m - 1).tdiv m := Int.tdiv_nonneg (by omega) (by omega)
  have a2 : (n + m - 1).tdiv m ≤ n + m - 1 := Int.tdiv_le_self _ (by omega)
  exact ⟨by omega, by omega, by omega, by omega, rfl⟩
theorem bmat_pu (lim : Int) (l : List Pc) (c : Nat) (ho : orderB l = true) (h1 : 1 ≤ lim) (h2 : lim ≤ 1048576) : Pu Tryz.prog 44 [.v (.int .i64 lim), .s 0 0 0 l.length c 2] [rPc l] (.v (.int .i64 (matR lim l))) := by
  obtain ⟨g1, g2⟩ := totL_range ho
  have hll := order_len ho
  refine pu_of_ex true [] mixed Tryz.call44 Tryz.func44 rfl Tryz.ntmps44 Tryz.results44 (by decide +kernel) rfl rfl rfl ?_
  refine sxo ?_
  try with_reducible exact trivial
  refine sp_call (total_pu l c (by omega)) rfl [0] rfl (by simp only [push_cast, ↓branch_true, ↓branch_false, Nat.reduceBEq, Nat.reduceAdd, Nat.reduceMul, Nat.reduceSub, Int.reduceToNat, reduceCtorEq, branch_decide, branch_not, branch_beq, branch_bne]) (by simp only [push_cast, ↓branch_true, ↓branch_false, Nat.reduceBEq, Nat.reduceAdd, Nat.reduceMul, Nat.reduceSub, Int.reduceToNat, reduceCtorEq, branch_decide, branch_not, branch_beq, branch_bne]) ?_
  refine sxo ?_
  try with_reducible exact trivial
  rw [ho]
  refine sxo ?_
  try with_reducible exact trivial
  refine sp_call (bup_pu (totL l) lim (by omega) (by omega) (by omega) (by omega)) rfl [] rfl (by simp only [push_cast, ↓branch_true, ↓branch_false, Nat.reduceBEq, Nat.reduceAdd, Nat.reduceMul, Nat.reduceSub, Int.reduceToNat, reduceCtorEq, branch_decide, branch_not, branch_beq, branch_bne]) (by simp only [push_cast, ↓branch_true, ↓branch_false, Nat.reduceBEq, Nat.reduceAdd, Nat.reduceMul, Nat.reduceSub, Int.reduceToNat, reduceCtorEq, branch_decide, branch_not, branch_beq, branch_bne]) ?_
  refine sxo ?_
  try with_reducible exact trivial
  rfl
theorem blarge_pu (lim : Int) (l : List Pc) (c : Nat) (ho : orderB l = true) : Pu Tryz.prog 45 [.v (.int .i64 lim), .s 0 0 0 l.length c 2] [rPc l] (.v (.int .i64 (largT lim l l.length))) := by
  have hll := order_len ho
  refine pu_of_ex true [] mixed Tryz.call45 Tryz.func45 rfl Tryz.ntmps45 Tryz.results45 (by decide +kernel) rfl rfl rfl ?_
  refine sxo ?_
  try with_reducible exact trivial
  refine tr_loop mixed (by kernel_rfl) (fun (k : Nat) => [(10, .v (.int .i64 k)), (9, .v (.int .i64 l.length)), (8, .s 0 0 0 l.length c 2), (5, .v (.int .i64 (largT lim l k))), (0, .v (.int .i64 lim))]) (fun _ => [rPc l]) (fun k => k ≤ l.length) (fun k => l.length - k) 0 (Nat.zero_le _) (Mt.wk (rl := [0]) ⟨by kernel_rfl, ?_, ?_⟩) ?_
  · refine sxo ?_
    try with_reducible exact trivial
    rfl
  · refine sxo ?_
    try with_reducible exact trivial
  intro k hk
  have hr := larg_range (lim := lim) ho k hk
  refine sxo ?_
  try with_reducible exact trivial
  refine ⟨fun h => ?_, fun h => ?_⟩
  · have h2 := order_at ho (k := k) (by omega)
    have e1 : largT lim l (k + 1) = if lim < 2 * (ix l k).len then largT lim l k + (ix l k).cnt else largT lim l k := rfl
    repeat (with_reducible refine And.intro (by omega) ?_)
    refine ⟨fun h5 => ?_, fun h5 => ?_⟩
    · rw [if_pos h5] at e1
      repeat (with_reducible refine And.intro (by omega) ?_)
      refine lpK_normal (k + 1) [0] (by omega) (by omega) (by kernel_rfl) ?_ ?_
      · simp only [push_cast, ↓branch_true, ↓branch_false, Nat.reduceBEq, Nat.reduceAdd, Nat.reduceMul, Nat.reduceSub, Int.reduceToNat, reduceCtorEq, branch_decide, branch_not, branch_beq, branch_bne, e1]
      · refine sxo ?_
        try with_reducible exact trivial
    · rw [if_neg h5] at e1
      repeat (with_reducible refine And.intro (by omega) ?_)
      refine lpK_normal (k + 1) [0] (by omega) (by omega) (by kernel_rfl) ?_ ?_
      · simp only [push_cast, ↓branch_true, ↓branch_false, Nat.reduceBEq, Nat.reduceAdd, Nat.reduceMul, Nat.reduceSub, Int.reduceToNat, reduceCtorEq, branch_decide, branch_not, branch_beq, branch_bne, e1]
      · refine sxo ?_
        try with_reducible exact trivial
  · obtain rfl : k = l.length := by omega
    rfl
/-- A sum of parts, and what the parts are of. -/
def oPa (s K : Int) : Ob := ⟨158, false, .st [.v (.int .i64 s), .v (.int .i64 K)]⟩
attribute [push_cast] oPa
theorem add_sp (s K cnt num den : Int) (hd : den ≠ 0) (h0 : 0 ≤ cnt * num ∧ cnt * num ≤ 11534336000000) (h1 : -9223372036854775808 ≤ K.tdiv den ∧ K.tdiv den ≤ 9223372036854775807) (h2 : 0 ≤ cnt * num * K.tdiv den ∧ cnt * num * K.tdiv den ≤ 126877696000000) (h3 : 0 ≤ s ∧ s ≤ 4611686018427387904) :
    Sp Tryz.prog 87 [.p 0 0 0, .v (.int .i64 cnt), .v (.int .i64 num), .v (.int .i64 den)] [oPa s K] (fun r H => r = .t [] ∧ H = [oPa (s + cnt * num * K.tdiv den) K]) := by
  refine sp_weak ?_
  refine sp_of_ex true [(0, .one 0 (.one 1 (.one 2 (.one 4 (.one 5 (.one 6 (.one 7 (.one 8 (.one 9 (.one 11 (.alt [(3, .one 10 (.one 12 (.one 13 (.one 14 (.one 15 (.one 16 (.one 17 .fin))))))), (10, .one 12 (.one 13 (.one 3 (.one 14 (.one 15 (.one 16 (.one 17 .fin)))))))])))))))))))] mixed Tryz.call87 Tryz.func87 rfl Tryz.ntmps87 Tryz.results87 (by decide +kernel) rfl ?_
  refine sxo ?_
  try with_reducible exact trivial
  have key : ∃ r H2 rl, mt rl r (SV.t []) ∧ (keepB 0 rl 1 && nodupB (liveL rl H2) && rl.length.beq H2.length) = true ∧ obsM rl [oPa (s + cnt * num * K.tdiv den) K] rl H2 ∧ r = SV.t [] ∧ H2 = [oPa (s + cnt * num * K.tdiv den) K] := by
    refine ⟨_, _, [0], ?_, by kernel_rfl, ?_, rfl, rfl⟩
    · refine sxo ?_
      try with_reducible exact trivial
    · refine sxo ?_
      try with_reducible exact trivial
  exact ⟨by omega, ⟨hd, by omega, by omega, by omega, key⟩, hd, by omega, by omega, by omega, key⟩
theorem kk_div {k : Int} (hk : 1 ≤ k) : (k * (k + 1)).tdiv k = k + 1 ∧ (k * (k + 1)).tdiv (k + 1) = k := by
  constructor
  · exact Int.mul_tdiv_cancel_left _ (by omega)
  · exact Int.mul_tdiv_cancel _ (by omega)
set_option maxHeartbeats 1000000 in
theorem bdual_pu (lim k : Int) (l : List Pc) (c : Nat) (ho : orderB l = true) (h1 : 1 ≤ lim) (hk : 1 ≤ k ∧ k ≤ 10) : Pu Tryz.prog 46 [.v (.int .i64 lim), .s 0 0 0 l.length c 2, .v (.int .i64 k)] [rPc l] (.v (.int .i64 (dualR lim k l))) := by
  have hll := order_len ho
  have hkk := kk_range hk
  obtain ⟨hd1, hd2⟩ := kk_div hk.1
  refine pu_of_ex true [(7, .one 0 (.one 1 (.one 3 (.one 4 (.one 5 (.one 6 (.one 7 (.one 2 (.one 8 .fin))))))))), (8, .one 0 (.one 1 (.one 3 (.one 4 (.one 5 (.one 6 (.one 2 (.one 7 .fin)))))))), (10, .one 0 (.one 1 (.one 2 (.one 4 (.one 5 (.one 6 (.alt [(3, .one 7 (.one 8 (.one 9 .fin))), (7, .one 3 (.one 8 (.one 9 .fin)))])))))))] mixed Tryz.call46 Tryz.func46 rfl Tryz.ntmps46 Tryz.results46 (by decide +kernel) rfl rfl rfl ?_
  refine sxo ?_
  try with_reducible exact trivial
  repeat (with_reducible refine And.intro (by omega) ?_)
  generalize hK : k * (k + 1) = K at *
  refine tr_loop mixed (by kernel_rfl) (fun (j : Nat) => [(19, .v (.int .i64 j)), (18, .v (.int .i64 l.length)), (17, .s 0 0 0 l.length c 2), (7, .p 1 0 0), (0, .v (.int .i64 lim)), (2, .v (.int .i64 k))]) (fun j => [rPc l, oPa (dualT lim k l j) K]) (fun j => j ≤ l.length) (fun j => l.length - j) 0 (Nat.zero_le _) (Mt.wk (rl := [0, 1]) ⟨by kernel_rfl, ?_, ?_⟩) ?_
  · refine sxo ?_
    try with_reducible exact trivial
  · refine sxo ?_
    try with_reducible exact trivial
    exact rfl
  intro j hj
  have hr := dualT_range h1 hk ho j hj
  refine sxo ?_
  try with_reducible exact trivial
  refine ⟨fun h => ?_, fun h => ?_⟩
  · have hB := dual_bounds h1 hk (order_at ho (k := j) (by omega))
    have e1 : dualT lim k l (j + 1) = dualT lim k l j + dualI lim k (ix l j) := rfl
    obtain ⟨n0, n1, q0, q1, c0, c1, s0, s1, t0, t1⟩ := hB
    unfold dualI at e1
    generalize (k + 1) * (ix l j).len = n at *
    generalize hq : n.tdiv lim = q at *
    have hs3 : 0 ≤ dualT lim k l j ∧ dualT lim k l j ≤ 4611686018427387904 := by omega
    have ha := add_sp (dualT lim k l j) K (ix l j).cnt q (k + 1) (by omega) ⟨c0, c1⟩ (by rw [hd2]; omega) (by rw [hd2]; exact ⟨s0, s1⟩) hs3
    have hb := add_sp (dualT lim k l j) K (ix l j).cnt q k (by omega) ⟨c0, c1⟩ (by rw [hd1]; omega) (by rw [hd1]; exact ⟨t0, t1⟩) hs3
    rw [hd2] at ha
    rw [hd1] at hb
    repeat (with_reducible refine And.intro (by omega) ?_)
    refine ⟨fun h5 => ?_, fun h5 => ?_⟩
    · rw [if_pos h5] at e1
      repeat' (with_reducible (first | apply And.intro | intro _))
      all_goals try omega
      all_goals
        refine sp_at ha [1] rfl ?_ ?_ ?_
        · refine sxo ?_
          try with_reducible exact trivial
        · refine sxo ?_
          try with_reducible exact trivial
        rintro _ _ ⟨rfl, rfl⟩
        refine sxo ?_
        try with_reducible exact trivial
        repeat (with_reducible refine And.intro (by omega) ?_)
        refine lpK_normal (j + 1) [0, 1] (by omega) (by omega) (by kernel_rfl) ?_ ?_
        · refine sxo ?_
          try with_reducible exact trivial
        · simp only [push_cast, ↓branch_true, ↓branch_false, Nat.reduceBEq, Nat.reduceAdd, Nat.reduceMul, Nat.reduceSub, Int.reduceToNat, reduceCtorEq, branch_decide, branch_not, branch_beq, branch_bne, e1]
    · rw [if_neg h5] at e1
      repeat' (with_reducible (first | apply And.intro | intro _))
      all_goals try omega
      all_goals
        refine sp_at hb [1] rfl ?_ ?_ ?_
        · refine sxo ?_
          try with_reducible exact trivial
        · refine sxo ?_
          try with_reducible exact trivial
        rintro _ _ ⟨rfl, rfl⟩
        refine sxo ?_
        try with_reducible exact trivial
        repeat (with_reducible refine And.intro (by omega) ?_)
        refine lpK_normal (j + 1) [0, 1] (by omega) (by omega) (by kernel_rfl) ?_ ?_
        · refine sxo ?_
          try with_reducible exact trivial
        · simp only [push_cast, ↓branch_true, ↓branch_false, Nat.reduceBEq, Nat.reduceAdd, Nat.reduceMul, Nat.reduceSub, Int.reduceToNat, reduceCtorEq, branch_decide, branch_not, branch_beq, branch_bne, e1]
  · obtain rfl : j = l.length := by omega
    repeat (with_reducible refine And.intro (by omega) ?_)
    repeat' (with_reducible (first | apply And.intro | intro _))
    all_goals
      refine sp_call (bup_pu (dualT lim k l l.length) K (by omega) (by omega) (by omega) (by omega)) rfl [] rfl (by simp only [push_cast, ↓branch_true, ↓branch_false, Nat.reduceBEq, Nat.reduceAdd, Nat.reduceMul, Nat.reduceSub, Int.reduceToNat, reduceCtorEq, branch_decide, branch_not, branch_beq, branch_bne]) (by simp only [push_cast, ↓branch_true, ↓branch_false, Nat.reduceBEq, Nat.reduceAdd, Nat.reduceMul, Nat.reduceSub, Int.reduceToNat, reduceCtorEq, branch_decide, branch_not, branch_beq, branch_bne]) ?_
      refine sxo ?_
      try with_reducible exact trivial
      rw [← hK]
      rfl
theorem mat_nn {lim : Int} {l : List Pc} (ho : orderB l = true) (h1 : 1 ≤ lim) : 0 ≤ matR lim l := by
  have := (totL_range ho).1
  exact Int.tdiv_nonneg (by omega) (by omega)
def bF (lim : Int) (l : List Pc) : Nat → Int
  | 0 => 0
  | 1 => max 0 (matR lim l)
  | _ => max (max 0 (matR lim l)) (largT lim l l.length)
def nI : Nat → Int
  | 0 => 0
  | 1 => 1
  | _ => 2
def oFn : Ob := ⟨95, false, .row 1 1 (fun _ => 2) (fun _ => 2) (fun _ => rowF [.f (.func 44) [] [], .f (.func 45) [] []] 1)⟩
attribute [push_cast] oFn
theorem bbest_pu (lim : Int) (l : List Pc) (c : Nat) (hl : l.length ≤ 9223372036854775807) : Pu Tryz.prog 10 [.v (.int .i64 lim), .s 0 0 0 l.length c 2] [rPc l] (.t [.v (.int .i64 (if givE lim l = 0 then bestR lim l else 0)), .v (.int .i64 (givE lim l))]) := by
  refine pu_of_ex true [] mixed Tryz.call10 Tryz.func10 rfl Tryz.ntmps10 Tryz.results10 (by decide +kernel) rfl rfl rfl ?_
  refine sxo ?_
  try with_reducible exact trivial
  refine sp_call (bgiven_pu lim l c hl) rfl [0] rfl (by simp only [push_cast, ↓branch_true, ↓branch_false, Nat.reduceBEq, Nat.reduceAdd, Nat.reduceMul, Nat.reduceSub, Int.reduceToNat, reduceCtorEq, branch_decide, branch_not, branch_beq, branch_bne]) (by simp only [push_cast, ↓branch_true, ↓branch_false, Nat.reduceBEq, Nat.reduceAdd, Nat.reduceMul, Nat.reduceSub, Int.reduceToNat, reduceCtorEq, branch_decide, branch_not, branch_beq, branch_bne]) ?_
  refine sxo ?_
  try with_reducible exact trivial
  by_cases hg : givE lim l = 0
  rotate_left
  · rw [if_neg hg]
    refine sxo ?_
    try with_reducible exact trivial
    exact fun h => absurd h hg
  rw [if_pos hg, hg]
  obtain ⟨ho, h1, h2, _⟩ := givE_0 hg
  refine sxo ?_
  try with_reducible exact trivial
  intro _
  repeat (with_reducible refine And.intro (by omega) ?_)
  have hm0 := mat_nn ho h1
  have hfn : ∀ i : Nat, i < 1 → ∀ k : Nat, k < 2 → mtL [0, 1] (List.take 1 (List.drop (k * 1) [SV.f (Fn.func 44) [] [], SV.f (Fn.func 45) [] []])) (List.take 1 (List.drop (k * 1) [SV.f (Fn.func 44) [] [], SV.f (Fn.func 45) [] []])) := by
    intro _ _ k hk
    obtain rfl | rfl : k = 0 ∨ k = 1 := by omega
    · refine sxo ?_
      try with_reducible exact trivial
    · refine sxo ?_
      try with_reducible exact trivial
  refine tr_loop mixed (by kernel_rfl) (fun (k : Nat) => [(19, .v (.int .i64 (nI k))), (18, .v (.int .i64 2)), (17, .s 1 0 0 2 2 1), (7, .v (.int .i64 (bF lim l k))), (0, .v (.int .i64 lim)), (1, .s 0 0 0 l.length c 2)]) (fun _ => [rPc l, oFn]) (fun k => k ≤ 2) (fun k => 2 - k) 0 (Nat.zero_le _) (Mt.wk (rl := [0, 1]) ⟨by kernel_rfl, ?_, ?_⟩) ?_
  · refine sxo ?_
    try with_reducible exact trivial
    exact ⟨rfl, rfl, rfl⟩
  · refine sxo ?_
    try with_reducible exact trivial
    exact hfn
  intro k hk
  have n0 : nI 0 = 0 := rfl
  have n1 : nI 1 = 1 := rfl
  have n2 : nI 2 = 2 := rfl
  have b0 : bF lim l 0 = 0 := rfl
  have b1 : bF lim l 1 = max 0 (matR lim l) := rfl
  have b2 : bF lim l 2 = max (max 0 (matR lim l)) (largT lim l l.length) := rfl
  obtain rfl | rfl | rfl : k = 0 ∨ k = 1 ∨ k = 2 := by omega
  · simp only [push_cast, ↓branch_true, ↓branch_false, Nat.reduceBEq, Nat.reduceAdd, Nat.reduceMul, Nat.reduceSub, Int.reduceToNat, reduceCtorEq, branch_decide, branch_not, branch_beq, branch_bne, n0, b0]
    refine ⟨fun _ => ?_, fun h => absurd (by decide) h⟩
    repeat (with_reducible refine And.intro (by omega) ?_)
    refine sp_call (bmat_pu lim l c ho h1 h2) rfl [0] rfl ?_ ?_ ?_
    · refine sxo ?_
      try with_reducible exact trivial
    · refine sxo ?_
      try with_reducible exact trivial
    refine sxo ?_
    try with_reducible exact trivial
    repeat (with_reducible refine And.intro (by omega) ?_)
    refine lpK_normal 1 [0, 1] (by omega) (by omega) (by kernel_rfl) ?_ ?_
    · simp only [push_cast, ↓branch_true, ↓branch_false, Nat.reduceBEq, Nat.reduceAdd, Nat.reduceMul, Nat.reduceSub, Int.reduceToNat, reduceCtorEq, branch_decide, branch_not, branch_beq, branch_bne, n1, b1]
      rfl
    · refine sxo ?_
      try with_reducible exact trivial
      exact hfn
  · simp only [push_cast, ↓branch_true, ↓branch_false, Nat.reduceBEq, Nat.reduceAdd, Nat.reduceMul, Nat.reduceSub, Int.reduceToNat, reduceCtorEq, branch_decide, branch_not, branch_beq, branch_bne, n1, b1]
    refine ⟨fun _ => ?_, fun h => absurd (by decide) h⟩
    repeat (with_reducible refine And.intro (by omega) ?_)
    refine sp_call (blarge_pu lim l c ho) rfl [0] rfl ?_ ?_ ?_
    · refine sxo ?_
      try with_reducible exact trivial
    · refine sxo ?_
      try with_reducible exact trivial
    refine sxo ?_
    try with_reducible exact trivial
    repeat (with_reducible refine And.intro (by omega) ?_)
    refine lpK_normal 2 [0, 1] (by omega) (by omega) (by kernel_rfl) ?_ ?_
    · simp only [push_cast, ↓branch_true, ↓branch_false, Nat.reduceBEq, Nat.reduceAdd, Nat.reduceMul, Nat.reduceSub, Int.reduceToNat, reduceCtorEq, branch_decide, branch_not, branch_beq, branch_bne, n2, b2]
      rfl
    · refine sxo ?_
      try with_reducible exact trivial
      exact hfn
  simp only [push_cast, ↓branch_true, ↓branch_false, Nat.reduceBEq, Nat.reduceAdd, Nat.reduceMul, Nat.reduceSub, Int.reduceToNat, reduceCtorEq, branch_decide, branch_not, branch_beq, branch_bne, n2, b2]
  refine ⟨fun h => absurd h (by decide), fun _ => ?_⟩
  have e0 : max (max 0 (matR lim l)) (largT lim l l.length) = bestT lim l 0 := by
    rw [show max 0 (matR lim l) = matR lim l by omega]; rfl
  rw [e0]
  refine tr_loop mixed (by kernel_rfl) (fun (k : Nat) => [(10, .v (.int .i64 (k + 1 : Nat))), (7, .v (.int .i64 (bestT lim l k))), (0, .v (.int .i64 lim)), (1, .s 0 0 0 l.length c 2)]) (fun _ => [rPc l]) (fun k => k ≤ 10) (fun k => 10 - k) 0 (Nat.zero_le _) (Mt.wk (rl := [0]) ⟨by kernel_rfl, ?_, ?_⟩) ?_
  · refine sxo ?_
    try with_reducible exact trivial
    rfl
  · refine sxo ?_
    try with_reducible exact trivial
  intro k hk
  have e1 : bestT lim l (k + 1) = max (bestT lim l k) (dualR lim (k + 1 : Nat) l) := rfl
  refine sxo ?_
  try with_reducible exact trivial
  refine ⟨fun h => ?_, fun h => ?_⟩
  · refine sp_call (bdual_pu lim (k + 1 : Nat) l c ho h1 (by omega)) rfl [0] rfl (by simp only [push_cast, ↓branch_true, ↓branch_false, Nat.reduceBEq, Nat.reduceAdd, Nat.reduceMul, Nat.reduceSub, Int.reduceToNat, reduceCtorEq, branch_decide, branch_not, branch_beq, branch_bne]) (by simp only [push_cast, ↓branch_true, ↓branch_false, Nat.reduceBEq, Nat.reduceAdd, Nat.reduceMul, Nat.reduceSub, Int.reduceToNat, reduceCtorEq, branch_decide, branch_not, branch_beq, branch_bne]) ?_
    refine sxo ?_
    try with_reducible exact trivial
    repeat (with_reducible refine And.intro (by omega) ?_)
    refine lpK_normal (k + 1) [0] (by omega) (by omega) (by kernel_rfl) ?_ ?_
    · simp only [push_cast, ↓branch_true, ↓branch_false, Nat.reduceBEq, Nat.reduceAdd, Nat.reduceMul, Nat.reduceSub, Int.reduceToNat, reduceCtorEq, branch_decide, branch_not, branch_beq, branch_bne, e1]
    · refine sxo ?_
      try with_reducible exact trivial
  · obtain rfl : k = 10 := by omega
    rfl
end Go.Proofs.YtolioflblegneaaGreat
namespace Go.Proofs.YtolioflblegneaaGreat
open Go.RowKit
theorem beq_dec (a b : Int) : (a == b) = decide (a = b) := by
  by_cases h : a = b <;> simp [h]
theorem stB_lots {lim : Int} (h1 : 1 ≤ lim) (h2 : lim ≤ 1048576) : stB (lotS lim) = true := by
  refine stB_yes.2 ⟨by simp [lotS], fun k hk => ?_⟩
  obtain rfl : k = 0 := by simp [lotS] at hk; omega
  have e : ix (lotS lim) 0 = ⟨lim, -1⟩ := rfl
  unfold okS lenB
  rw [e]
  simp [h1, h2, lensL, hasI]
/-- Whether a plan is right, and uses as few lengths as the bound. -/
def provB (lim : Int) (l : List Pc) (p : List Pt) : Bool := rightB (lotS lim) l p && decide (timesT p p.length = bestR lim l)
theorem proved_pu (lim : Int) (l : List Pc) (p : List Pt) (cp : Nat → Nat) (N c c3 : Nat) (G : Nat → List Int) (hl : l.length ≤ 9223372036854775807) (hN : p.length ≤ N) (hG : ∀ k, k < p.length → G k = (ix p k).ps) (hg : ∀ k, k < p.length → (ix p k).ps.length ≤ 9223372036854775806) (hpl : p.length ≤ 9223372036854775807) :
    Pu Tryz.prog 16 [.v (.int .i64 lim), .s 0 0 0 l.length c 2, .s 1 0 0 p.length c3 3] [rPc l, rPt 2 p cp, rFm N G] (.t [.v (.bool (decide (givE lim l = 0) && provB lim l p)), .v (.int .i64 (givE lim l))]) := by
  refine pu_of_ex true [] mixed Tryz.call16 Tryz.func16 rfl Tryz.ntmps16 Tryz.results16 (by decide +kernel) rfl rfl rfl ?_
  refine sxo ?_
  try with_reducible exact trivial
  refine sp_call (bbest_pu lim l c hl) rfl [0] rfl (by simp only [push_cast, ↓branch_true, ↓branch_false, Nat.reduceBEq, Nat.reduceAdd, Nat.reduceMul, Nat.reduceSub, Int.reduceToNat, reduceCtorEq, branch_decide, branch_not, branch_beq, branch_bne]) (by simp only [push_cast, ↓branch_true, ↓branch_false, Nat.reduceBEq, Nat.reduceAdd, Nat.reduceMul, Nat.reduceSub, Int.reduceToNat, reduceCtorEq, branch_decide, branch_not, branch_beq, branch_bne]) ?_
  refine sxo ?_
  try with_reducible exact trivial
  by_cases hg0 : givE lim l = 0
  rotate_left
  · rw [if_neg hg0, decide_eq_false hg0]
    refine sxo ?_
    try with_reducible exact trivial
    exact fun h => absurd h hg0
  rw [if_pos hg0, hg0]
  obtain ⟨ho, h1, h2, _⟩ := givE_0 hg0
  refine sxo ?_
  try with_reducible exact trivial
  intro _
  repeat (with_reducible refine And.intro (by omega) ?_)
  have hs := stB_lots h1 h2
  rw [show decide True = true from rfl, Bool.true_and]
  refine sp_call (right_pu (lotS lim) l p cp N 1 c c3 G hs ho hN hG hg hpl) rfl [3, 0, 1, 2] rfl ?_ ?_ ?_
  · refine sxo ?_
    try with_reducible exact trivial
    rfl
  · refine sxo ?_
    try with_reducible exact trivial
    intro _ _
    refine ⟨Nat.le_refl _, fun k hk => ?_⟩
    obtain rfl : k = 0 := by simp [lotS] at hk; omega
    exact ⟨rfl, rfl, trivial⟩
  unfold provB
  cases hR : rightB (lotS lim) l p with
  | false =>
    refine sxo ?_
    try with_reducible exact trivial
  | true =>
  refine sxo ?_
  try with_reducible exact trivial
  refine sp_call (used_pu (lotS lim) p cp N 1 c3 G (show (1 : Nat) ≤ _ by decide) hpl) rfl [3, 1, 2] rfl ?_ ?_ ?_
  · refine sxo ?_
    try with_reducible exact trivial
    rfl
  · refine sxo ?_
    try with_reducible exact trivial
    intro _ _
    refine ⟨Nat.le_refl _, fun k hk => ?_⟩
    obtain rfl : k = 0 := by simp [lotS] at hk; omega
    exact ⟨rfl, rfl, trivial⟩
  have hE : usedE (lotS lim) p = 0 := by
    rw [usedE, if_neg (by simp [hs]), if_neg (by simp [(right_yes.1 hR).1])]
  have hn : usedN (lotS lim) p = timesT p p.length := if_pos hE
  rw [hE, hn]
  refine sxo ?_
  try with_reducible exact trivial
  rw [beq_dec]
end Go.Proofs.YtolioflblegneaaGreat
