/- Contracts: the program's bounds. -/
import Derived.Test.YthlpfjcjfhdmaaaZD
import Derived.Test.YthlpfjcjfhdmaaaVE
set_option maxRecDepth 100000
set_option linter.unusedSimpArgs false
set_option linter.unusedVariables false
namespace Go.Proofs.Ythlpfjcjfhdmaaa
open Go.RowKit
theorem over2_pu (l : List Pc) (lim : Int) (k : Nat) : Pu Try.prog 86 [.a (cPc (ix l k)), .p 1 0 0] [rPc l, oI lim] (.v (.bool (decide (lim < (ix l k).len)))) := by
  refine pu_of_ex true [] mixed Try.call86 Try.func86 rfl Try.ntmps86 Try.results86 (by decide +kernel) rfl rfl rfl ?_
  simp only [push_cast, ↓branch_true, ↓branch_false, Nat.reduceBEq, Nat.reduceAdd, Nat.reduceMul, Nat.reduceSub, Int.reduceToNat, reduceCtorEq, branch_decide, branch_not, branch_beq, branch_bne]
theorem bgiven_pu (lim : Int) (l : List Pc) (c : Nat) (hl : l.length ≤ 9223372036854775807) : Pu Try.prog 70 [.v (.int .i64 lim), .s 0 0 0 l.length c 2] [rPc l] (.v (.int .i64 (givE lim l))) := by
  unfold givE
  refine pu_of_ex true [] mixed Try.call70 Try.func70 rfl Try.ntmps70 Try.results70 (by decide +kernel) rfl rfl rfl ?_
  simp only [push_cast, ↓branch_true, ↓branch_false, Nat.reduceBEq, Nat.reduceAdd, Nat.reduceMul, Nat.reduceSub, Int.reduceToNat, reduceCtorEq, branch_decide, branch_not, branch_beq, branch_bne]
  refine sp_call (order_pu l c hl) rfl [0] rfl (by simp only [push_cast, ↓branch_true, ↓branch_false, Nat.reduceBEq, Nat.reduceAdd, Nat.reduceMul, Nat.reduceSub, Int.reduceToNat, reduceCtorEq, branch_decide, branch_not, branch_beq, branch_bne]) (by simp only [push_cast, ↓branch_true, ↓branch_false, Nat.reduceBEq, Nat.reduceAdd, Nat.reduceMul, Nat.reduceSub, Int.reduceToNat, reduceCtorEq, branch_decide, branch_not, branch_beq, branch_bne]) ?_
  simp only [push_cast, ↓branch_true, ↓branch_false, Nat.reduceBEq, Nat.reduceAdd, Nat.reduceMul, Nat.reduceSub, Int.reduceToNat, reduceCtorEq, branch_decide, branch_not, branch_beq, branch_bne]
  cases hvo : orderB l with
  | false =>
    simp only [push_cast, ↓branch_true, ↓branch_false, Nat.reduceBEq, Nat.reduceAdd, Nat.reduceMul, Nat.reduceSub, Int.reduceToNat, reduceCtorEq, branch_decide, branch_not, branch_beq, branch_bne]
    try rfl
  | true =>
  simp only [push_cast, ↓branch_true, ↓branch_false, Nat.reduceBEq, Nat.reduceAdd, Nat.reduceMul, Nat.reduceSub, Int.reduceToNat, reduceCtorEq, branch_decide, branch_not, branch_beq, branch_bne]
  refine ⟨fun h1 => by rw [if_pos (by omega)], fun h1 => ⟨fun h2 => by rw [if_pos (by omega)], fun h2 => ?_⟩⟩
  rw [if_neg (by omega)]
  refine sp_call (containsPc_pu l c 86 [] [.p 1 0 0] [oI lim] (fun p => decide (lim < p.len)) rfl hl fun x hx => ?_) rfl [0, 1] rfl ?_ ?_ ?_
  · obtain ⟨k, hk, rfl⟩ := List.getElem_of_mem hx
    have := over2_pu l lim k
    rwa [ix_eq hk] at this
  · simp only [push_cast, ↓branch_true, ↓branch_false, Nat.reduceBEq, Nat.reduceAdd, Nat.reduceMul, Nat.reduceSub, Int.reduceToNat, reduceCtorEq, branch_decide, branch_not, branch_beq, branch_bne]
  · simp only [push_cast, ↓branch_true, ↓branch_false, Nat.reduceBEq, Nat.reduceAdd, Nat.reduceMul, Nat.reduceSub, Int.reduceToNat, reduceCtorEq, branch_decide, branch_not, branch_beq, branch_bne]
  cases hany : l.any (fun p => decide (lim < p.len)) with
  | true =>
    simp only [push_cast, ↓branch_true, ↓branch_false, Nat.reduceBEq, Nat.reduceAdd, Nat.reduceMul, Nat.reduceSub, Int.reduceToNat, reduceCtorEq, branch_decide, branch_not, branch_beq, branch_bne]
    try rfl
  | false =>
    simp only [push_cast, ↓branch_true, ↓branch_false, Nat.reduceBEq, Nat.reduceAdd, Nat.reduceMul, Nat.reduceSub, Int.reduceToNat, reduceCtorEq, branch_decide, branch_not, branch_beq, branch_bne]
    try rfl
theorem bup_pu (n m : Int) (h0 : 0 ≤ n) (h1 : n ≤ 4611686018427387904) (h2 : 1 ≤ m) (h3 : m ≤ 4294967296) : Pu Try.prog 87 [.v (.int .i64 n), .v (.int .i64 m)] [] (.v (.int .i64 (upR n m))) := by
  refine pu_of_ex true [] mixed Try.call87 Try.func87 rfl Try.ntmps87 Try.results87 (by decide +kernel) rfl rfl rfl ?_
  simp only [push_cast, ↓branch_true, ↓branch_false, Nat.reduceBEq, Nat.reduceAdd, Nat.reduceMul, Nat.reduceSub, Int.reduceToNat, reduceCtorEq, branch_decide, branch_not, branch_beq, branch_bne]
  have a1 : 0 ≤ (n + m - 1).tdiv m := Int.tdiv_nonneg (by omega) (by omega)
  have a2 : (n + m - 1).tdiv m ≤ n + m - 1 := Int.tdiv_le_self _ (by omega)
  exact ⟨by omega, by omega, by omega, by omega, rfl⟩
theorem bmat_pu (lim : Int) (l : List Pc) (c : Nat) (ho : orderB l = true) (h1 : 1 ≤ lim) (h2 : lim ≤ 1048576) : Pu Try.prog 71 [.v (.int .i64 lim), .s 0 0 0 l.length c 2] [rPc l] (.v (.int .i64 (matR lim l))) := by
  obtain ⟨g1, g2⟩ := totL_range ho
  have hll := order_len ho
  refine pu_of_ex true [] mixed Try.call71 Try.func71 rfl Try.ntmps71 Try.results71 (by decide +kernel) rfl rfl rfl ?_
  simp only [push_cast, ↓branch_true, ↓branch_false, Nat.reduceBEq, Nat.reduceAdd, Nat.reduceMul, Nat.reduceSub, Int.reduceToNat, reduceCtorEq, branch_decide, branch_not, branch_beq, branch_bne]
  refine sp_call (total_pu l c (by omega)) rfl [0] rfl (by simp only [push_cast, ↓branch_true, ↓branch_false, Nat.reduceBEq, Nat.reduceAdd, Nat.reduceMul, Nat.reduceSub, Int.reduceToNat, reduceCtorEq, branch_decide, branch_not, branch_beq, branch_bne]) (by simp only [push_cast, ↓branch_true, ↓branch_false, Nat.reduceBEq, Nat.reduceAdd, Nat.reduceMul, Nat.reduceSub, Int.reduceToNat, reduceCtorEq, branch_decide, branch_not, branch_beq, branch_bne]) ?_
  simp only [push_cast, ↓branch_true, ↓branch_false, Nat.reduceBEq, Nat.reduceAdd, Nat.reduceMul, Nat.reduceSub, Int.reduceToNat, reduceCtorEq, branch_decide, branch_not, branch_beq, branch_bne]
  rw [ho]
  simp only [push_cast, ↓branch_true, ↓branch_false, Nat.reduceBEq, Nat.reduceAdd, Nat.reduceMul, Nat.reduceSub, Int.reduceToNat, reduceCtorEq, branch_decide, branch_not, branch_beq, branch_bne]
  refine sp_call (bup_pu (totL l) lim (by omega) (by omega) (by omega) (by omega)) rfl [] rfl (by simp only [push_cast, ↓branch_true, ↓branch_false, Nat.reduceBEq, Nat.reduceAdd, Nat.reduceMul, Nat.reduceSub, Int.reduceToNat, reduceCtorEq, branch_decide, branch_not, branch_beq, branch_bne]) (by simp only [push_cast, ↓branch_true, ↓branch_false, Nat.reduceBEq, Nat.reduceAdd, Nat.reduceMul, Nat.reduceSub, Int.reduceToNat, reduceCtorEq, branch_decide, branch_not, branch_beq, branch_bne]) ?_
  simp only [push_cast, ↓branch_true, ↓branch_false, Nat.reduceBEq, Nat.reduceAdd, Nat.reduceMul, Nat.reduceSub, Int.reduceToNat, reduceCtorEq, branch_decide, branch_not, branch_beq, branch_bne]
  rfl
theorem blarge_pu (lim : Int) (l : List Pc) (c : Nat) (ho : orderB l = true) : Pu Try.prog 72 [.v (.int .i64 lim), .s 0 0 0 l.length c 2] [rPc l] (.v (.int .i64 (largT lim l l.length))) := by
  have hll := order_len ho
  refine pu_of_ex true [] mixed Try.call72 Try.func72 rfl Try.ntmps72 Try.results72 (by decide +kernel) rfl rfl rfl ?_
  simp only [push_cast, ↓branch_true, ↓branch_false, Nat.reduceBEq, Nat.reduceAdd, Nat.reduceMul, Nat.reduceSub, Int.reduceToNat, reduceCtorEq, branch_decide, branch_not, branch_beq, branch_bne]
  refine tr_loop mixed (by kernel_rfl) (fun (k : Nat) => [(10, .v (.int .i64 k)), (9, .v (.int .i64 l.length)), (8, .s 0 0 0 l.length c 2), (5, .v (.int .i64 (largT lim l k))), (0, .v (.int .i64 lim))]) (fun _ => [rPc l]) (fun k => k ≤ l.length) (fun k => l.length - k) 0 (Nat.zero_le _) (Mt.wk (rl := [0]) ⟨by kernel_rfl, ?_, ?_⟩) ?_
  · simp only [push_cast, ↓branch_true, ↓branch_false, Nat.reduceBEq, Nat.reduceAdd, Nat.reduceMul, Nat.reduceSub, Int.reduceToNat, reduceCtorEq, branch_decide, branch_not, branch_beq, branch_bne]
    rfl
  · simp only [push_cast, ↓branch_true, ↓branch_false, Nat.reduceBEq, Nat.reduceAdd, Nat.reduceMul, Nat.reduceSub, Int.reduceToNat, reduceCtorEq, branch_decide, branch_not, branch_beq, branch_bne]
  intro k hk
  have hr := larg_range (lim := lim) ho k hk
  simp only [push_cast, ↓branch_true, ↓branch_false, Nat.reduceBEq, Nat.reduceAdd, Nat.reduceMul, Nat.reduceSub, Int.reduceToNat, reduceCtorEq, branch_decide, branch_not, branch_beq, branch_bne]
  refine ⟨fun h => ?_, fun h => ?_⟩
  · have h2 := order_at ho (k := k) (by omega)
    have e1 : largT lim l (k + 1) = if lim < 2 * (ix l k).len then largT lim l k + (ix l k).cnt else largT lim l k := rfl
    repeat (with_reducible refine And.intro (by omega) ?_)
    refine ⟨fun h5 => ?_, fun h5 => ?_⟩
    · rw [if_pos h5] at e1
      repeat (with_reducible refine And.intro (by omega) ?_)
      refine lpK_normal (k + 1) [0] (by omega) (by omega) (by kernel_rfl) ?_ ?_
      · simp only [push_cast, ↓branch_true, ↓branch_false, Nat.reduceBEq, Nat.reduceAdd, Nat.reduceMul, Nat.reduceSub, Int.reduceToNat, reduceCtorEq, branch_decide, branch_not, branch_beq, branch_bne, e1]
      · simp only [push_cast, ↓branch_true, ↓branch_false, Nat.reduceBEq, Nat.reduceAdd, Nat.reduceMul, Nat.reduceSub, Int.reduceToNat, reduceCtorEq, branch_decide, branch_not, branch_beq, branch_bne]
    · rw [if_neg h5] at e1
      repeat (with_reducible refine And.intro (by omega) ?_)
      refine lpK_normal (k + 1) [0] (by omega) (by omega) (by kernel_rfl) ?_ ?_
      · simp only [push_cast, ↓branch_true, ↓branch_false, Nat.reduceBEq, Nat.reduceAdd, Nat.reduceMul, Nat.reduceSub, Int.reduceToNat, reduceCtorEq, branch_decide, branch_not, branch_beq, branch_bne, e1]
      · simp only [push_cast, ↓branch_true, ↓branch_false, Nat.reduceBEq, Nat.reduceAdd, Nat.reduceMul, Nat.reduceSub, Int.reduceToNat, reduceCtorEq, branch_decide, branch_not, branch_beq, branch_bne]
  · obtain rfl : k = l.length := by omega
    rfl
/-- A sum of parts, and what the parts are of. -/
def oPa (s K : Int) : Ob := ⟨114, false, .st [.v (.int .i64 s), .v (.int .i64 K)]⟩
attribute [push_cast] oPa
theorem add_sp (s K cnt num den : Int) (hd : den ≠ 0) (h0 : 0 ≤ cnt * num ∧ cnt * num ≤ 11534336000000) (h1 : -9223372036854775808 ≤ K.tdiv den ∧ K.tdiv den ≤ 9223372036854775807) (h2 : 0 ≤ cnt * num * K.tdiv den ∧ cnt * num * K.tdiv den ≤ 126877696000000) (h3 : 0 ≤ s ∧ s ≤ 4611686018427387904) :
    Sp Try.prog 88 [.p 0 0 0, .v (.int .i64 cnt), .v (.int .i64 num), .v (.int .i64 den)] [oPa s K] (fun r H => r = .t [] ∧ H = [oPa (s + cnt * num * K.tdiv den) K]) := by
  refine sp_weak ?_
  refine sp_of_ex true [(0, .one 0 (.one 1 (.one 2 (.one 4 (.one 5 (.one 6 (.one 7 (.one 8 (.one 9 (.one 11 (.alt [(3, .one 10 (.one 12 (.one 13 (.one 14 (.one 15 (.one 16 (.one 17 .fin))))))), (10, .one 12 (.one 13 (.one 3 (.one 14 (.one 15 (.one 16 (.one 17 .fin)))))))])))))))))))] mixed Try.call88 Try.func88 rfl Try.ntmps88 Try.results88 (by decide +kernel) rfl ?_
  simp only [push_cast, ↓branch_true, ↓branch_false, Nat.reduceBEq, Nat.reduceAdd, Nat.reduceMul, Nat.reduceSub, Int.reduceToNat, reduceCtorEq, branch_decide, branch_not, branch_beq, branch_bne]
  have key : ∃ r H2 rl, mt rl r (SV.t []) ∧ (keepB 0 rl 1 && nodupB (liveL rl H2) && rl.length.beq H2.length) = true ∧ obsM rl [oPa (s + cnt * num * K.tdiv den) K] rl H2 ∧ r = SV.t [] ∧ H2 = [oPa (s + cnt * num * K.tdiv den) K] := by
    refine ⟨_, _, [0], ?_, by kernel_rfl, ?_, rfl, rfl⟩
    · simp only [push_cast, ↓branch_true, ↓branch_false, Nat.reduceBEq, Nat.reduceAdd, Nat.reduceMul, Nat.reduceSub, Int.reduceToNat, reduceCtorEq, branch_decide, branch_not, branch_beq, branch_bne]
    · simp only [push_cast, ↓branch_true, ↓branch_false, Nat.reduceBEq, Nat.reduceAdd, Nat.reduceMul, Nat.reduceSub, Int.reduceToNat, reduceCtorEq, branch_decide, branch_not, branch_beq, branch_bne]
  exact ⟨by omega, ⟨hd, by omega, by omega, by omega, key⟩, hd, by omega, by omega, by omega, key⟩
theorem kk_div {k : Int} (hk : 1 ≤ k) : (k * (k + 1)).tdiv k = k + 1 ∧ (k * (k + 1)).tdiv (k + 1) = k := by
  constructor
  · exact Int.mul_tdiv_cancel_left _ (by omega)
  · exact Int.mul_tdiv_cancel _ (by omega)
set_option maxHeartbeats 1000000 in
theorem bdual_pu (lim k : Int) (l : List Pc) (c : Nat) (ho : orderB l = true) (h1 : 1 ≤ lim) (hk : 1 ≤ k ∧ k ≤ 10) : Pu Try.prog 73 [.v (.int .i64 lim), .s 0 0 0 l.length c 2, .v (.int .i64 k)] [rPc l] (.v (.int .i64 (dualR lim k l))) := by
  have hll := order_len ho
  have hkk := kk_range hk
  obtain ⟨hd1, hd2⟩ := kk_div hk.1
  refine pu_of_ex true [(7, .one 0 (.one 1 (.one 3 (.one 4 (.one 5 (.one 6 (.one 7 (.one 2 (.one 8 .fin))))))))), (8, .one 0 (.one 1 (.one 3 (.one 4 (.one 5 (.one 6 (.one 2 (.one 7 .fin)))))))), (10, .one 0 (.one 1 (.one 2 (.one 4 (.one 5 (.one 6 (.alt [(3, .one 7 (.one 8 (.one 9 .fin))), (7, .one 3 (.one 8 (.one 9 .fin)))])))))))] mixed Try.call73 Try.func73 rfl Try.ntmps73 Try.results73 (by decide +kernel) rfl rfl rfl ?_
  simp only [push_cast, ↓branch_true, ↓branch_false, Nat.reduceBEq, Nat.reduceAdd, Nat.reduceMul, Nat.reduceSub, Int.reduceToNat, reduceCtorEq, branch_decide, branch_not, branch_beq, branch_bne]
  repeat (with_reducible refine And.intro (by omega) ?_)
  generalize hK : k * (k + 1) = K at *
  refine tr_loop mixed (by kernel_rfl) (fun (j : Nat) => [(19, .v (.int .i64 j)), (18, .v (.int .i64 l.length)), (17, .s 0 0 0 l.length c 2), (7, .p 1 0 0), (0, .v (.int .i64 lim)), (2, .v (.int .i64 k))]) (fun j => [rPc l, oPa (dualT lim k l j) K]) (fun j => j ≤ l.length) (fun j => l.length - j) 0 (Nat.zero_le _) (Mt.wk (rl := [0, 1]) ⟨by kernel_rfl, ?_, ?_⟩) ?_
  · simp only [push_cast, ↓branch_true, ↓branch_false, Nat.reduceBEq, Nat.reduceAdd, Nat.reduceMul, Nat.reduceSub, Int.reduceToNat, reduceCtorEq, branch_decide, branch_not, branch_beq, branch_bne]
  · simp only [push_cast, ↓branch_true, ↓branch_false, Nat.reduceBEq, Nat.reduceAdd, Nat.reduceMul, Nat.reduceSub, Int.reduceToNat, reduceCtorEq, branch_decide, branch_not, branch_beq, branch_bne]
    exact rfl
  intro j hj
  have hr := dualT_range h1 hk ho j hj
  simp only [push_cast, ↓branch_true, ↓branch_false, Nat.reduceBEq, Nat.reduceAdd, Nat.reduceMul, Nat.reduceSub, Int.reduceToNat, reduceCtorEq, branch_decide, branch_not, branch_beq, branch_bne]
  refine ⟨fun h => ?_, fun h => ?_⟩
  · have hB := dual_bounds h1 hk (order_at ho (k := j) (by omega))
    have e1 : dualT lim k l (j + 1) = dualT lim k l j + dualI lim k (ix l j) := rfl
    obtain ⟨n0, n1, q0, q1, c0, c1, s0, s1, t0, t1⟩ := hB
    unfold dualI at e1
    generalize (k + 1) * (ix l j).len = n at *
    generalize hq : n.tdiv lim = q at *
    have hs3 : 0 ≤ dualT lim k l j ∧ dualT lim k l j ≤ 4611686018427387904 := by omega
    have ha := add_sp (dualT lim k l j) K (ix l j).cnt q (k + 1) (by omega) ⟨c0, c1⟩ (by rw [hd2]; omega) (by rw [hd2]; exact ⟨s0, s1⟩) hs3
    have hb := add_sp (dualT lim k l j) K (ix l j).cnt q k (by omega) ⟨c0, c1⟩ (by rw [hd1]; omega) (by rw [hd1]; exact ⟨t0, t1⟩) hs3
    rw [hd2] at ha
    rw [hd1] at hb
    repeat (with_reducible refine And.intro (by omega) ?_)
    refine ⟨fun h5 => ?_, fun h5 => ?_⟩
    · rw [if_pos h5] at e1
      repeat' (with_reducible (first | apply And.intro | intro _))
      all_goals try omega
      all_goals
        refine sp_at ha [1] rfl ?_ ?_ ?_
        · simp only [push_cast, ↓branch_true, ↓branch_false, Nat.reduceBEq, Nat.reduceAdd, Nat.reduceMul, Nat.reduceSub, Int.reduceToNat, reduceCtorEq, branch_decide, branch_not, branch_beq, branch_bne]
        · simp only [push_cast, ↓branch_true, ↓branch_false, Nat.reduceBEq, Nat.reduceAdd, Nat.reduceMul, Nat.reduceSub, Int.reduceToNat, reduceCtorEq, branch_decide, branch_not, branch_beq, branch_bne]
        rintro _ _ ⟨rfl, rfl⟩
        simp only [push_cast, ↓branch_true, ↓branch_false, Nat.reduceBEq, Nat.reduceAdd, Nat.reduceMul, Nat.reduceSub, Int.reduceToNat, reduceCtorEq, branch_decide, branch_not, branch_beq, branch_bne]
        repeat (with_reducible refine And.intro (by omega) ?_)
        refine lpK_normal (j + 1) [0, 1] (by omega) (by omega) (by kernel_rfl) ?_ ?_
        · simp only [push_cast, ↓branch_true, ↓branch_false, Nat.reduceBEq, Nat.reduceAdd, Nat.reduceMul, Nat.reduceSub, Int.reduceToNat, reduceCtorEq, branch_decide, branch_not, branch_beq, branch_bne]
        · simp only [push_cast, ↓branch_true, ↓branch_false, Nat.reduceBEq, Nat.reduceAdd, Nat.reduceMul, Nat.reduceSub, Int.reduceToNat, reduceCtorEq, branch_decide, branch_not, branch_beq, branch_bne, e1]
    · rw [if_neg h5] at e1
      repeat' (with_reducible (first | apply And.intro | intro _))
      all_goals try omega
      all_goals
        refine sp_at hb [1] rfl ?_ ?_ ?_
        · simp only [push_cast, ↓branch_true, ↓branch_false, Nat.reduceBEq, Nat.reduceAdd, Nat.reduceMul, Nat.reduceSub, Int.reduceToNat, reduceCtorEq, branch_decide, branch_not, branch_beq, branch_bne]
        · simp only [push_cast, ↓branch_true, ↓branch_false, Nat.reduceBEq, Nat.reduceAdd, Nat.reduceMul, Nat.reduceSub, Int.reduceToNat, reduceCtorEq, branch_decide, branch_not, branch_beq, branch_bne]
        rintro _ _ ⟨rfl, rfl⟩
        simp only [push_cast, ↓branch_true, ↓branch_false, Nat.reduceBEq, Nat.reduceAdd, Nat.reduceMul, Nat.reduceSub, Int.reduceToNat, reduceCtorEq, branch_decide, branch_not, branch_beq, branch_bne]
        repeat (with_reducible refine And.intro (by omega) ?_)
        refine lpK_normal (j + 1) [0, 1] (by omega) (by omega) (by kernel_rfl) ?_ ?_
        · simp only [push_cast, ↓branch_true, ↓branch_false, Nat.reduceBEq, Nat.reduceAdd, Nat.reduceMul, Nat.reduceSub, Int.reduceToNat, reduceCtorEq, branch_decide, branch_not, branch_beq, branch_bne]
        · simp only [push_cast, ↓branch_true, ↓branch_false, Nat.reduceBEq, Nat.reduceAdd, Nat.reduceMul, Nat.reduceSub, Int.reduceToNat, reduceCtorEq, branch_decide, branch_not, branch_beq, branch_bne, e1]
  · obtain rfl : j = l.length := by omega
    repeat (with_reducible refine And.intro (by omega) ?_)
    repeat' (with_reducible (first | apply And.intro | intro _))
    all_goals
      refine sp_call (bup_pu (dualT lim k l l.length) K (by omega) (by omega) (by omega) (by omega)) rfl [] rfl (by simp only [push_cast, ↓branch_true, ↓branch_false, Nat.reduceBEq, Nat.reduceAdd, Nat.reduceMul, Nat.reduceSub, Int.reduceToNat, reduceCtorEq, branch_decide, branch_not, branch_beq, branch_bne]) (by simp only [push_cast, ↓branch_true, ↓branch_false, Nat.reduceBEq, Nat.reduceAdd, Nat.reduceMul, Nat.reduceSub, Int.reduceToNat, reduceCtorEq, branch_decide, branch_not, branch_beq, branch_bne]) ?_
      simp only [push_cast, ↓branch_true, ↓branch_false, Nat.reduceBEq, Nat.reduceAdd, Nat.reduceMul, Nat.reduceSub, Int.reduceToNat, reduceCtorEq, branch_decide, branch_not, branch_beq, branch_bne]
      rw [← hK]
      rfl
theorem mat_nn {lim : Int} {l : List Pc} (ho : orderB l = true) (h1 : 1 ≤ lim) : 0 ≤ matR lim l := by
  have := (totL_range ho).1
  exact Int.tdiv_nonneg (by omega) (by omega)
def bF (lim : Int) (l : List Pc) : Nat → Int
  | 0 => 0
  | 1 => max 0 (matR lim l)
  | _ => max (max 0 (matR lim l)) (largT lim l l.length)
def nI : Nat → Int
  | 0 => 0
  | 1 => 1
  | _ => 2
def oFn : Ob := ⟨37, false, .row 1 1 (fun _ => 2) (fun _ => 2) (fun _ => rowF [.f (.func 71) [] [], .f (.func 72) [] []] 1)⟩
attribute [push_cast] oFn
theorem bbest_pu (lim : Int) (l : List Pc) (c : Nat) (hl : l.length ≤ 9223372036854775807) : Pu Try.prog 42 [.v (.int .i64 lim), .s 0 0 0 l.length c 2] [rPc l] (.t [.v (.int .i64 (if givE lim l = 0 then bestR lim l else 0)), .v (.int .i64 (givE lim l))]) := by
  refine pu_of_ex true [] mixed Try.call42 Try.func42 rfl Try.ntmps42 Try.results42 (by decide +kernel) rfl rfl rfl ?_
  simp only [push_cast, ↓branch_true, ↓branch_false, Nat.reduceBEq, Nat.reduceAdd, Nat.reduceMul, Nat.reduceSub, Int.reduceToNat, reduceCtorEq, branch_decide, branch_not, branch_beq, branch_bne]
  refine sp_call (bgiven_pu lim l c hl) rfl [0] rfl (by simp only [push_cast, ↓branch_true, ↓branch_false, Nat.reduceBEq, Nat.reduceAdd, Nat.reduceMul, Nat.reduceSub, Int.reduceToNat, reduceCtorEq, branch_decide, branch_not, branch_beq, branch_bne]) (by simp only [push_cast, ↓branch_true, ↓branch_false, Nat.reduceBEq, Nat.reduceAdd, Nat.reduceMul, Nat.reduceSub, Int.reduceToNat, reduceCtorEq, branch_decide, branch_not, branch_beq, branch_bne]) ?_
  simp only [push_cast, ↓branch_true, ↓branch_false, Nat.reduceBEq, Nat.reduceAdd, Nat.reduceMul, Nat.reduceSub, Int.reduceToNat, reduceCtorEq, branch_decide, branch_not, branch_beq, branch_bne]
  by_cases hg : givE lim l = 0
  rotate_left
  · rw [if_neg hg]
    simp only [push_cast, ↓branch_true, ↓branch_false, Nat.reduceBEq, Nat.reduceAdd, Nat.reduceMul, Nat.reduceSub, Int.reduceToNat, reduceCtorEq, branch_decide, branch_not, branch_beq, branch_bne]
    exact fun h => absurd h hg
  rw [if_pos hg, hg]
  obtain ⟨ho, h1, h2, _⟩ := givE_0 hg
  simp only [push_cast, ↓branch_true, ↓branch_false, Nat.reduceBEq, Nat.reduceAdd, Nat.reduceMul, Nat.reduceSub, Int.reduceToNat, reduceCtorEq, branch_decide, branch_not, branch_beq, branch_bne]
  intro _
  repeat (with_reducible refine And.intro (by omega) ?_)
  have hm0 := mat_nn ho h1
  have hfn : ∀ i : Nat, i < 1 → ∀ k : Nat, k < 2 → mtL [0, 1] (List.take 1 (List.drop (k * 1) [SV.f (Fn.func 71) [] [], SV.f (Fn.func 72) [] []])) (List.take 1 (List.drop (k * 1) [SV.f (Fn.func 71) [] [], SV.f (Fn.func 72) [] []])) := by
    intro _ _ k hk
    obtain rfl | rfl : k = 0 ∨ k = 1 := by omega
    · simp only [push_cast, ↓branch_true, ↓branch_false, Nat.reduceBEq, Nat.reduceAdd, Nat.reduceMul, Nat.reduceSub, Int.reduceToNat, reduceCtorEq, branch_decide, branch_not, branch_beq, branch_bne]
    · simp only [push_cast, ↓branch_true, ↓branch_false, Nat.reduceBEq, Nat.reduceAdd, Nat.reduceMul, Nat.reduceSub, Int.reduceToNat, reduceCtorEq, branch_decide, branch_not, branch_beq, branch_bne]
  refine tr_loop mixed (by kernel_rfl) (fun (k : Nat) => [(19, .v (.int .i64 (nI k))), (18, .v (.int .i64 2)), (17, .s 1 0 0 2 2 1), (7, .v (.int .i64 (bF lim l k))), (0, .v (.int .i64 lim)), (1, .s 0 0 0 l.length c 2)]) (fun _ => [rPc l, oFn]) (fun k => k ≤ 2) (fun k => 2 - k) 0 (Nat.zero_le _) (Mt.wk (rl := [0, 1]) ⟨by kernel_rfl, ?_, ?_⟩) ?_
  · simp only [push_cast, ↓branch_true, ↓branch_false, Nat.reduceBEq, Nat.reduceAdd, Nat.reduceMul, Nat.reduceSub, Int.reduceToNat, reduceCtorEq, branch_decide, branch_not, branch_beq, branch_bne]
    exact ⟨rfl, rfl, rfl⟩
  · simp only [push_cast, ↓branch_true, ↓branch_false, Nat.reduceBEq, Nat.reduceAdd, Nat.reduceMul, Nat.reduceSub, Int.reduceToNat, reduceCtorEq, branch_decide, branch_not, branch_beq, branch_bne]
    exact hfn
  intro k hk
  have n0 : nI 0 = 0 := rfl
  have n1 : nI 1 = 1 := rfl
  have n2 : nI 2 = 2 := rfl
  have b0 : bF lim l 0 = 0 := rfl
  have b1 : bF lim l 1 = max 0 (matR lim l) := rfl
  have b2 : bF lim l 2 = max (max 0 (matR lim l)) (largT lim l l.length) := rfl
  obtain rfl | rfl | rfl : k = 0 ∨ k = 1 ∨ k = 2 := by omega
  · simp only [push_cast, ↓branch_true, ↓branch_false, Nat.reduceBEq, Nat.reduceAdd, Nat.reduceMul, Nat.reduceSub, Int.reduceToNat, reduceCtorEq, branch_decide, branch_not, branch_beq, branch_bne, n0, b0]
    refine ⟨fun _ => ?_, fun h => absurd (by decide) h⟩
    repeat (with_reducible refine And.intro (by omega) ?_)
    refine sp_call (bmat_pu lim l c ho h1 h2) rfl [0] rfl ?_ ?_ ?_
    · simp only [push_cast, ↓branch_true, ↓branch_false, Nat.reduceBEq, Nat.reduceAdd, Nat.reduceMul, Nat.reduceSub, Int.reduceToNat, reduceCtorEq, branch_decide, branch_not, branch_beq, branch_bne]
    · simp only [push_cast, ↓branch_true, ↓branch_false, Nat.reduceBEq, Nat.reduceAdd, Nat.reduceMul, Nat.reduceSub, Int.reduceToNat, reduceCtorEq, branch_decide, branch_not, branch_beq, branch_bne]
    simp only [push_cast, ↓branch_true, ↓branch_false, Nat.reduceBEq, Nat.reduceAdd, Nat.reduceMul, Nat.reduceSub, Int.reduceToNat, reduceCtorEq, branch_decide, branch_not, branch_beq, branch_bne]
    repeat (with_reducible refine And.intro (by omega) ?_)
    refine lpK_normal 1 [0, 1] (by omega) (by omega) (by kernel_rfl) ?_ ?_
    · simp only [push_cast, ↓branch_true, ↓branch_false, Nat.reduceBEq, Nat.reduceAdd, Nat.reduceMul, Nat.reduceSub, Int.reduceToNat, reduceCtorEq, branch_decide, branch_not, branch_beq, branch_bne, n1, b1]
      rfl
    · simp only [push_cast, ↓branch_true, ↓branch_false, Nat.reduceBEq, Nat.reduceAdd, Nat.reduceMul, Nat.reduceSub, Int.reduceToNat, reduceCtorEq, branch_decide, branch_not, branch_beq, branch_bne]
      exact hfn
  · simp only [push_cast, ↓branch_true, ↓branch_false, Nat.reduceBEq, Nat.reduceAdd, Nat.reduceMul, Nat.reduceSub, Int.reduceToNat, reduceCtorEq, branch_decide, branch_not, branch_beq, branch_bne, n1, b1]
    refine ⟨fun _ => ?_, fun h => absurd (by decide) h⟩
    repeat (with_reducible refine And.intro (by omega) ?_)
    refine sp_call (blarge_pu lim l c ho) rfl [0] rfl ?_ ?_ ?_
    · simp only [push_cast, ↓branch_true, ↓branch_false, Nat.reduceBEq, Nat.reduceAdd, Nat.reduceMul, Nat.reduceSub, Int.reduceToNat, reduceCtorEq, branch_decide, branch_not, branch_beq, branch_bne]
    · simp only [push_cast, ↓branch_true, ↓branch_false, Nat.reduceBEq, Nat.reduceAdd, Nat.reduceMul, Nat.reduceSub, Int.reduceToNat, reduceCtorEq, branch_decide, branch_not, branch_beq, branch_bne]
    simp only [push_cast, ↓branch_true, ↓branch_false, Nat.reduceBEq, Nat.reduceAdd, Nat.reduceMul, Nat.reduceSub, Int.reduceToNat, reduceCtorEq, branch_decide, branch_not, branch_beq, branch_bne]
    repeat (with_reducible refine And.intro (by omega) ?_)
    refine lpK_normal 2 [0, 1] (by omega) (by omega) (by kernel_rfl) ?_ ?_
    · simp only [push_cast, ↓branch_true, ↓branch_false, Nat.reduceBEq, Nat.reduceAdd, Nat.reduceMul, Nat.reduceSub, Int.reduceToNat, reduceCtorEq, branch_decide, branch_not, branch_beq, branch_bne, n2, b2]
      rfl
    · simp only [push_cast, ↓branch_true, ↓branch_false, Nat.reduceBEq, Nat.reduceAdd, Nat.reduceMul, Nat.reduceSub, Int.reduceToNat, reduceCtorEq, branch_decide, branch_not, branch_beq, branch_bne]
      exact hfn
  simp only [push_cast, ↓branch_true, ↓branch_false, Nat.reduceBEq, Nat.reduceAdd, Nat.reduceMul, Nat.reduceSub, Int.reduceToNat, reduceCtorEq, branch_decide, branch_not, branch_beq, branch_bne, n2, b2]
  refine ⟨fun h => absurd h (by decide), fun _ => ?_⟩
  have e0 : max (max 0 (matR lim l)) (largT lim l l.length) = bestT lim l 0 := by
    rw [show max 0 (matR lim l) = matR lim l by omega]; rfl
  rw [e0]
  refine tr_loop mixed (by kernel_rfl) (fun (k : Nat) => [(10, .v (.int .i64 (k + 1 : Nat))), (7, .v (.int .i64 (bestT lim l k))), (0, .v (.int .i64 lim)), (1, .s 0 0 0 l.length c 2)]) (fun _ => [rPc l]) (fun k => k ≤ 10) (fun k => 10 - k) 0 (Nat.zero_le _) (Mt.wk (rl := [0]) ⟨by kernel_rfl, ?_, ?_⟩) ?_
  · simp only [push_cast, ↓branch_true, ↓branch_false, Nat.reduceBEq, Nat.reduceAdd, Nat.reduceMul, Nat.reduceSub, Int.reduceToNat, reduceCtorEq, branch_decide, branch_not, branch_beq, branch_bne]
    rfl
  · simp only [push_cast, ↓branch_true, ↓branch_false, Nat.reduceBEq, Nat.reduceAdd, Nat.reduceMul, Nat.reduceSub, Int.reduceToNat, reduceCtorEq, branch_decide, branch_not, branch_beq, branch_bne]
  intro k hk
  have e1 : bestT lim l (k + 1) = max (bestT lim l k) (dualR lim (k + 1 : Nat) l) := rfl
  simp only [push_cast, ↓branch_true, ↓branch_false, Nat.reduceBEq, Nat.reduceAdd, Nat.reduceMul, Nat.reduceSub, Int.reduceToNat, reduceCtorEq, branch_decide, branch_not, branch_beq, branch_bne]
  refine ⟨fun h => ?_, fun h => ?_⟩
  · refine sp_call (bdual_pu lim (k + 1 : Nat) l c ho h1 (by omega)) rfl [0] rfl (by simp only [push_cast, ↓branch_true, ↓branch_false, Nat.reduceBEq, Nat.reduceAdd, Nat.reduceMul, Nat.reduceSub, Int.reduceToNat, reduceCtorEq, branch_decide, branch_not, branch_beq, branch_bne]) (by simp only [push_cast, ↓branch_true, ↓branch_false, Nat.reduceBEq, Nat.reduceAdd, Nat.reduceMul, Nat.reduceSub, Int.reduceToNat, reduceCtorEq, branch_decide, branch_not, branch_beq, branch_bne]) ?_
    simp only [push_cast, ↓branch_true, ↓branch_false, Nat.reduceBEq, Nat.reduceAdd, Nat.reduceMul, Nat.reduceSub, Int.reduceToNat, reduceCtorEq, branch_decide, branch_not, branch_beq, branch_bne]
    repeat (with_reducible refine And.intro (by omega) ?_)
    refine lpK_normal (k + 1) [0] (by omega) (by omega) (by kernel_rfl) ?_ ?_
    · simp only [push_cast, ↓branch_true, ↓branch_false, Nat.reduceBEq, Nat.reduceAdd, Nat.reduceMul, Nat.reduceSub, Int.reduceToNat, reduceCtorEq, branch_decide, branch_not, branch_beq, branch_bne, e1]
    · simp only [push_cast, ↓branch_true, ↓branch_false, Nat.reduceBEq, Nat.reduceAdd, Nat.reduceMul, Nat.reduceSub, Int.reduceToNat, reduceCtorEq, branch_decide, branch_not, branch_beq, branch_bne]
  · obtain rfl : k = 10 := by omega
    rfl
end Go.Proofs.Ythlpfjcjfhdmaaa
