/- Contracts: artificial, cost, reduced. -/
import Derived.Test.YtdeaaonppokgkaaGreatF
set_option maxRecDepth 100000
set_option linter.unusedSimpArgs false
set_option linter.unusedVariables false
namespace Go.Proofs.YtdeaaonppokgkaaGreat
open Go.RowKit Lp
def artF (q : Fm) (s : Tabl) (j : Nat) (k : Nat) : Int := if q.F ≤ s.b k then s.T k j else 0
theorem sm_bound {f : Nat → Int} {B : Nat} : ∀ {n : Nat}, (∀ k, k < n → (f k).natAbs ≤ B) → (sm n f).natAbs ≤ n * B
  | 0, _ => by simp [sm]
  | n + 1, h => by
    have h1 := sm_bound (n := n) fun k hk => h k (by omega)
    have h2 := h n (by omega)
    rw [sm, Nat.succ_mul]
    omega
theorem sm_small {f : Nat → Int} {n m : Nat} (hn : n ≤ m) (hm : m ≤ 6) (h : ∀ k, k < m → (f k).natAbs ≤ 144115188075855872) : (sm n f).natAbs ≤ 1152921504606846976 := by
  have := sm_bound (n := n) fun k hk => h k (by omega)
  have h2 : n * 144115188075855872 ≤ 6 * 144115188075855872 := Nat.mul_le_mul_right _ (by omega)
  omega
set_option maxHeartbeats 8000000 in
theorem artificial_pu (q : Fm) (s : Tabl) (j : Nat) (hj : j < q.R + 1) (hS : Sml q s) : Pu Tryz.prog 91 [.p 0 0 0, .v (.int .i64 (j : Nat))] (tbR q s.d s.T s.b) (.v (.int .i64 (sm q.m (artF q s j)))) := by
  have hm := hS.m
  have hR := hS.R
  have hsm := fun n (hn : n ≤ q.m) => sm_small hn hm (f := artF q s j) fun k hk => by unfold artF; split <;> first | exact hS.T k j hk hj | decide
  refine pu_of_ex true [] mixed Tryz.call91 Tryz.func91 rfl Tryz.ntmps91 Tryz.results91 (by decide +kernel) rfl rfl rfl ?_
  refine sxq ?_
  try with_reducible exact trivial
  repeat (with_reducible refine And.intro (by omega) ?_)
  refine tr_loop0 mixed (by kernel_rfl) (fun (i : Nat) => [(13, .v (.int .i64 i)), (12, .v (.int .i64 q.m)), (11, .s 1 0 0 q.m q.cc 1), (5, .v (.int .i64 (sm i (artF q s j)))), (0, .p 0 0 0), (1, .v (.int .i64 j))]) (fun i => i ≤ q.m) (fun i => q.m - i) 0 (Nat.zero_le _) ?_ ?_
  · refine sxq ?_
    try with_reducible exact trivial
    rfl
  intro i hi
  refine sxq ?_
  try with_reducible exact trivial
  refine ⟨fun h1 => ?_, fun h1 => ?_⟩
  · have him : i < q.m := by omega
    have h2 := hsm i hi
    have h3 := hsm (i + 1) him
    have hn : sm (i + 1) (artF q s j) = sm i (artF q s j) + if q.F ≤ s.b i then s.T i j else 0 := rfl
    repeat (with_reducible refine And.intro (by omega) ?_)
    refine ⟨fun h4 => ?_, fun h4 => ?_⟩
    · rw [if_pos (by omega)] at hn
      repeat (with_reducible refine And.intro (by omega) ?_)
      refine lp0_normal (i + 1) (by omega) (by omega) ?_
      simp only [push_cast, ↓branch_true, ↓branch_false, Nat.reduceBEq, Nat.reduceAdd, Nat.reduceMul, Nat.reduceSub, Int.reduceToNat, reduceCtorEq, Int.reduceAdd, Int.reduceEq, Int.reduceLE, Int.reduceLT, Nat.reduceLT, Nat.reduceLeDiff, hn]
    · rw [if_neg (by omega), Int.add_zero] at hn
      repeat (with_reducible refine And.intro (by omega) ?_)
      refine lp0_normal (i + 1) (by omega) (by omega) ?_
      simp only [push_cast, ↓branch_true, ↓branch_false, Nat.reduceBEq, Nat.reduceAdd, Nat.reduceMul, Nat.reduceSub, Int.reduceToNat, reduceCtorEq, Int.reduceAdd, Int.reduceEq, Int.reduceLE, Int.reduceLT, Nat.reduceLT, Nat.reduceLeDiff, hn]
  · obtain rfl : i = q.m := by omega
    repeat (with_reducible refine And.intro (by omega) ?_)
    rfl
theorem cost_pu (q : Fm) (s : Tabl) (j : Nat) (hj : j < 1000) (hn : q.n ≤ 1000) : Pu Tryz.prog 58 [.p 0 0 0, .v (.int .i64 (j : Nat))] (tbR q s.d s.T s.b) (.v (.int .i64 (cqo q j))) := by
  refine pu_of_ex true [] mixed Tryz.call58 Tryz.func58 rfl Tryz.ntmps58 Tryz.results58 (by decide +kernel) rfl rfl rfl ?_
  refine sxq ?_
  try with_reducible exact trivial
  repeat (with_reducible refine And.intro (by omega) ?_)
  refine ⟨fun h => ?_, fun h => ?_⟩
  · rw [cqo, if_pos (by omega)]
    repeat (with_reducible refine And.intro (by omega) ?_)
    rfl
  · rw [cqo, if_neg (by omega)]
def redF (q : Fm) (s : Tabl) (j : Nat) (k : Nat) : Int := cqo q (s.b k) * s.T k j
set_option maxHeartbeats 8000000 in
theorem reduced_pu (q : Fm) (s : Tabl) (j : Nat) (hj : j < q.R + 1) (hS : Sml q s) : Pu Tryz.prog 94 [.p 0 0 0, .v (.int .i64 (j : Nat))] (tbR q s.d s.T s.b) (.v (.int .i64 (cqo q j * s.d - sm q.m (redF q s j)))) := by
  have hm := hS.m
  have hR := hS.R
  have hsm := fun n (hn : n ≤ q.m) => sm_small hn hm (f := redF q s j) fun k hk => hS.cT k j hk hj
  have hcd := hS.cd j
  refine pu_of_ex true [] mixed Tryz.call94 Tryz.func94 rfl Tryz.ntmps94 Tryz.results94 (by decide +kernel) rfl rfl rfl ?_
  refine sxq ?_
  try with_reducible exact trivial
  repeat (with_reducible refine And.intro (by omega) ?_)
  refine qc_c (cost_pu q s j (by omega) (by have := hS.n; omega)) rfl [0, 1, 2, 3, 4, 5] ?_
  refine sxq ?_
  try with_reducible exact trivial
  repeat (with_reducible refine And.intro (by omega) ?_)
  refine tr_loop0 mixed (by kernel_rfl) (fun (i : Nat) => [(21, .v (.int .i64 i)), (20, .v (.int .i64 q.m)), (19, .s 1 0 0 q.m q.cc 1), (5, .v (.int .i64 (cqo q j * s.d - sm i (redF q s j)))), (0, .p 0 0 0), (1, .v (.int .i64 j))]) (fun i => i ≤ q.m) (fun i => q.m - i) 0 (Nat.zero_le _) ?_ ?_
  · refine sxq ?_
    try with_reducible exact trivial
    exact vi (by simp [sm])
  intro i hi
  refine sxq ?_
  try with_reducible exact trivial
  refine ⟨fun h1 => ?_, fun h1 => ?_⟩
  · have him : i < q.m := by omega
    have h2 := hsm i hi
    have h3 := hsm (i + 1) him
    have h4 := hS.cT i j him hj
    have h5 := hS.b i him
    have hn : sm (i + 1) (redF q s j) = sm i (redF q s j) + cqo q (s.b i) * s.T i j := rfl
    repeat (with_reducible refine And.intro (by omega) ?_)
    refine qc_c (cost_pu q s (s.b i) (by omega) (by have := hS.n; omega)) rfl [0, 1, 2, 3, 4, 5] ?_
    refine sxq ?_
    try with_reducible exact trivial
    repeat (with_reducible refine And.intro (by omega) ?_)
    refine lp0_normal (i + 1) (by omega) (by omega) ?_
    simp only [push_cast, ↓branch_true, ↓branch_false, Nat.reduceBEq, Nat.reduceAdd, Nat.reduceMul, Nat.reduceSub, Int.reduceToNat, reduceCtorEq, Int.reduceAdd, Int.reduceEq, Int.reduceLE, Int.reduceLT, Nat.reduceLT, Nat.reduceLeDiff, hn]
    exact vi (by omega)
  · obtain rfl : i = q.m := by omega
    repeat (with_reducible refine And.intro (by omega) ?_)
    rfl
/-- A fraction. -/
def frV (n d : Int) : SV := .a [.v (.int .i64 n), .v (.int .i64 d)]
attribute [push_cast] frV
/-- What signed returns. -/
def sgN (neg : Bool) (n d : Nat) : Int := if n ≤ 1152921504606846976 ∧ d ≤ 1152921504606846976 then (bif neg then -(n : Int) else n) else 0
def sgD (n d : Nat) : Int := if n ≤ 1152921504606846976 ∧ d ≤ 1152921504606846976 then d else 0
def sgE (n d : Nat) : Int := if n ≤ 1152921504606846976 ∧ d ≤ 1152921504606846976 then 0 else 5
def sgR (neg : Bool) (n d : Nat) : SV := .t [frV (sgN neg n d) (sgD n d), .v (.int .i64 (sgE n d))]
attribute [push_cast] sgR
theorem tuple_eq {a b c d : Int} {e : SV} (h : a = b) (h2 : c = d) : SV.t [SV.a [SV.v (.int .i64 a), SV.v (.int .i64 c)], e] = SV.t [SV.a [SV.v (.int .i64 b), SV.v (.int .i64 d)], e] := by rw [h, h2]
theorem signed_pu (neg : Bool) (n d : Nat) (hn : n < 18446744073709551616) (hd : d < 18446744073709551616) : Pu Tryz.prog 48 [.v (.bool neg), .v (.int .u64 n), .v (.int .u64 d)] [] (sgR neg n d) := by
  by_cases hs : n ≤ 1152921504606846976 ∧ d ≤ 1152921504606846976
  · unfold sgR sgN sgD sgE
    simp only [if_pos hs]
    obtain ⟨h1, h2⟩ := hs
    cases neg with
    | true =>
      refine pu_of_ex true [] mixed Tryz.call48 Tryz.func48 rfl Tryz.ntmps48 Tryz.results48 (by decide +kernel) rfl rfl rfl ?_
      refine sxq ?_
      try with_reducible exact trivial
      refine ⟨fun h => absurd h (by omega), fun _ => ⟨fun h => absurd h (by omega), fun _ => ?_⟩⟩
      repeat (with_reducible refine And.intro (by omega) ?_)
      exact tuple_eq (by simp) rfl
    | false =>
      refine pu_of_ex true [] mixed Tryz.call48 Tryz.func48 rfl Tryz.ntmps48 Tryz.results48 (by decide +kernel) rfl rfl rfl ?_
      refine sxq ?_
      try with_reducible exact trivial
      refine ⟨fun h => absurd h (by omega), fun _ => ⟨fun h => absurd h (by omega), fun _ => ?_⟩⟩
      omega
  · unfold sgR sgN sgD sgE
    simp only [if_neg hs]
    cases neg with
    | true =>
      refine pu_of_ex true [] mixed Tryz.call48 Tryz.func48 rfl Tryz.ntmps48 Tryz.results48 (by decide +kernel) rfl rfl rfl ?_
      refine sxq ?_
      try with_reducible exact trivial
      exact fun h h2 => absurd ⟨by omega, by omega⟩ hs
    | false =>
      refine pu_of_ex true [] mixed Tryz.call48 Tryz.func48 rfl Tryz.ntmps48 Tryz.results48 (by decide +kernel) rfl rfl rfl ?_
      refine sxq ?_
      try with_reducible exact trivial
      exact fun h h2 => absurd ⟨by omega, by omega⟩ hs
theorem make_pu (n : Int) (d : Nat) (hn : n.natAbs ≤ 9223372036854775807) (hd : d ≤ 9223372036854775807) (h0 : 0 < d) : Pu Tryz.prog 19 [.v (.int .i64 n), .v (.int .i64 d)] [] (sgR (decide (n < 0)) (n.natAbs / Nat.gcd n.natAbs d) (d / Nat.gcd n.natAbs d)) := by
  have hg : 0 < Nat.gcd n.natAbs d := Nat.gcd_pos_of_pos_right _ h0
  have hg1 : Nat.gcd n.natAbs d ≤ d := Nat.gcd_le_right _ h0
  have e1 : ((d : Int)).natAbs = d := rfl
  have q1 := Nat.div_le_self n.natAbs (Nat.gcd n.natAbs d)
  have q2 := Nat.div_le_self d (Nat.gcd n.natAbs d)
  have hs := signed_pu (decide (n < 0)) (n.natAbs / Nat.gcd n.natAbs d) (d / Nat.gcd n.natAbs d) (by omega) (by omega)
  have hx : (decide (n < 0)) = (decide (n ≠ 0) && (decide (n < 0) != false)) := by rw [Bool.eq_iff_iff]; simp; omega
  refine pu_of_ex true [] mixed Tryz.call19 Tryz.func19 rfl Tryz.ntmps19 Tryz.results19 (by decide +kernel) rfl rfl rfl ?_
  refine sxq ?_
  try with_reducible exact trivial
  refine ⟨fun h => absurd h (by omega), fun _ => ?_⟩
  refine sp_c (size_pu n (by omega)) rfl [] ?_
  refine sxq ?_
  try with_reducible exact trivial
  refine sp_c (size_pu (d : Int) (by omega)) rfl [] ?_
  refine sxq ?_
  try with_reducible exact trivial
  rw [e1]
  refine sp_c (gcd_pu n.natAbs d (by omega) (by omega)) rfl [] ?_
  refine sxq ?_
  try with_reducible exact trivial
  generalize Nat.gcd n.natAbs d = g at *
  have t1 : ((n.natAbs : Nat) : Int).tdiv (g : Int) = ((n.natAbs / g : Nat) : Int) := (Int.ofNat_tdiv _ _).symm
  have t2 : ((d : Nat) : Int).tdiv (g : Int) = ((d / g : Nat) : Int) := (Int.ofNat_tdiv _ _).symm
  rw [t1, t2]
  clear t1 t2
  generalize n.natAbs / g = N at *
  generalize d / g = D at *
  refine ⟨fun h => ?_, fun h => ?_⟩
  · rw [decide_eq_false (by omega)] at hs ⊢
    repeat (with_reducible refine And.intro (by omega) ?_)
    refine qc_c (hs) rfl [] ?_
    refine sxq ?_
    try with_reducible exact trivial
  · repeat (with_reducible refine And.intro (by omega) ?_)
    have hdn : decide ((d : Int) < 0) = false := decide_eq_false (by omega)
    rw [hdn]
    by_cases h2 : n < 0
    · rw [decide_eq_true h2] at hs ⊢
      rw [show (true != false) = true from rfl]
      refine qc_c (hs) rfl [] ?_
      refine sxq ?_
      try with_reducible exact trivial
    · rw [decide_eq_false h2] at hs ⊢
      rw [show (false != false) = false from rfl]
      refine qc_c (hs) rfl [] ?_
      refine sxq ?_
      try with_reducible exact trivial
theorem part_pu (q : Fm) (s : Tabl) (n : Int) (hn : n.natAbs ≤ 1152921504606846976) (hS : Sml q s) : Pu Tryz.prog 59 [.p 0 0 0, .v (.int .i64 n)] (tbR q s.d s.T s.b) (frV (sgN (decide (n < 0)) (n.natAbs / Nat.gcd n.natAbs s.d.toNat) (s.d.toNat / Nat.gcd n.natAbs s.d.toNat)) (sgD (n.natAbs / Nat.gcd n.natAbs s.d.toNat) (s.d.toNat / Nat.gcd n.natAbs s.d.toNat))) := by
  have hd := hS.d
  have hm := make_pu n s.d.toNat (by omega) (by omega) (by omega)
  rw [Int.toNat_of_nonneg (by omega)] at hm
  refine pu_of_ex true [] mixed Tryz.call59 Tryz.func59 rfl Tryz.ntmps59 Tryz.results59 (by decide +kernel) rfl rfl rfl ?_
  refine sxq ?_
  try with_reducible exact trivial
  refine sp_c (hm) rfl [] ?_
  refine sxq ?_
  try with_reducible exact trivial
end Go.Proofs.YtdeaaonppokgkaaGreat
