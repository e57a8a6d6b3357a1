/- BoundUnder: patterns that are given, what they cut, and the walk. -/
import Derived.Test.YtdeaaonppokgkaaT9
import Derived.Test.YtdeaaonppokgkaaBC
import Derived.Test.YtdeaaonppokgkaaBF
set_option maxRecDepth 100000
set_option linter.unusedSimpArgs false
set_option linter.unusedVariables false
namespace Go.Proofs.Ytdeaaonppokgkaa.Pat
open Go.RowKit
/-- A list of patterns, members of family j. -/
def rPs (j : Nat) (P : List (List Int)) (cp : Nat → Nat) : Ob := ⟨23, true, .row 1 1 (fun _ => P.length) (fun _ => 0) (fun _ k => [.s j k 0 (ix P k).length (cp k) 1])⟩
/-- Bytes. -/
def rBy (ts : List Int) : Ob := ⟨5, true, .row 1 1 (fun _ => ts.length) (fun _ => 0) (fun _ k => [.v (.int .u8 (ix ts k))])⟩
attribute [push_cast] rPs rBy
theorem len29_pu (P : List (List Int)) (cp : Nat → Nat) (a c : Nat) : Pu Try.prog 29 [.s 1 a 0 (ix P a).length c 1] [rPs 1 P cp, rLL P] (.v (.bool (decide ((10 : Int) < (ix P a).length)))) := by
  refine pu_of_ex true [] mixed Try.call29 Try.func29 rfl Try.ntmps29 Try.results29 (by decide +kernel) rfl rfl rfl ?_
  simp only [push_cast, ↓branch_true, ↓branch_false, Nat.reduceBEq, Nat.reduceAdd, Nat.reduceMul, Nat.reduceSub, Int.reduceToNat, reduceCtorEq, Int.reduceAdd, Int.reduceEq, Int.reduceLE, Int.reduceLT, Nat.reduceLT, Nat.reduceLeDiff]
theorem idx52_pu (P : List (List Int)) (cp : Nat → Nat) (c : Nat) (hl : P.length ≤ 9223372036854775807) : Pu Try.prog 28 [.s 0 0 0 P.length c 1, .f (.func 29) [] []] [rPs 1 P cp, rLL P] (.v (.bool (P.any fun p => decide (10 < p.length)))) := by
  have h52 : ∃ i : Int, Pu Try.prog 52 [.s 0 0 0 P.length c 1, .f (.func 29) [] []] [rPs 1 P cp, rLL P] (.v (.int .i64 i)) ∧ decide (0 ≤ i) = (P.any fun p => decide (10 < p.length)) := by
    by_cases h : ∃ k, k < P.length ∧ 10 < (ix P k).length ∧ ∀ j, j < k → ¬ 10 < (ix P j).length
    · obtain ⟨k0, hk0, hb, hn⟩ := h
      refine ⟨k0, ?_, ?_⟩
      · refine pu_of_ex true [] mixed Try.call52 Try.func52 rfl Try.ntmps52 Try.results52 (by decide +kernel) rfl rfl rfl ?_
        simp only [push_cast, ↓branch_true, ↓branch_false, Nat.reduceBEq, Nat.reduceAdd, Nat.reduceMul, Nat.reduceSub, Int.reduceToNat, reduceCtorEq, Int.reduceAdd, Int.reduceEq, Int.reduceLE, Int.reduceLT, Nat.reduceLT, Nat.reduceLeDiff]
        refine tr_loop0 mixed (by kernel_rfl) (fun (k : Nat) => [(8, .v (.int .i64 k)), (7, .v (.int .i64 P.length)), (0, .s 0 0 0 P.length c 1), (1, .f (.func 29) [] [])]) (fun k => k ≤ k0) (fun k => k0 + 1 - k) 0 (Nat.zero_le _) ?_ ?_
        · simp only [push_cast, ↓branch_true, ↓branch_false, Nat.reduceBEq, Nat.reduceAdd, Nat.reduceMul, Nat.reduceSub, Int.reduceToNat, reduceCtorEq, Int.reduceAdd, Int.reduceEq, Int.reduceLE, Int.reduceLT, Nat.reduceLT, Nat.reduceLeDiff]
        intro k hk
        simp only [push_cast, ↓branch_true, ↓branch_false, Nat.reduceBEq, Nat.reduceAdd, Nat.reduceMul, Nat.reduceSub, Int.reduceToNat, reduceCtorEq, Int.reduceAdd, Int.reduceEq, Int.reduceLE, Int.reduceLT, Nat.reduceLT, Nat.reduceLeDiff]
        refine ⟨fun h1 => ?_, fun h1 => absurd h1 (by omega)⟩
        repeat (with_reducible refine And.intro (by omega) ?_)
        refine sp_pu (by simpa only [push_cast] using len29_pu P cp k (cp k)) ?_
        simp only [push_cast, ↓branch_true, ↓branch_false, Nat.reduceBEq, Nat.reduceAdd, Nat.reduceMul, Nat.reduceSub, Int.reduceToNat, reduceCtorEq, Int.reduceAdd, Int.reduceEq, Int.reduceLE, Int.reduceLT, Nat.reduceLT, Nat.reduceLeDiff]
        refine ⟨fun h5 => ?_, fun h5 => ?_⟩
        · by_cases e : k = k0
          · subst e
            rfl
          · exact absurd (hn k (by omega)) (by omega)
        · repeat (with_reducible refine And.intro (by omega) ?_)
          by_cases e : k = k0
          · subst e
            omega
          refine lp0_normal (k + 1) (by omega) (by omega) ?_
          simp only [push_cast, ↓branch_true, ↓branch_false, Nat.reduceBEq, Nat.reduceAdd, Nat.reduceMul, Nat.reduceSub, Int.reduceToNat, reduceCtorEq, Int.reduceAdd, Int.reduceEq, Int.reduceLE, Int.reduceLT, Nat.reduceLT, Nat.reduceLeDiff]
      · rw [decide_eq_true (by omega)]
        exact (List.any_eq_true.2 ⟨_, ix_mem hk0, decide_eq_true hb⟩).symm
    · have hn : ∀ k, k < P.length → ¬ 10 < (ix P k).length := by
        intro k
        induction k using Nat.strongRecOn with
        | _ k ih => exact fun hk hb => h ⟨k, hk, hb, fun j hj => ih j hj (by omega)⟩
      refine ⟨-1, ?_, ?_⟩
      · refine pu_of_ex true [] mixed Try.call52 Try.func52 rfl Try.ntmps52 Try.results52 (by decide +kernel) rfl rfl rfl ?_
        simp only [push_cast, ↓branch_true, ↓branch_false, Nat.reduceBEq, Nat.reduceAdd, Nat.reduceMul, Nat.reduceSub, Int.reduceToNat, reduceCtorEq, Int.reduceAdd, Int.reduceEq, Int.reduceLE, Int.reduceLT, Nat.reduceLT, Nat.reduceLeDiff]
        refine tr_loop0 mixed (by kernel_rfl) (fun (k : Nat) => [(8, .v (.int .i64 k)), (7, .v (.int .i64 P.length)), (0, .s 0 0 0 P.length c 1), (1, .f (.func 29) [] [])]) (fun k => k ≤ P.length) (fun k => P.length - k) 0 (Nat.zero_le _) ?_ ?_
        · simp only [push_cast, ↓branch_true, ↓branch_false, Nat.reduceBEq, Nat.reduceAdd, Nat.reduceMul, Nat.reduceSub, Int.reduceToNat, reduceCtorEq, Int.reduceAdd, Int.reduceEq, Int.reduceLE, Int.reduceLT, Nat.reduceLT, Nat.reduceLeDiff]
        intro k hk
        simp only [push_cast, ↓branch_true, ↓branch_false, Nat.reduceBEq, Nat.reduceAdd, Nat.reduceMul, Nat.reduceSub, Int.reduceToNat, reduceCtorEq, Int.reduceAdd, Int.reduceEq, Int.reduceLE, Int.reduceLT, Nat.reduceLT, Nat.reduceLeDiff]
        intro h1
        repeat (with_reducible refine And.intro (by omega) ?_)
        refine sp_pu (by simpa only [push_cast] using len29_pu P cp k (cp k)) ?_
        simp only [push_cast, ↓branch_true, ↓branch_false, Nat.reduceBEq, Nat.reduceAdd, Nat.reduceMul, Nat.reduceSub, Int.reduceToNat, reduceCtorEq, Int.reduceAdd, Int.reduceEq, Int.reduceLE, Int.reduceLT, Nat.reduceLT, Nat.reduceLeDiff]
        have hk9 := hn k (by omega)
        refine ⟨fun h5 => absurd hk9 (by omega), fun h5 => ?_⟩
        repeat (with_reducible refine And.intro (by omega) ?_)
        refine lp0_normal (k + 1) (by omega) (by omega) ?_
        simp only [push_cast, ↓branch_true, ↓branch_false, Nat.reduceBEq, Nat.reduceAdd, Nat.reduceMul, Nat.reduceSub, Int.reduceToNat, reduceCtorEq, Int.reduceAdd, Int.reduceEq, Int.reduceLE, Int.reduceLT, Nat.reduceLT, Nat.reduceLeDiff]
      · rw [decide_eq_false (by omega)]
        symm
        rw [List.any_eq_false]
        intro x hx
        obtain ⟨k, hk, rfl⟩ := List.getElem_of_mem hx
        have := hn k hk
        rw [ix_eq hk] at this
        simpa using this
  obtain ⟨i, h1, h2⟩ := h52
  refine pu_of_ex true [] mixed Try.call28 Try.func28 rfl Try.ntmps28 Try.results28 (by decide +kernel) rfl rfl rfl ?_
  simp only [push_cast, ↓branch_true, ↓branch_false, Nat.reduceBEq, Nat.reduceAdd, Nat.reduceMul, Nat.reduceSub, Int.reduceToNat, reduceCtorEq, Int.reduceAdd, Int.reduceEq, Int.reduceLE, Int.reduceLT, Nat.reduceLT, Nat.reduceLeDiff]
  refine sp_pu (by simpa only [push_cast] using h1) ?_
  simp only [push_cast, ↓branch_true, ↓branch_false, Nat.reduceBEq, Nat.reduceAdd, Nat.reduceMul, Nat.reduceSub, Int.reduceToNat, reduceCtorEq, Int.reduceAdd, Int.reduceEq, Int.reduceLE, Int.reduceLT, Nat.reduceLT, Nat.reduceLeDiff]
  rw [← h2]
end Go.Proofs.Ytdeaaonppokgkaa.Pat
namespace Go.Proofs.Ytdeaaonppokgkaa.Pat
open Go.RowKit
/-- How many lengths the first j patterns use. -/
def useT (ts : List Int) : Nat → Int
  | 0 => 0
  | j + 1 => useT ts j + ix ts j
/-- How many pieces of line k the first j patterns have. -/
def sumT (P : List (List Int)) (ts : List Int) (k : Nat) : Nat → Int
  | 0 => 0
  | j + 1 => sumT P ts k j + ix (ix P j) k * ix ts j
def okP (lim : Int) (l : List Pc) (P : List (List Int)) (ts : List Int) (j : Nat) : Prop := givenE lim l l.length = 0 ∧ (leftO lim l (ix P j)).isSome = true ∧ j < ts.length ∧ (ix P j).length = l.length
structure CutOk (lim : Int) (l : List Pc) (P : List (List Int)) (ts : List Int) : Prop where
  pat : ∀ j, j < P.length → okP lim l P ts j
  cnt : ∀ k, k < l.length → (ix l k).cnt ≤ sumT P ts k P.length
theorem left_in : ∀ {lim : Int} {l : List Pc} {ns : List Int}, (leftO lim l ns).isSome = true → ∀ k, k < l.length → k < ns.length → 0 ≤ ix ns k ∧ ix ns k ≤ (ix l k).cnt
  | lim, [], _, _, k, h, _ => absurd h (by simp)
  | lim, _ :: _, [], _, k, _, h => absurd h (by simp)
  | lim, p :: l, n :: ns, h, k, h1, h2 => by
    rw [leftO] at h
    split at h
    · cases h
    · rename_i hc
      cases k with
      | zero =>
        show 0 ≤ n ∧ n ≤ p.cnt
        omega
      | succ k => exact left_in h k (by simpa using h1) (by simpa using h2)
theorem use_rng {ts : List Int} (ht : ∀ k, k < ts.length → 0 ≤ ix ts k ∧ ix ts k ≤ 255) : ∀ j, j ≤ ts.length → 0 ≤ useT ts j ∧ useT ts j ≤ 255 * j
  | 0, _ => by simp [useT]
  | j + 1, h => by
    have := use_rng ht j (by omega)
    have := ht j (by omega)
    unfold useT
    omega
/-- A row of the sums. -/
def oSm (l : List Pc) (f : Nat → Int) : Ob := ⟨3, false, .row 1 1 (fun _ => l.length) (fun _ => l.length) (fun _ k => [.v (.int .i64 (f k))])⟩
attribute [push_cast] oSm
def midT (P : List (List Int)) (ts : List Int) (j q k : Nat) : Int := if k < q then sumT P ts k (j + 1) else sumT P ts k j
theorem midT_0 {P : List (List Int)} {ts : List Int} {j k : Nat} : midT P ts j 0 k = sumT P ts k j := if_neg (Nat.not_lt_zero k)
theorem midT_q {P : List (List Int)} {ts : List Int} {j q : Nat} : midT P ts j q q = sumT P ts q j := if_neg (Nat.lt_irrefl q)
theorem midT_end {P : List (List Int)} {ts : List Int} {j q k : Nat} (h : k < q) : midT P ts j q k = sumT P ts k (j + 1) := if_pos h
theorem sum_rng {lim : Int} {l : List Pc} {P : List (List Int)} {ts : List Int} {j : Nat} (ho : orderB l = true) (hn : ∀ i, i < j → okP lim l P ts i) (ht : ∀ k, k < ts.length → 0 ≤ ix ts k ∧ ix ts k ≤ 255) (k : Nat) (hk : k < l.length) : ∀ i, i ≤ j → 0 ≤ sumT P ts k i ∧ sumT P ts k i ≤ 255000000 * i
  | 0, _ => by simp [sumT]
  | i + 1, h => by
    have ih := sum_rng ho hn ht k hk i (by omega)
    obtain ⟨_, b, c, d⟩ := hn i (by omega)
    have hi := left_in b k hk (by omega)
    have ho2 := order_at ho hk
    have htt := ht i c
    have := mulB hi.1 (show ix (ix P i) k ≤ 1000000 by omega) htt.1 htt.2
    unfold sumT
    omega
set_option maxHeartbeats 4000000 in
theorem cut_sp (lim : Int) (l : List Pc) (P : List (List Int)) (ts : List Int) (cp : Nat → Nat) (c c1 c3 : Nat) (hl : l.length ≤ 200) (hP : P.length ≤ 20) (ht : ∀ k, k < ts.length → 0 ≤ ix ts k ∧ ix ts k ≤ 255) (htl : ts.length ≤ 1000) :
    Sp Try.prog 30 [.v (.int .i64 lim), .s 0 0 0 l.length c 2, .s 1 0 0 P.length c1 1, .s 3 0 0 ts.length c3 1] [rPc l, rPs 2 P cp, rLL P, rBy ts] (fun r H => (r = .t [.v (.int .i64 0), .v (.bool false)] ∨ (CutOk lim l P ts ∧ r = .t [.v (.int .i64 (useT ts P.length)), .v (.bool true)])) ∧ H = [rPc l, rPs 2 P cp, rLL P, rBy ts]) := by
  refine sp_weak ?_
  refine sp_of_ex true [] mixed Try.call30 Try.func30 rfl Try.ntmps30 Try.results30 (by decide +kernel) rfl ?_
  simp only [push_cast, ↓branch_true, ↓branch_false, Nat.reduceBEq, Nat.reduceAdd, Nat.reduceMul, Nat.reduceSub, Int.reduceToNat, reduceCtorEq, Int.reduceAdd, Int.reduceEq, Int.reduceLE, Int.reduceLT, Nat.reduceLT, Nat.reduceLeDiff]
  repeat (with_reducible refine And.intro (by omega) ?_)
  refine tr_loop mixed (by kernel_rfl) (fun (j : Nat) => [(25, .v (.int .i64 j)), (24, .v (.int .i64 P.length)), (23, .s 1 0 0 P.length c1 1), (11, .v (.int .i64 (useT ts j))), (10, .s 4 0 0 l.length l.length 1), (0, .v (.int .i64 lim)), (1, .s 0 0 0 l.length c 2), (3, .s 3 0 0 ts.length c3 1)])
    (fun j => [rPc l, rPs 2 P cp, rLL P, rBy ts, oSm l (fun k => sumT P ts k j)]) (fun j => j ≤ P.length ∧ ∀ i, i < j → okP lim l P ts i) (fun j => P.length - j) 0 ⟨Nat.zero_le _, fun i h => by omega⟩ (Mt.wk (rl := [0, 1, 2, 3, 4]) ⟨by kernel_rfl, ?_, ?_⟩) ?_
  · simp only [push_cast, ↓branch_true, ↓branch_false, Nat.reduceBEq, Nat.reduceAdd, Nat.reduceMul, Nat.reduceSub, Int.reduceToNat, reduceCtorEq, Int.reduceAdd, Int.reduceEq, Int.reduceLE, Int.reduceLT, Nat.reduceLT, Nat.reduceLeDiff]
    rfl
  · simp only [push_cast, ↓branch_true, ↓branch_false, Nat.reduceBEq, Nat.reduceAdd, Nat.reduceMul, Nat.reduceSub, Int.reduceToNat, reduceCtorEq, Int.reduceAdd, Int.reduceEq, Int.reduceLE, Int.reduceLT, Nat.reduceLT, Nat.reduceLeDiff]
    try exact fun _ _ _ _ => rfl
  rintro j ⟨hj, hn⟩
  simp only [push_cast, ↓branch_true, ↓branch_false, Nat.reduceBEq, Nat.reduceAdd, Nat.reduceMul, Nat.reduceSub, Int.reduceToNat, reduceCtorEq, Int.reduceAdd, Int.reduceEq, Int.reduceLE, Int.reduceLT, Nat.reduceLT, Nat.reduceLeDiff]
  refine ⟨fun h1 => ?_, fun h1 => ?_⟩
  · repeat (with_reducible refine And.intro (by omega) ?_)
    refine sp_call (validM_pu lim l P j c (cp j) (by omega) (by omega)) rfl [0, 2] rfl ?_ ?_ ?_
    · simp only [push_cast, ↓branch_true, ↓branch_false, Nat.reduceBEq, Nat.reduceAdd, Nat.reduceMul, Nat.reduceSub, Int.reduceToNat, reduceCtorEq, Int.reduceAdd, Int.reduceEq, Int.reduceLE, Int.reduceLT, Nat.reduceLT, Nat.reduceLeDiff]
    · simp only [push_cast, ↓branch_true, ↓branch_false, Nat.reduceBEq, Nat.reduceAdd, Nat.reduceMul, Nat.reduceSub, Int.reduceToNat, reduceCtorEq, Int.reduceAdd, Int.reduceEq, Int.reduceLE, Int.reduceLT, Nat.reduceLT, Nat.reduceLeDiff]
    unfold validV
    by_cases hgv : givenE lim l ((ix P j).length : Nat) = 0
    rotate_left
    · simp only [push_cast, ↓branch_true, ↓branch_false, Nat.reduceBEq, Nat.reduceAdd, Nat.reduceMul, Nat.reduceSub, Int.reduceToNat, reduceCtorEq, Int.reduceAdd, Int.reduceEq, Int.reduceLE, Int.reduceLT, Nat.reduceLT, Nat.reduceLeDiff]
      refine ⟨fun h => absurd h hgv, fun _ => ?_⟩
      refine ⟨_, _, [0, 1, 2, 3], ?_, by kernel_rfl, ?_, .inl rfl, rfl⟩
      · simp only [push_cast, ↓branch_true, ↓branch_false, Nat.reduceBEq, Nat.reduceAdd, Nat.reduceMul, Nat.reduceSub, Int.reduceToNat, reduceCtorEq, Int.reduceAdd, Int.reduceEq, Int.reduceLE, Int.reduceLT, Nat.reduceLT, Nat.reduceLeDiff]
      · simp only [push_cast, ↓branch_true, ↓branch_false, Nat.reduceBEq, Nat.reduceAdd, Nat.reduceMul, Nat.reduceSub, Int.reduceToNat, reduceCtorEq, Int.reduceAdd, Int.reduceEq, Int.reduceLE, Int.reduceLT, Nat.reduceLT, Nat.reduceLeDiff]
    obtain ⟨ho, g1, g2, g3⟩ := given_0 hgv
    rw [hgv]
    cases hlo : (leftO lim l (ix P j)).isSome with
    | false =>
      simp only [push_cast, ↓branch_true, ↓branch_false, Nat.reduceBEq, Nat.reduceAdd, Nat.reduceMul, Nat.reduceSub, Int.reduceToNat, reduceCtorEq, Int.reduceAdd, Int.reduceEq, Int.reduceLE, Int.reduceLT, Nat.reduceLT, Nat.reduceLeDiff]
      refine ⟨_, _, [0, 1, 2, 3], ?_, by kernel_rfl, ?_, .inl rfl, rfl⟩
      · simp only [push_cast, ↓branch_true, ↓branch_false, Nat.reduceBEq, Nat.reduceAdd, Nat.reduceMul, Nat.reduceSub, Int.reduceToNat, reduceCtorEq, Int.reduceAdd, Int.reduceEq, Int.reduceLE, Int.reduceLT, Nat.reduceLT, Nat.reduceLeDiff]
      · simp only [push_cast, ↓branch_true, ↓branch_false, Nat.reduceBEq, Nat.reduceAdd, Nat.reduceMul, Nat.reduceSub, Int.reduceToNat, reduceCtorEq, Int.reduceAdd, Int.reduceEq, Int.reduceLE, Int.reduceLT, Nat.reduceLT, Nat.reduceLeDiff]
    | true =>
    simp only [push_cast, ↓branch_true, ↓branch_false, Nat.reduceBEq, Nat.reduceAdd, Nat.reduceMul, Nat.reduceSub, Int.reduceToNat, reduceCtorEq, Int.reduceAdd, Int.reduceEq, Int.reduceLE, Int.reduceLT, Nat.reduceLT, Nat.reduceLeDiff]
    refine ⟨fun h2 => ?_, fun h2 => ⟨fun h3 => ?_, fun h3 => absurd g3 h3⟩⟩
    · refine ⟨_, _, [0, 1, 2, 3], ?_, by kernel_rfl, ?_, .inl rfl, rfl⟩
      · simp only [push_cast, ↓branch_true, ↓branch_false, Nat.reduceBEq, Nat.reduceAdd, Nat.reduceMul, Nat.reduceSub, Int.reduceToNat, reduceCtorEq, Int.reduceAdd, Int.reduceEq, Int.reduceLE, Int.reduceLT, Nat.reduceLT, Nat.reduceLeDiff]
      · simp only [push_cast, ↓branch_true, ↓branch_false, Nat.reduceBEq, Nat.reduceAdd, Nat.reduceMul, Nat.reduceSub, Int.reduceToNat, reduceCtorEq, Int.reduceAdd, Int.reduceEq, Int.reduceLE, Int.reduceLT, Nat.reduceLT, Nat.reduceLeDiff]
    have ht1 := ht j (by omega)
    have hu1 := use_rng ht j (by omega)
    repeat (with_reducible refine And.intro (by omega) ?_)
    refine tr_loop mixed (by kernel_rfl) (fun (q : Nat) => [(65, .v (.int .i64 q)), (64, .v (.int .i64 (ix P j).length)), (63, .s 2 j 0 (ix P j).length (cp j) 1), (11, .v (.int .i64 (useT ts j + ix ts j))), (12, .v (.int .i64 j)), (10, .s 4 0 0 l.length l.length 1), (0, .v (.int .i64 lim)), (1, .s 0 0 0 l.length c 2), (3, .s 3 0 0 ts.length c3 1), (25, .v (.int .i64 j)), (24, .v (.int .i64 P.length)), (23, .s 1 0 0 P.length c1 1)])
      (fun q => [rPc l, rPs 2 P cp, rLL P, rBy ts, oSm l (midT P ts j q)]) (fun q => q ≤ (ix P j).length) (fun q => (ix P j).length - q) 0 (Nat.zero_le _) (Mt.wk (rl := [0, 1, 2, 3, 4]) ⟨by kernel_rfl, ?_, ?_⟩) ?_
    · simp only [push_cast, ↓branch_true, ↓branch_false, Nat.reduceBEq, Nat.reduceAdd, Nat.reduceMul, Nat.reduceSub, Int.reduceToNat, reduceCtorEq, Int.reduceAdd, Int.reduceEq, Int.reduceLE, Int.reduceLT, Nat.reduceLT, Nat.reduceLeDiff]
    · simp only [push_cast, ↓branch_true, ↓branch_false, Nat.reduceBEq, Nat.reduceAdd, Nat.reduceMul, Nat.reduceSub, Int.reduceToNat, reduceCtorEq, Int.reduceAdd, Int.reduceEq, Int.reduceLE, Int.reduceLT, Nat.reduceLT, Nat.reduceLeDiff]
      intro _ _ k _
      rw [midT_0]
    intro q hq
    simp only [push_cast, ↓branch_true, ↓branch_false, Nat.reduceBEq, Nat.reduceAdd, Nat.reduceMul, Nat.reduceSub, Int.reduceToNat, reduceCtorEq, Int.reduceAdd, Int.reduceEq, Int.reduceLE, Int.reduceLT, Nat.reduceLT, Nat.reduceLeDiff]
    refine ⟨fun h4 => ?_, fun h4 => ?_⟩
    · have hin := left_in hlo q (by omega) (by omega)
      have hot := order_at ho (k := q) (by omega)
      repeat (with_reducible refine And.intro (by omega) ?_)
      have hsr := sum_rng ho hn ht q (by omega) j (Nat.le_refl _)
      have hmu := mulB hin.1 (show ix (ix P j) q ≤ 1000000 by omega) ht1.1 ht1.2
      rw [midT_q]
      intro h5
      repeat (with_reducible refine And.intro (by omega) ?_)
      refine lpK_normal (q + 1) [0, 1, 2, 3, 4] (by omega) (by omega) (by kernel_rfl) ?_ ?_
      · simp only [push_cast, ↓branch_true, ↓branch_false, Nat.reduceBEq, Nat.reduceAdd, Nat.reduceMul, Nat.reduceSub, Int.reduceToNat, reduceCtorEq, Int.reduceAdd, Int.reduceEq, Int.reduceLE, Int.reduceLT, Nat.reduceLT, Nat.reduceLeDiff]
      · simp only [push_cast, ↓branch_true, ↓branch_false, Nat.reduceBEq, Nat.reduceAdd, Nat.reduceMul, Nat.reduceSub, Int.reduceToNat, reduceCtorEq, Int.reduceAdd, Int.reduceEq, Int.reduceLE, Int.reduceLT, Nat.reduceLT, Nat.reduceLeDiff]
        intro i9 hi9 k hk
        obtain rfl : i9 = 0 := by omega
        by_cases e : k = q
        · subst e
          have hb : (k == k) = true := by simp
          rw [hb]
          exact ⟨congrArg (Value.int .i64) (if_pos (by omega)), trivial⟩
        · have hb : (k == q) = false := by simpa using e
          rw [hb]
          refine ⟨congrArg (Value.int .i64) ?_, trivial⟩
          unfold midT
          by_cases e2 : k < q
          · simp only [if_pos e2, if_pos (show k < q + 1 by omega), Bool.and_false, cond_false]
          · simp only [if_neg e2, if_neg (show ¬ k < q + 1 by omega), Bool.and_false, cond_false]
    obtain rfl : q = (ix P j).length := by omega
    repeat (with_reducible refine And.intro (by omega) ?_)
    refine lpK_normal (j + 1) [0, 1, 2, 3, 4] ⟨by omega, fun i hi => ?_⟩ (by omega) (by kernel_rfl) ?_ ?_
    · by_cases e : i = j
      · subst e
        exact ⟨by rw [← g3]; exact hgv, hlo, by omega, by omega⟩
      · exact hn i (by omega)
    · simp only [push_cast, ↓branch_true, ↓branch_false, Nat.reduceBEq, Nat.reduceAdd, Nat.reduceMul, Nat.reduceSub, Int.reduceToNat, reduceCtorEq, Int.reduceAdd, Int.reduceEq, Int.reduceLE, Int.reduceLT, Nat.reduceLT, Nat.reduceLeDiff]
      rfl
    · simp only [push_cast, ↓branch_true, ↓branch_false, Nat.reduceBEq, Nat.reduceAdd, Nat.reduceMul, Nat.reduceSub, Int.reduceToNat, reduceCtorEq, Int.reduceAdd, Int.reduceEq, Int.reduceLE, Int.reduceLT, Nat.reduceLT, Nat.reduceLeDiff]
      intro _ _ k hk
      rw [midT_end (by omega)]
  obtain rfl : j = P.length := by omega
  refine tr_loop mixed (by kernel_rfl) (fun (k : Nat) => [(89, .v (.int .i64 k)), (88, .v (.int .i64 l.length)), (87, .s 0 0 0 l.length c 2), (11, .v (.int .i64 (useT ts P.length))), (10, .s 4 0 0 l.length l.length 1)])
    (fun k => [rPc l, rPs 2 P cp, rLL P, rBy ts, oSm l (fun k => sumT P ts k P.length)]) (fun k => k ≤ l.length ∧ ∀ i, i < k → (ix l i).cnt ≤ sumT P ts i P.length) (fun k => l.length - k) 0 ⟨Nat.zero_le _, fun i h => by omega⟩ (Mt.wk (rl := [0, 1, 2, 3, 4]) ⟨by kernel_rfl, ?_, ?_⟩) ?_
  · simp only [push_cast, ↓branch_true, ↓branch_false, Nat.reduceBEq, Nat.reduceAdd, Nat.reduceMul, Nat.reduceSub, Int.reduceToNat, reduceCtorEq, Int.reduceAdd, Int.reduceEq, Int.reduceLE, Int.reduceLT, Nat.reduceLT, Nat.reduceLeDiff]
  · simp only [push_cast, ↓branch_true, ↓branch_false, Nat.reduceBEq, Nat.reduceAdd, Nat.reduceMul, Nat.reduceSub, Int.reduceToNat, reduceCtorEq, Int.reduceAdd, Int.reduceEq, Int.reduceLE, Int.reduceLT, Nat.reduceLT, Nat.reduceLeDiff]
  rintro k ⟨hk, hc⟩
  simp only [push_cast, ↓branch_true, ↓branch_false, Nat.reduceBEq, Nat.reduceAdd, Nat.reduceMul, Nat.reduceSub, Int.reduceToNat, reduceCtorEq, Int.reduceAdd, Int.reduceEq, Int.reduceLE, Int.reduceLT, Nat.reduceLT, Nat.reduceLeDiff]
  refine ⟨fun h4 => ?_, fun h4 => ?_⟩
  · repeat (with_reducible refine And.intro (by omega) ?_)
    refine ⟨fun h5 => ?_, fun h5 => ?_⟩
    · refine ⟨_, _, [0, 1, 2, 3], ?_, by kernel_rfl, ?_, .inl rfl, rfl⟩
      · simp only [push_cast, ↓branch_true, ↓branch_false, Nat.reduceBEq, Nat.reduceAdd, Nat.reduceMul, Nat.reduceSub, Int.reduceToNat, reduceCtorEq, Int.reduceAdd, Int.reduceEq, Int.reduceLE, Int.reduceLT, Nat.reduceLT, Nat.reduceLeDiff]
      · simp only [push_cast, ↓branch_true, ↓branch_false, Nat.reduceBEq, Nat.reduceAdd, Nat.reduceMul, Nat.reduceSub, Int.reduceToNat, reduceCtorEq, Int.reduceAdd, Int.reduceEq, Int.reduceLE, Int.reduceLT, Nat.reduceLT, Nat.reduceLeDiff]
    · repeat (with_reducible refine And.intro (by omega) ?_)
      refine lpK_normal (k + 1) [0, 1, 2, 3, 4] ⟨by omega, fun i hi => ?_⟩ (by omega) (by kernel_rfl) ?_ ?_
      · by_cases e : i = k
        · subst e; omega
        · exact hc i (by omega)
      · simp only [push_cast, ↓branch_true, ↓branch_false, Nat.reduceBEq, Nat.reduceAdd, Nat.reduceMul, Nat.reduceSub, Int.reduceToNat, reduceCtorEq, Int.reduceAdd, Int.reduceEq, Int.reduceLE, Int.reduceLT, Nat.reduceLT, Nat.reduceLeDiff]
      · simp only [push_cast, ↓branch_true, ↓branch_false, Nat.reduceBEq, Nat.reduceAdd, Nat.reduceMul, Nat.reduceSub, Int.reduceToNat, reduceCtorEq, Int.reduceAdd, Int.reduceEq, Int.reduceLE, Int.reduceLT, Nat.reduceLT, Nat.reduceLeDiff]
  obtain rfl : k = l.length := by omega
  refine ⟨_, _, [0, 1, 2, 3], ?_, by kernel_rfl, ?_, .inr ⟨⟨hn, hc⟩, rfl⟩, rfl⟩
  · simp only [push_cast, ↓branch_true, ↓branch_false, Nat.reduceBEq, Nat.reduceAdd, Nat.reduceMul, Nat.reduceSub, Int.reduceToNat, reduceCtorEq, Int.reduceAdd, Int.reduceEq, Int.reduceLE, Int.reduceLT, Nat.reduceLT, Nat.reduceLeDiff]
  · simp only [push_cast, ↓branch_true, ↓branch_false, Nat.reduceBEq, Nat.reduceAdd, Nat.reduceMul, Nat.reduceSub, Int.reduceToNat, reduceCtorEq, Int.reduceAdd, Int.reduceEq, Int.reduceLE, Int.reduceLT, Nat.reduceLT, Nat.reduceLeDiff]
end Go.Proofs.Ytdeaaonppokgkaa.Pat
namespace Go.Proofs.Ytdeaaonppokgkaa.Pat
open Go.RowKit
theorem upR_le {a m q : Int} (h0 : 0 ≤ a) (hm : 1 ≤ m) (h : a ≤ m * q) : upR a m ≤ q := by
  unfold upR
  rw [Int.tdiv_eq_ediv_of_nonneg (by omega)]
  have h1 : (a + m - 1) / m < q + 1 := by
    rw [Int.ediv_lt_iff_lt_mul (by omega), Int.add_mul, Int.mul_comm q m]
    omega
  omega
/-- The weight of numbers. -/
def wN (W : Nat → Int) (ns : List Int) : Nat → Int
  | 0 => 0
  | j + 1 => wN W ns j + ix ns j * W j
theorem ix_succ {α : Type} [Inhabited α] (x : α) (l : List α) (k : Nat) : ix (x :: l) (k + 1) = ix l k := rfl
theorem wN_cons (W : Nat → Int) (x : Int) (ns : List Int) : ∀ j, wN W (x :: ns) (j + 1) = x * W 0 + wN (fun k => W (k + 1)) ns j
  | 0 => by
    show 0 + x * W 0 = x * W 0 + 0
    omega
  | j + 1 => by
    have ih := wN_cons W x ns j
    show wN W (x :: ns) (j + 1) + ix ns j * W (j + 1) = x * W 0 + (wN (fun k => W (k + 1)) ns j + ix ns j * W (j + 1))
    rw [ih, Int.add_assoc]
def pcsL : List Pc → List Int → List Int
  | p :: l, n :: ns => List.replicate n.toNat p.len ++ pcsL l ns
  | _, _ => []
theorem sum_repI (n : Nat) (x : Int) : (List.replicate n x).sum = n * x := by
  induction n with
  | zero => simp
  | succ n ih => rw [List.replicate_succ, List.sum_cons, ih]; push_cast; rw [Int.add_mul]; omega
theorem pcs_weight (W : Int → Int) : ∀ {l : List Pc} {ns : List Int}, ns.length = l.length → inB l ns = true → ((pcsL l ns).map W).sum = wN (fun k => W (ix l k).len) ns l.length
  | [], [], _, _ => rfl
  | [], _ :: _, h, _ => by simp at h
  | _ :: _, [], h, _ => by simp at h
  | p :: l, n :: ns, h, hi => by
    simp only [inB, Bool.and_eq_true, decide_eq_true_eq] at hi
    have ih := pcs_weight W (l := l) (ns := ns) (by simpa using h) hi.2
    rw [List.length_cons, wN_cons]
    simp only [pcsL, List.map_append, List.sum_append, List.map_replicate, sum_repI, Int.toNat_of_nonneg hi.1.1, ih]
    rfl
theorem pcs_mem {a b : Int} : ∀ {l : List Pc} {ns : List Int}, (∀ p ∈ l, a ≤ p.len ∧ p.len ≤ b) → ∀ w ∈ pcsL l ns, a ≤ w ∧ w ≤ b
  | [], _, _, w, h => by simp [pcsL] at h
  | _ :: _, [], _, w, h => by simp [pcsL] at h
  | p :: l, n :: ns, hl, w, h => by
    rcases List.mem_append.1 h with h | h
    · rw [List.eq_of_mem_replicate h]
      exact hl p List.mem_cons_self
    · exact pcs_mem (fun q hq => hl q (List.mem_cons_of_mem _ hq)) w h
theorem sumL_wN : ∀ {l : List Pc} {ns : List Int}, ns.length = l.length → sumL l ns = wN (fun k => (ix l k).len) ns l.length
  | [], [], _ => rfl
  | [], _ :: _, h => by simp at h
  | _ :: _, [], h => by simp at h
  | p :: l, n :: ns, h => by
    have ih := sumL_wN (l := l) (ns := ns) (by simpa using h)
    rw [List.length_cons, wN_cons]
    simp only [sumL, ih, Int.mul_comm p.len n]
    rfl
theorem price_wN : ∀ {ns pr : List Int}, pr.length = ns.length → priceL ns pr = wN (ix pr) ns ns.length
  | [], [], _ => rfl
  | [], _ :: _, h => by simp at h
  | _ :: _, [], h => by simp at h
  | n :: ns, x :: pr, h => by
    have ih := price_wN (ns := ns) (pr := pr) (by simpa using h)
    rw [List.length_cons, wN_cons]
    simp only [priceL, ih]
    rfl
/-- The weight of the sums of patterns. -/
def sN (W : Nat → Int) (P : List (List Int)) (ts : List Int) (m : Nat) : Nat → Int
  | 0 => 0
  | k + 1 => sN W P ts m k + sumT P ts k m * W k
theorem sN_succ (W : Nat → Int) (P : List (List Int)) (ts : List Int) (m : Nat) : ∀ n, sN W P ts (m + 1) n = sN W P ts m n + wN W (ix P m) n * ix ts m
  | 0 => by simp [sN, wN]
  | n + 1 => by
    simp only [sN, wN, sumT, sN_succ W P ts m n, Int.add_mul]
    have : ix (ix P m) n * ix ts m * W n = ix (ix P m) n * W n * ix ts m := by rw [Int.mul_assoc, Int.mul_comm (ix ts m), ← Int.mul_assoc]
    omega
theorem sN_zero (W : Nat → Int) (P : List (List Int)) (ts : List Int) : ∀ n, sN W P ts 0 n = 0
  | 0 => rfl
  | n + 1 => by simp [sN, sN_zero W P ts n, sumT]
theorem sN_le {W : Nat → Int} {P : List (List Int)} {ts : List Int} {K : Int} {n : Nat} : ∀ m, (∀ j, j < m → wN W (ix P j) n ≤ K ∧ 0 ≤ ix ts j) → sN W P ts m n ≤ K * useT ts m
  | 0, _ => by simp [sN_zero, useT]
  | m + 1, h => by
    have ih := sN_le m fun j hj => h j (by omega)
    have h0 := h m (by omega)
    have := Int.mul_le_mul_of_nonneg_right h0.1 h0.2
    rw [sN_succ, useT, Int.mul_add]
    omega
/-- The weight of an order. -/
def cN (W : Nat → Int) (l : List Pc) : Nat → Int
  | 0 => 0
  | k + 1 => cN W l k + (ix l k).cnt * W k
theorem cN_le {W : Nat → Int} {l : List Pc} {P : List (List Int)} {ts : List Int} {m : Nat} : ∀ n, (∀ k, k < n → 0 ≤ W k ∧ (ix l k).cnt ≤ sumT P ts k m) → cN W l n ≤ sN W P ts m n
  | 0, _ => Int.le_refl _
  | n + 1, h => by
    have ih := cN_le n fun k hk => h k (by omega)
    have h0 := h n (by omega)
    have := Int.mul_le_mul_of_nonneg_right h0.2 h0.1
    simp only [cN, sN]
    omega
/-- What right patterns say of a weight that none of them exceeds. -/
theorem cut_weight {W : Nat → Int} {lim K : Int} {l : List Pc} {P : List (List Int)} {ts : List Int} (ho : orderB l = true) (h1 : 1 ≤ lim) (ht : ∀ k, k < ts.length → 0 ≤ ix ts k ∧ ix ts k ≤ 255) (hc : CutOk lim l P ts) (hW : ∀ k, k < l.length → 0 ≤ W k)
    (hK : ∀ ns : List Int, ns.length = l.length → inB l ns = true → sumL l ns ≤ lim → wN W ns l.length ≤ K) : cN W l l.length ≤ K * useT ts P.length := by
  refine Int.le_trans (cN_le (m := P.length) l.length fun k hk => ⟨hW k hk, hc.cnt k hk⟩) (sN_le P.length fun j hj => ?_)
  obtain ⟨_, b, c, d⟩ := hc.pat j hj
  rw [leftO_fits (fun p hp => (order_pos ho p hp).1) d (by omega)] at b
  split at b
  · rename_i h
    exact ⟨hK _ d h.1 h.2, (ht j c).1⟩
  · cases b
theorem load_weight {lim K : Int} {l : List Pc} (W : Int → Int) (ho : orderB l = true) (h3 : ∀ k, k < l.length → (ix l k).len ≤ lim) (hK : ∀ b : List Int, (∀ w ∈ b, 1 ≤ w ∧ w ≤ lim) → b.sum ≤ lim → (b.map W).sum ≤ K) (ns : List Int) (hl : ns.length = l.length) (hi : inB l ns = true) (hs : sumL l ns ≤ lim) : wN (fun k => W (ix l k).len) ns l.length ≤ K := by
  rw [← pcs_weight W hl hi]
  refine hK _ (pcs_mem fun p hp => ?_) ?_
  · obtain ⟨k, hk, rfl⟩ := List.getElem_of_mem hp
    have a := order_at ho hk
    have b := h3 k hk
    rw [ix_eq hk] at a b
    exact ⟨a.1, b⟩
  · have e := pcs_weight (fun x => x) hl hi
    rw [List.map_id'] at e
    rw [e, ← sumL_wN hl]
    exact hs
theorem mat_use {lim : Int} {l : List Pc} {P : List (List Int)} {ts : List Int} (ho : orderB l = true) (h1 : 1 ≤ lim) (ht : ∀ k, k < ts.length → 0 ≤ ix ts k ∧ ix ts k ≤ 255) (hc : CutOk lim l P ts) : matR lim l ≤ useT ts P.length := by
  have key : ∀ j, j ≤ l.length → cN (fun k => (ix l k).len) l j = totT l j := by
    intro j
    induction j with
    | zero => intro _; simp [cN, totT]
    | succ j ih =>
      intro hj
      rw [totT_succ (by omega), ← ih (by omega), Int.mul_comm]
      rfl
  have := cut_weight (W := fun k => (ix l k).len) (K := lim) ho h1 ht hc (fun k hk => by have := order_at ho hk; omega) fun ns hl hi hs => by rw [← sumL_wN hl]; exact hs
  rw [key _ (Nat.le_refl _)] at this
  exact upR_le (totL_range ho).1 h1 this
def wL (lim x : Int) : Int := if lim < 2 * x then 1 else 0
theorem large_use {lim : Int} {l : List Pc} {P : List (List Int)} {ts : List Int} (ho : orderB l = true) (h1 : 1 ≤ lim) (h3 : ∀ k, k < l.length → (ix l k).len ≤ lim) (ht : ∀ k, k < ts.length → 0 ≤ ix ts k ∧ ix ts k ≤ 255) (hc : CutOk lim l P ts) : largT lim l l.length ≤ useT ts P.length := by
  have key : ∀ j, j ≤ l.length → cN (fun k => wL lim (ix l k).len) l j = largT lim l j := by
    intro j
    induction j with
    | zero => intro _; rfl
    | succ j ih =>
      intro hj
      have e : cN (fun k => wL lim (ix l k).len) l (j + 1) = cN (fun k => wL lim (ix l k).len) l j + (ix l j).cnt * wL lim (ix l j).len := rfl
      have e2 : largT lim l (j + 1) = if lim < 2 * (ix l j).len then largT lim l j + (ix l j).cnt else largT lim l j := rfl
      rw [e, e2, ih (by omega)]
      unfold wL
      split <;> simp
  have hb : ∀ b : List Int, (∀ w ∈ b, 1 ≤ w ∧ w ≤ lim) → (lim + 1) * (b.map (wL lim)).sum ≤ 2 * b.sum := by
    intro b
    induction b with
    | nil => intro _; simp
    | cons x b ih =>
      intro hw
      have ih := ih fun w h => hw w (List.mem_cons_of_mem _ h)
      have h0 := hw x List.mem_cons_self
      simp only [List.map_cons, List.sum_cons]
      have hx : wL lim x = if lim < 2 * x then 1 else 0 := rfl
      rw [Int.mul_add, hx]
      split
      · omega
      · rw [Int.mul_zero]; omega
  have := cut_weight (K := 1) ho h1 ht hc (fun k _ => by show 0 ≤ wL lim (ix l k).len; unfold wL; split <;> decide) (load_weight (wL lim) ho h3 fun b hw hs => by
    have h2 := hb b hw
    refine Int.not_lt.1 fun h3 => ?_
    have := Int.mul_le_mul_of_nonneg_left (show (2 : Int) ≤ (b.map (wL lim)).sum by omega) (show 0 ≤ lim + 1 by omega)
    omega)
  rw [key _ (Nat.le_refl _)] at this
  omega
def wD (lim k x : Int) : Int := if ((k + 1) * x).tmod lim = 0 then ((k + 1) * x).tdiv lim * k else ((k + 1) * x).tdiv lim * (k + 1)
theorem dual_load {lim k : Int} (h1 : 1 ≤ lim) (hk : 1 ≤ k) (b : List Int) (hw : ∀ w ∈ b, 1 ≤ w ∧ w ≤ lim) (hs : b.sum ≤ lim) : (b.map (wD lim k)).sum ≤ k * (k + 1) := by
  have key : ∀ b : List Int, (∀ w ∈ b, 1 ≤ w ∧ w ≤ lim) → ∃ A B : Int, 0 ≤ A ∧ 0 ≤ B ∧ (b.map (wD lim k)).sum = A * k + B * (k + 1) ∧ lim * (A + B) ≤ (k + 1) * b.sum ∧ (0 < B → lim * (A + B) < (k + 1) * b.sum) := by
    intro b
    induction b with
    | nil => intro _; exact ⟨0, 0, by simp, by simp, by simp, by simp, fun h => absurd h (by simp)⟩
    | cons x b ih =>
      intro hw
      obtain ⟨A, B, hA, hB, e1, e2, e3⟩ := ih fun w h => hw w (List.mem_cons_of_mem _ h)
      have h0 := hw x List.mem_cons_self
      have hn : 0 ≤ (k + 1) * x := Int.mul_nonneg (by omega) (by omega)
      have hq : 0 ≤ ((k + 1) * x).tdiv lim := Int.tdiv_nonneg hn (by omega)
      have hr : 0 ≤ ((k + 1) * x).tmod lim := Int.tmod_nonneg _ hn
      have hd := Int.mul_tdiv_add_tmod ((k + 1) * x) lim
      simp only [List.map_cons, List.sum_cons]
      rw [Int.mul_add (k + 1)]
      unfold wD at e1 ⊢
      generalize (k + 1) * x = n at *
      generalize n.tdiv lim = q at *
      generalize n.tmod lim = r at *
      split
      · rename_i hr0
        refine ⟨A + q, B, by omega, hB, ?_, ?_, fun h => ?_⟩
        · rw [e1, Int.add_mul]; omega
        · rw [show A + q + B = q + (A + B) by omega, Int.mul_add]; omega
        · have := e3 h
          rw [show A + q + B = q + (A + B) by omega, Int.mul_add]; omega
      · rename_i hr0
        refine ⟨A, B + q, hA, by omega, ?_, ?_, fun h => ?_⟩
        · rw [e1, Int.add_mul]; omega
        · rw [show A + (B + q) = q + (A + B) by omega, Int.mul_add]; omega
        · rw [show A + (B + q) = q + (A + B) by omega, Int.mul_add]; omega
  obtain ⟨A, B, hA, hB, e1, e2, e3⟩ := key b hw
  have hs2 : (k + 1) * b.sum ≤ lim * (k + 1) := by
    rw [Int.mul_comm lim]
    exact Int.mul_le_mul_of_nonneg_left hs (by omega)
  rw [e1]
  by_cases hB0 : 0 < B
  · have h3 : lim * (A + B) < lim * (k + 1) := Int.lt_of_lt_of_le (e3 hB0) hs2
    have h4 : A + B < k + 1 := Int.lt_of_mul_lt_mul_left h3 (by omega)
    have h5 := Int.mul_le_mul_of_nonneg_right (show A + B ≤ k by omega) (show 0 ≤ k + 1 by omega)
    rw [Int.add_mul] at h5
    have h6 : A * (k + 1) = A * k + A := by rw [Int.mul_add, Int.mul_one]
    omega
  · have : B = 0 := by omega
    subst this
    have h4 : A + 0 ≤ k + 1 := Int.le_of_mul_le_mul_left (Int.le_trans e2 hs2) (by omega)
    have h5 := Int.mul_le_mul_of_nonneg_right (show A ≤ k + 1 by omega) (show 0 ≤ k by omega)
    rw [Int.mul_comm k]
    omega
theorem dual_use {lim kk : Int} {l : List Pc} {P : List (List Int)} {ts : List Int} (ho : orderB l = true) (h1 : 1 ≤ lim) (hk : 1 ≤ kk ∧ kk ≤ 100) (h3 : ∀ k, k < l.length → (ix l k).len ≤ lim) (ht : ∀ k, k < ts.length → 0 ≤ ix ts k ∧ ix ts k ≤ 255) (hc : CutOk lim l P ts) : dualR lim kk l ≤ useT ts P.length := by
  have key : ∀ j, j ≤ l.length → cN (fun k => wD lim kk (ix l k).len) l j = dualT lim kk l j := by
    intro j
    induction j with
    | zero => intro _; rfl
    | succ j ih =>
      intro hj
      have e : cN (fun k => wD lim kk (ix l k).len) l (j + 1) = cN (fun k => wD lim kk (ix l k).len) l j + (ix l j).cnt * wD lim kk (ix l j).len := rfl
      have e2 : dualT lim kk l (j + 1) = dualT lim kk l j + dualI lim kk (ix l j) := rfl
      rw [e, e2, ih (by omega)]
      unfold wD dualI
      split <;> rw [Int.mul_assoc]
  have := cut_weight (K := kk * (kk + 1)) ho h1 ht hc (fun k hk2 => by
    have a := order_at ho hk2
    have q : 0 ≤ ((kk + 1) * (ix l k).len).tdiv lim := Int.tdiv_nonneg (Int.mul_nonneg (by omega) (by omega)) (by omega)
    show 0 ≤ wD lim kk (ix l k).len
    unfold wD
    split
    · exact Int.mul_nonneg q (by omega)
    · exact Int.mul_nonneg q (by omega)) (load_weight (wD lim kk) ho h3 fun b hw hs => dual_load h1 hk.1 b hw hs)
  rw [key _ (Nat.le_refl _)] at this
  exact upR_le (dualT_range h1 hk ho _ (Nat.le_refl _)).1 (kk_range hk).1 this
theorem best_use {lim : Int} {l : List Pc} {P : List (List Int)} {ts : List Int} (ho : orderB l = true) (h1 : 1 ≤ lim) (h3 : ∀ k, k < l.length → (ix l k).len ≤ lim) (ht : ∀ k, k < ts.length → 0 ≤ ix ts k ∧ ix ts k ≤ 255) (hc : CutOk lim l P ts) : bestR lim l ≤ useT ts P.length := by
  have key : ∀ j, j ≤ 10 → bestT lim l j ≤ useT ts P.length := by
    intro j
    induction j with
    | zero =>
      intro _
      have a := mat_use ho h1 ht hc
      have b := large_use ho h1 h3 ht hc
      show max _ _ ≤ _
      omega
    | succ j ih =>
      intro hj
      have a := ih (by omega)
      have b := dual_use (kk := (j + 1 : Nat)) ho h1 (by omega) h3 ht hc
      show max _ _ ≤ _
      omega
  exact key 10 (Nat.le_refl _)
theorem best_ge (lim : Int) (l : List Pc) : matR lim l ≤ bestR lim l ∧ largT lim l l.length ≤ bestR lim l := by
  have key : ∀ j, matR lim l ≤ bestT lim l j ∧ largT lim l l.length ≤ bestT lim l j := by
    intro j
    induction j with
    | zero => show _ ≤ max _ _ ∧ _ ≤ max _ _; omega
    | succ j ih => show _ ≤ max _ _ ∧ _ ≤ max _ _; omega
  exact key 10
theorem pick_ge (pr : List Int) : ∀ (E : List (List Int)) (s : Bst), s.2 ≤ (E.foldl (pickB [] 0 pr) s).2 ∧ ∀ q ∈ E, priceL q pr ≤ (E.foldl (pickB [] 0 pr) s).2
  | [], s => ⟨Int.le_refl _, fun q h => by cases h⟩
  | a :: E, s => by
    have ih := pick_ge pr E (pickB [] 0 pr s a)
    have h0 : s.2 ≤ (pickB [] 0 pr s a).2 ∧ priceL a pr ≤ (pickB [] 0 pr s a).2 := by
      unfold pickB
      split
      · simp only; omega
      · omega
    rw [List.foldl_cons]
    refine ⟨Int.le_trans h0.1 ih.1, fun q hq => ?_⟩
    rcases List.mem_cons.1 hq with rfl | hq
    · exact Int.le_trans h0.2 ih.1
    · exact ih.2 q hq
theorem prov_0 {lim : Int} {l : List Pc} {pr : List Int} {sc : Int} (h : provE lim l pr sc = 0) : givE lim l = 0 ∧ pr.length = l.length ∧ (1 ≤ sc ∧ sc ≤ 1073741824) ∧ pr.any badP = false ∧ l.length ≤ 10 ∧ (bestS lim l pr).2 ≤ sc := by
  unfold provE at h
  split at h
  · omega
  · split at h
    · omega
    · split at h
      · omega
      · split at h
        · omega
        · split at h
          · omega
          · rename_i a b c d e
            refine ⟨by omega, by omega, by omega, ?_, by omega, by omega⟩
            cases hb : pr.any badP with
            | false => rfl
            | true => exact absurd (Or.inr hb) c
/-- No pattern that fits has a price above the dearest one's. -/
theorem price_best {lim : Int} {l : List Pc} {pr : List Int} (hg : givE lim l = 0) (hl : pr.length = l.length) (hp : pr.any badP = false) (h10 : l.length ≤ 10) {ns : List Int} (h1 : ns.length = l.length) (h2 : inB l ns = true) (h3 : sumL l ns ≤ lim) : priceL ns pr ≤ (bestS lim l pr).2 := by
  obtain ⟨ho, g1, g2, g3⟩ := givE_0 hg
  have hE : bestE lim l pr = 0 := by
    have : givenE lim l pr.length = 0 := by
      unfold givenE
      rw [if_neg (by rw [ho]; simp), if_neg (by omega), if_pos (by rw [hl])]
    unfold bestE
    rw [if_neg (by omega), if_neg (by rw [hp]; simp), if_neg (by omega)]
  have hpos : PosL l := fun p hp => by have := order_pos ho p hp; exact ⟨this.1, by omega⟩
  rw [bestS_fold ho (by omega) hl (fun x hx => by
    obtain ⟨k, hk, rfl⟩ := List.getElem_of_mem hx
    have := price_at hp hk
    rw [ix_eq hk] at this
    exact this.1) hE]
  exact (pick_ge pr _ _).2 _ ((mem_eachG hpos (by omega)).2 ⟨h1, h2, h3⟩)
theorem prov_use {lim : Int} {l : List Pc} {pr : List Int} {sc : Int} {P : List (List Int)} {ts : List Int} (ht : ∀ k, k < ts.length → 0 ≤ ix ts k ∧ ix ts k ≤ 255) (hc : CutOk lim l P ts) (h : provE lim l pr sc = 0) : provV lim l pr sc ≤ useT ts P.length := by
  obtain ⟨hg, hl, hs, hp, h10, hb⟩ := prov_0 h
  obtain ⟨ho, h1, h2, h3⟩ := givE_0 hg
  have key : ∀ j, cN (ix pr) l j = costT l pr j := by
    intro j
    induction j with
    | zero => rfl
    | succ j ih => simp only [cN, costT, ih]
  have := cut_weight (W := ix pr) (K := sc) ho h1 ht hc (fun k hk => (price_at hp (by omega)).1) fun ns g1 g2 g3 => by
    have := price_best hg hl hp h10 g1 g2 g3
    rw [price_wN (by omega), g1] at this
    omega
  rw [key] at this
  unfold provV
  rw [if_pos h]
  exact upR_le (cost_range ho hp hl _ (Nat.le_refl _)).1 hs.1 this
end Go.Proofs.Ytdeaaonppokgkaa.Pat
namespace Go.Proofs.Ytdeaaonppokgkaa.Pat
open Go.RowKit Lp
set_option maxHeartbeats 4000000 in
theorem lunder_sp (lim : Int) (l : List Pc) (c : Nat) (P : List (List Int)) (cp : Nat → Nat) (c1 : Nat) (ts : List Int) (c3 : Nat) (pr : List Int) (c4 : Nat) (sc k : Int) (hl : l.length ≤ 9223372036854775807) (hl1 : P.length ≤ 9223372036854775807) (hl3 : ts.length ≤ 9223372036854775807) (hl4 : pr.length ≤ 9223372036854775807) (ht : ∀ k, k < ts.length → 0 ≤ ix ts k ∧ ix ts k ≤ 255) :
    Sp Try.prog 8 [.v (.int .i64 lim), .s 0 0 0 l.length c 2, .s 1 0 0 P.length c1 1, .s 3 0 0 ts.length c3 1, .s 4 0 0 pr.length c4 1, .v (.int .i64 sc), .v (.int .i64 k)] [rPc l, rPs 2 P cp, rLL P, rBy ts, rInt 3 pr] (isK (.v (.bool true))) := by
  refine sp_of_ex true [] mixed Try.call8 Try.func8 rfl Try.ntmps8 Try.results8 (by decide +kernel) rfl ?_
  simp only [push_cast, ↓branch_true, ↓branch_false, Nat.reduceBEq, Nat.reduceAdd, Nat.reduceMul, Nat.reduceSub, Int.reduceToNat, reduceCtorEq, Int.reduceAdd, Int.reduceEq, Int.reduceLE, Int.reduceLT, Nat.reduceLT, Nat.reduceLeDiff]
  refine sp_at awake_sp [] rfl ?_ ?_ ?_
  · simp only [push_cast, ↓branch_true, ↓branch_false, Nat.reduceBEq, Nat.reduceAdd, Nat.reduceMul, Nat.reduceSub, Int.reduceToNat, reduceCtorEq, Int.reduceAdd, Int.reduceEq, Int.reduceLE, Int.reduceLT, Nat.reduceLT, Nat.reduceLeDiff]
  · simp only [push_cast, ↓branch_true, ↓branch_false, Nat.reduceBEq, Nat.reduceAdd, Nat.reduceMul, Nat.reduceSub, Int.reduceToNat, reduceCtorEq, Int.reduceAdd, Int.reduceEq, Int.reduceLE, Int.reduceLT, Nat.reduceLT, Nat.reduceLeDiff]
  rintro _ _ ⟨rfl, rfl⟩
  simp only [push_cast, ↓branch_true, ↓branch_false, Nat.reduceBEq, Nat.reduceAdd, Nat.reduceMul, Nat.reduceSub, Int.reduceToNat, reduceCtorEq, Int.reduceAdd, Int.reduceEq, Int.reduceLE, Int.reduceLT, Nat.reduceLT, Nat.reduceLeDiff]
  intro d0
  refine sp_c (few_pu lim l c hl) rfl [0] ?_
  cases hf : fewB lim l with
  | false =>
    simp only [push_cast, ↓branch_true, ↓branch_false, Nat.reduceBEq, Nat.reduceAdd, Nat.reduceMul, Nat.reduceSub, Int.reduceToNat, reduceCtorEq, Int.reduceAdd, Int.reduceEq, Int.reduceLE, Int.reduceLT, Nat.reduceLT, Nat.reduceLeDiff]
    try rfl
  | true =>
  simp only [push_cast, ↓branch_true, ↓branch_false, Nat.reduceBEq, Nat.reduceAdd, Nat.reduceMul, Nat.reduceSub, Int.reduceToNat, reduceCtorEq, Int.reduceAdd, Int.reduceEq, Int.reduceLE, Int.reduceLT, Nat.reduceLT, Nat.reduceLeDiff]
  intro d2 d3 d4
  refine sp_call (idx52_pu P cp c1 hl1) rfl [1, 2] rfl ?_ ?_ ?_
  · simp only [push_cast, ↓branch_true, ↓branch_false, Nat.reduceBEq, Nat.reduceAdd, Nat.reduceMul, Nat.reduceSub, Int.reduceToNat, reduceCtorEq, Int.reduceAdd, Int.reduceEq, Int.reduceLE, Int.reduceLT, Nat.reduceLT, Nat.reduceLeDiff]
  · simp only [push_cast, ↓branch_true, ↓branch_false, Nat.reduceBEq, Nat.reduceAdd, Nat.reduceMul, Nat.reduceSub, Int.reduceToNat, reduceCtorEq, Int.reduceAdd, Int.reduceEq, Int.reduceLE, Int.reduceLT, Nat.reduceLT, Nat.reduceLeDiff]
  cases ha : P.any fun p => decide (10 < p.length) with
  | true =>
    simp only [push_cast, ↓branch_true, ↓branch_false, Nat.reduceBEq, Nat.reduceAdd, Nat.reduceMul, Nat.reduceSub, Int.reduceToNat, reduceCtorEq, Int.reduceAdd, Int.reduceEq, Int.reduceLE, Int.reduceLT, Nat.reduceLT, Nat.reduceLeDiff]
    try rfl
  | false =>
  simp only [push_cast, ↓branch_true, ↓branch_false, Nat.reduceBEq, Nat.reduceAdd, Nat.reduceMul, Nat.reduceSub, Int.reduceToNat, reduceCtorEq, Int.reduceAdd, Int.reduceEq, Int.reduceLE, Int.reduceLT, Nat.reduceLT, Nat.reduceLeDiff]
  refine sp_at (cut_sp lim l P ts cp c c1 c3 (by omega) (by omega) ht (by omega)) [0, 1, 2, 3] (by kernel_rfl) ?_ ?_ ?_
  · simp only [push_cast, ↓branch_true, ↓branch_false, Nat.reduceBEq, Nat.reduceAdd, Nat.reduceMul, Nat.reduceSub, Int.reduceToNat, reduceCtorEq, Int.reduceAdd, Int.reduceEq, Int.reduceLE, Int.reduceLT, Nat.reduceLT, Nat.reduceLeDiff]
  · simp only [push_cast, ↓branch_true, ↓branch_false, Nat.reduceBEq, Nat.reduceAdd, Nat.reduceMul, Nat.reduceSub, Int.reduceToNat, reduceCtorEq, Int.reduceAdd, Int.reduceEq, Int.reduceLE, Int.reduceLT, Nat.reduceLT, Nat.reduceLeDiff]
  rintro _ _ ⟨hr, rfl⟩
  rcases hr with rfl | ⟨hc, rfl⟩
  · simp only [push_cast, ↓branch_true, ↓branch_false, Nat.reduceBEq, Nat.reduceAdd, Nat.reduceMul, Nat.reduceSub, Int.reduceToNat, reduceCtorEq, Int.reduceAdd, Int.reduceEq, Int.reduceLE, Int.reduceLT, Nat.reduceLT, Nat.reduceLeDiff]
    try rfl
  simp only [push_cast, ↓branch_true, ↓branch_false, Nat.reduceBEq, Nat.reduceAdd, Nat.reduceMul, Nat.reduceSub, Int.reduceToNat, reduceCtorEq, Int.reduceAdd, Int.reduceEq, Int.reduceLE, Int.reduceLT, Nat.reduceLT, Nat.reduceLeDiff]
  generalize hu : useT ts P.length = u
  refine sp_c (bbest_pu lim l c hl) rfl [0] ?_
  simp only [push_cast, ↓branch_true, ↓branch_false, Nat.reduceBEq, Nat.reduceAdd, Nat.reduceMul, Nat.reduceSub, Int.reduceToNat, reduceCtorEq, Int.reduceAdd, Int.reduceEq, Int.reduceLE, Int.reduceLT, Nat.reduceLT, Nat.reduceLeDiff]
  refine sp_c (xmat_pu lim l c hl) rfl [0] ?_
  simp only [push_cast, ↓branch_true, ↓branch_false, Nat.reduceBEq, Nat.reduceAdd, Nat.reduceMul, Nat.reduceSub, Int.reduceToNat, reduceCtorEq, Int.reduceAdd, Int.reduceEq, Int.reduceLE, Int.reduceLT, Nat.reduceLT, Nat.reduceLeDiff]
  refine sp_c (xlarge_pu lim l c hl) rfl [0] ?_
  by_cases hg : givE lim l = 0
  rotate_left
  · simp only [push_cast, ↓branch_true, ↓branch_false, Nat.reduceBEq, Nat.reduceAdd, Nat.reduceMul, Nat.reduceSub, Int.reduceToNat, reduceCtorEq, Int.reduceAdd, Int.reduceEq, Int.reduceLE, Int.reduceLT, Nat.reduceLT, Nat.reduceLeDiff]
    exact fun h => absurd h hg
  rw [if_pos hg, if_pos hg, if_pos hg, hg]
  obtain ⟨ho, h1, h2, h3⟩ := givE_0 hg
  have q1 := mat_use ho h1 ht hc
  have q2 := large_use ho h1 h3 ht hc
  have q3 := best_use ho h1 h3 ht hc
  obtain ⟨q4, q5⟩ := best_ge lim l
  rw [hu] at q1 q2 q3
  simp only [push_cast, ↓branch_true, ↓branch_false, Nat.reduceBEq, Nat.reduceAdd, Nat.reduceMul, Nat.reduceSub, Int.reduceToNat, reduceCtorEq, Int.reduceAdd, Int.reduceEq, Int.reduceLE, Int.reduceLT, Nat.reduceLT, Nat.reduceLeDiff]
  refine ⟨fun h => absurd h (by omega), fun _ => ⟨fun h => absurd h (by omega), fun _ => ⟨fun h => absurd h (by omega), fun _ => ⟨fun h => absurd h (by omega), fun _ => ⟨fun h => absurd h (by omega), fun _ => ?_⟩⟩⟩⟩⟩
  refine sp_c (xdual_pu lim l c k hl) rfl [0] ?_
  have q6 : duaE lim l k = 0 → dualR lim k l ≤ u := fun h => by
    have hk : 1 ≤ k ∧ k ≤ 100 := by
      unfold duaE at h
      rw [if_neg (by omega)] at h
      split at h <;> omega
    rw [← hu]
    exact dual_use ho h1 hk h3 ht hc
  have q7 : provE lim l pr sc = 0 → provV lim l pr sc ≤ u := fun h => by
    rw [← hu]
    exact prov_use ht hc h
  simp only [push_cast, ↓branch_true, ↓branch_false, Nat.reduceBEq, Nat.reduceAdd, Nat.reduceMul, Nat.reduceSub, Int.reduceToNat, reduceCtorEq, Int.reduceAdd, Int.reduceEq, Int.reduceLE, Int.reduceLT, Nat.reduceLT, Nat.reduceLeDiff]
  refine ⟨fun e0 => ⟨fun h => ?_, fun _ => ?a⟩, fun _ => ?b⟩
  · rw [if_pos e0] at h
    have := q6 e0
    exact absurd h (by omega)
  all_goals
    refine sp_at (bproves_sp lim l c pr c4 sc hl hl4) [0, 4] (by kernel_rfl) ?_ ?_ ?_
    · simp only [push_cast, ↓branch_true, ↓branch_false, Nat.reduceBEq, Nat.reduceAdd, Nat.reduceMul, Nat.reduceSub, Int.reduceToNat, reduceCtorEq, Int.reduceAdd, Int.reduceEq, Int.reduceLE, Int.reduceLT, Nat.reduceLT, Nat.reduceLeDiff]
    · simp only [push_cast, ↓branch_true, ↓branch_false, Nat.reduceBEq, Nat.reduceAdd, Nat.reduceMul, Nat.reduceSub, Int.reduceToNat, reduceCtorEq, Int.reduceAdd, Int.reduceEq, Int.reduceLE, Int.reduceLT, Nat.reduceLT, Nat.reduceLeDiff]
    rintro _ _ ⟨rfl, rfl⟩
    simp only [push_cast, ↓branch_true, ↓branch_false, Nat.reduceBEq, Nat.reduceAdd, Nat.reduceMul, Nat.reduceSub, Int.reduceToNat, reduceCtorEq, Int.reduceAdd, Int.reduceEq, Int.reduceLE, Int.reduceLT, Nat.reduceLT, Nat.reduceLeDiff]
    exact fun h => by rw [decide_eq_true (q7 h)]
end Go.Proofs.Ytdeaaonppokgkaa.Pat
