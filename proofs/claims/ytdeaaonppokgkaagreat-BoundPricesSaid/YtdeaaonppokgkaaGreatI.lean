/- Contract: the least value (improve). -/
import Derived.Test.YtdeaaonppokgkaaGreatH
set_option maxRecDepth 100000
set_option linter.unusedSimpArgs false
set_option linter.unusedVariables false
namespace Go.Proofs.YtdeaaonppokgkaaGreat
open Go.RowKit Lp
def p2 (q : Fm) (s : Tabl) (j : Nat) : Bool := decide (rc q.m (cqo q) s j < 0)
def S2 (q : Fm) (s : Tabl) (n : Nat) : Tabl := phS q.m q.R q.F (cqo q) s n
structure ImpOk (q : Fm) (s0 : Tabl) (K : Nat) : Prop where
  R : q.F + q.m = q.R
  S : ∀ n, n ≤ K → Sml q (S2 q s0 n)
  G : ∀ n, n < K → Goes q.m q.R q.F (cqo q) (S2 q s0 n)
  P : ∀ n, n < K → Piv q (S2 q s0 n) (phR q.m q.R q.F (cqo q) (S2 q s0 n)).toNat (phE q.m q.F (cqo q) (S2 q s0 n)).toNat
  N : ¬ Goes q.m q.R q.F (cqo q) (S2 q s0 K)
set_option maxHeartbeats 8000000 in
theorem improve_sp (q : Fm) (s0 : Tabl) (K : Nat) (hK : ImpOk q s0 K) : Sp Tryz.prog 57 [.p 0 0 0] (tb q s0)
    (fun r H => r = .v (.bool (decide (phE q.m q.F (cqo q) (S2 q s0 K) < 0))) ∧ H = tb q (S2 q s0 K)) := by
  have hS0 := hK.S 0 (Nat.zero_le _)
  have hm := hS0.m
  have hR := hS0.R
  have hFR := hK.R
  refine sp_weak ?_
  refine sp_of_ex true [] mixed Tryz.call57 Tryz.func57 rfl Tryz.ntmps57 Tryz.results57 (by decide +kernel) rfl ?_
  refine sxq ?_
  try with_reducible exact trivial
  refine tr_loop mixed (by kernel_rfl) (fun (n : Nat) => [(0, .p 0 0 0)]) (fun n => tb q (S2 q s0 n)) (fun n => n ≤ K) (fun n => K - n) 0 (Nat.zero_le _) (Mt.wk (rl := [0, 1, 2, 3, 4, 5]) ⟨by kernel_rfl, ?_, ?_⟩) ?_
  · refine sxq ?_
    try with_reducible exact trivial
    try trivial
  · refine sxq ?_
    try with_reducible exact trivial
    exact ⟨rfl, fun _ _ _ _ => rfl, fun _ _ _ _ => rfl⟩
  intro n hn
  have hSn := hK.S n hn
  have hgn := hK.G n
  have hpn := hK.P n
  have hN := hK.N
  have hs1 : S2 q s0 (n + 1) = pivT (S2 q s0 n) (phR q.m q.R q.F (cqo q) (S2 q s0 n)).toNat (phE q.m q.F (cqo q) (S2 q s0 n)).toNat := rfl
  have hph : phE q.m q.F (cqo q) (S2 q s0 n) = ent (p2 q (S2 q s0 n)) q.F := rfl
  unfold phR at hs1 hpn
  rw [hph] at hs1 hpn
  have hel := ent_lo (p2 q (S2 q s0 n)) q.F
  generalize hs : S2 q s0 n = s at *
  refine sxq ?_
  try with_reducible exact trivial
  refine tr_loop0 mixed (by kernel_rfl) (fun (j : Nat) => [(4, .v (.int .i64 j)), (3, .v (.int .i64 (ent (p2 q s) j))), (0, .p 0 0 0)]) (fun j => j ≤ q.F) (fun j => q.F - j) 0 (Nat.zero_le _) ?_ ?_
  · refine sxq ?_
    try with_reducible exact trivial
    rfl
  intro j hj
  refine sxq ?_
  try with_reducible exact trivial
  refine ⟨fun h1 => ⟨fun h2 => ?_, fun h2 => ?_⟩, fun h1 => ?_⟩
  case refine_1 =>
    have hnx := ent_next (p2 q s) j h2
    refine sp_c (reduced_pu q s j (by omega) hSn) rfl [0, 1, 2, 3, 4, 5] ?_
    refine sxq ?_
    try with_reducible exact trivial
    refine ⟨fun h3 => ?_, fun h3 => ?_⟩
    · rw [if_pos (by unfold p2; exact decide_eq_true h3)] at hnx
      repeat (with_reducible refine And.intro (by omega) ?_)
      refine lp0_normal (j + 1) (by omega) (by omega) ?_
      simp only [push_cast, ↓branch_true, ↓branch_false, Nat.reduceBEq, Nat.reduceAdd, Nat.reduceMul, Nat.reduceSub, Int.reduceToNat, reduceCtorEq, Int.reduceAdd, Int.reduceEq, Int.reduceLE, Int.reduceLT, Nat.reduceLT, Nat.reduceLeDiff, hnx]
    · rw [if_neg (by unfold p2; exact fun h => h3 (of_decide_eq_true h))] at hnx
      repeat (with_reducible refine And.intro (by omega) ?_)
      refine lp0_normal (j + 1) (by omega) (by omega) ?_
      have he : ent (p2 q s) j = -1 := by have := ent_lo (p2 q s) j; omega
      simp only [push_cast, ↓branch_true, ↓branch_false, Nat.reduceBEq, Nat.reduceAdd, Nat.reduceMul, Nat.reduceSub, Int.reduceToNat, reduceCtorEq, Int.reduceAdd, Int.reduceEq, Int.reduceLE, Int.reduceLT, Nat.reduceLT, Nat.reduceLeDiff, hnx, he]
  case' refine_2 =>
    have hef : ent (p2 q s) j = ent (p2 q s) q.F := (ent_stay (p2 q s) (by omega) hj).symm
    rw [hef]
    refine ⟨fun h3 => absurd h3 (by omega), fun h3 => ?_⟩
  case' refine_3 =>
    have hef : ent (p2 q s) j = ent (p2 q s) q.F := by rw [show j = q.F by omega]
    rw [hef]
    refine ⟨fun h3 => ?_, fun h3 => ?_⟩
    · have hnK : n = K := by
        refine Classical.byContradiction fun h => ?_
        have := (hgn (by omega)).1
        omega
      subst hnK
      rw [hs, hph]
      simp only [decide_eq_true h3]
      refine ⟨_, _, [0, 1, 2, 3, 4, 5], ?_, by kernel_rfl, ?_, rfl, rfl⟩
      · refine sxq ?_
        try with_reducible exact trivial
      · refine sxq ?_
        try with_reducible exact trivial
  all_goals
      obtain ⟨E, hEe⟩ : ∃ E : Nat, ent (p2 q s) q.F = E := ⟨_, (Int.toNat_of_nonneg (by omega)).symm⟩
      have hlv := lv_lt q.R s E q.m
      rw [hEe] at hs1 hpn ⊢
      rw [Int.toNat_natCast] at hs1 hpn
      refine sp_c (leaving_pu q s E (by omega) hSn) rfl [0, 1, 2, 3, 4, 5] ?_
      refine sxq ?_
      try with_reducible exact trivial
      refine ⟨fun h5 => ?_, fun h5 => ?_⟩
      · have hnK : n = K := by
          refine Classical.byContradiction fun h => ?_
          have := (hgn (by omega)).2
          unfold phR at this
          rw [hph, hEe, Int.toNat_natCast] at this
          omega
        subst hnK
        rw [hs, hph]
        simp only [decide_eq_false (show ¬ ent (p2 q s) q.F < 0 by omega)]
        refine ⟨_, _, [0, 1, 2, 3, 4, 5], ?_, by kernel_rfl, ?_, rfl, rfl⟩
        · refine sxq ?_
          try with_reducible exact trivial
        · refine sxq ?_
          try with_reducible exact trivial
      · have hnK : n < K := by
          refine Classical.byContradiction fun h => ?_
          have hnK : n = K := by omega
          rw [← hnK, hs] at hN
          refine hN ⟨by rw [hph]; omega, ?_⟩
          unfold phR
          rw [hph, hEe, Int.toNat_natCast]
          omega
        obtain ⟨r, hr⟩ : ∃ r : Nat, lv q.R s E q.m = r := ⟨_, (Int.toNat_of_nonneg (by omega)).symm⟩
        rw [hr] at hs1 hpn ⊢
        rw [Int.toNat_natCast] at hs1 hpn
        refine sp_mono (pivot_sp q s r E (hpn hnK) (by omega) (by omega)) ?_
        rintro _ _ ⟨rfl, rfl⟩
        refine sxq ?_
        try with_reducible exact trivial
        refine lpK_normal (n + 1) [0, 1, 2, 3, 4, 5] (by omega) (by omega) (by kernel_rfl) ?_ ?_
        · refine sxq ?_
          try with_reducible exact trivial
        · simp only [push_cast, ↓branch_true, ↓branch_false, Nat.reduceBEq, Nat.reduceAdd, Nat.reduceMul, Nat.reduceSub, Int.reduceToNat, reduceCtorEq, Int.reduceAdd, Int.reduceEq, Int.reduceLE, Int.reduceLT, Nat.reduceLT, Nat.reduceLeDiff, hs1]
end Go.Proofs.YtdeaaonppokgkaaGreat
