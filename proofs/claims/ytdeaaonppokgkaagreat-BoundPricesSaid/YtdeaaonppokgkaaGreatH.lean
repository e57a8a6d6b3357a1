/- Contract: a feasible basis (start). -/
import Derived.Test.YtdeaaonppokgkaaGreatG
import Derived.Test.YtdeaaonppokgkaaGreatPE
set_option maxRecDepth 100000
set_option linter.unusedSimpArgs false
set_option linter.unusedVariables false
namespace Go.Proofs.YtdeaaonppokgkaaGreat
open Go.RowKit Lp
theorem sp_mono {P : Program} {f : FuncId} {args : List SV} {H : List Ob} {K0 K : SV → List Ob → Prop} (h : Sp P f args H K0) (hk : ∀ r H', K0 r H' → K r H') : Sp P f args H K := by
  refine ⟨h.1, fun β w vals hI ha => (h.2 β w vals hI ha).mono ?_⟩
  rintro e w' ⟨r', u, β', H1, rfl, hK, h5, h6, h7⟩
  exact ⟨r', u, β', H1, rfl, hk _ _ hK, h5, h6, h7⟩
/-- The objects of a table. -/
def tb (q : Fm) (s : Tabl) : List Ob := tbO q s.d s.T s.b
attribute [push_cast] tb
def p1 (q : Fm) (s : Tabl) (j : Nat) : Bool := decide (0 < sm q.m (artF q s j))
def S1 (q : Fm) (s : Tabl) (n : Nat) : Tabl := phS q.m q.R q.F (artC q.F q.m) s n
theorem ent_congr {p p' : Nat → Bool} : ∀ {F : Nat}, (∀ j, j < F → p j = p' j) → ent p F = ent p' F
  | 0, _ => rfl
  | F + 1, h => by rw [ent, ent, ent_congr fun j hj => h j (by omega), h F (by omega)]
theorem phE_p1 {q : Fm} {s : Tabl} (hb : ∀ k, k < q.m → s.b k < q.F + q.m) : phE q.m q.F (artC q.F q.m) s = ent (p1 q s) q.F := by
  unfold phE
  refine ent_congr fun j hj => ?_
  unfold p1
  rw [rc_art (.inl hj), art_sum hb, decide_eq_decide]
  exact ⟨fun h => by unfold artF; omega, fun h => by unfold artF at h; omega⟩
theorem ent_next (p : Nat → Bool) (j : Nat) (h : ent p j < 0) : ent p (j + 1) = if p j = true then (j : Int) else -1 := by
  rw [ent, if_neg (by omega)]
theorem ent_stay (p : Nat → Bool) {j : Nat} (h : 0 ≤ ent p j) : ∀ {F : Nat}, j ≤ F → ent p F = ent p j
  | 0, hF => by obtain rfl : j = 0 := by omega
                rfl
  | F + 1, hF => by
    by_cases e : j = F + 1
    · rw [e]
    · have := ent_stay p h (F := F) (by omega)
      rw [ent, this, if_pos h]
theorem ent_lo (p : Nat → Bool) : ∀ j : Nat, -1 ≤ ent p j ∧ ent p j < j
  | 0 => ⟨Int.le_refl _, by show (-1 : Int) < 0; decide⟩
  | j + 1 => by
    have := ent_lo p j
    rw [ent]
    split
    · omega
    · split <;> omega
theorem ent_is {p : Nat → Bool} {F j : Nat} (hj : j < F) (h : p j = true) (h0 : ∀ i, i < j → p i = false) : ent p F = j := by
  have h1 : ent p j = -1 := by
    rcases ent_spec (p := p) (F := j) with ⟨q1, _⟩ | ⟨e, q1, q2, q3, _⟩
    · exact q1
    · rw [h0 e q1] at q3; cases q3
  have h2 : ent p (j + 1) = j := by rw [ent_next p j (by omega), if_pos h]
  rw [ent_stay p (j := j + 1) (by omega) hj, h2]
theorem ent_no {p : Nat → Bool} {F : Nat} (h0 : ∀ i, i < F → p i = false) : ent p F = -1 := by
  rcases ent_spec (p := p) (F := F) with ⟨q1, _⟩ | ⟨e, q1, q2, q3, _⟩
  · exact q1
  · rw [h0 e q1] at q3; cases q3
theorem drS_stay {F : Nat} {s : Tabl} {i : Nat} (h : ¬ (F ≤ (drS F s i).b i ∧ 0 ≤ drE F (drS F s i) i)) : drS F s (i + 1) = drS F s i := by rw [drS, if_neg h]
theorem drS_go {F : Nat} {s : Tabl} {i e : Nat} (h : F ≤ (drS F s i).b i) (he : drE F (drS F s i) i = e) : drS F s (i + 1) = pivT (drS F s i) i e := by rw [drS, if_pos ⟨h, by omega⟩, he]; rfl
/-- The inner loop of the drive. -/
def DrR (q : Fm) (u : Tabl) (i : Nat) (x : Nat × Tabl) : Prop :=
  x.1 ≤ q.F ∧ ((x.2 = u ∧ (q.F ≤ u.b i → ∀ j, j < x.1 → u.T i j = 0) ∧ (u.b i < q.F → x.1 = 0)) ∨ (q.F ≤ u.b i ∧ ∃ e, x = (e + 1, pivT u i e) ∧ drE q.F u i = e))
structure StartOk (q : Fm) (s0 : Tabl) (K : Nat) : Prop where
  R : q.F + q.m = q.R
  S : ∀ n, n ≤ K → Sml q (S1 q s0 n)
  G : ∀ n, n < K → Goes q.m q.R q.F (artC q.F q.m) (S1 q s0 n)
  P : ∀ n, n < K → Piv q (S1 q s0 n) (phR q.m q.R q.F (artC q.F q.m) (S1 q s0 n)).toNat (phE q.m q.F (artC q.F q.m) (S1 q s0 n)).toNat
  E : phE q.m q.F (artC q.F q.m) (S1 q s0 K) < 0
  D : sm q.m (artF q (S1 q s0 K) q.R) ≤ 0 → ∀ i, i < q.m → q.F ≤ (drS q.F (S1 q s0 K) i).b i → 0 ≤ drE q.F (drS q.F (S1 q s0 K) i) i → Piv q (drS q.F (S1 q s0 K) i) i (drE q.F (drS q.F (S1 q s0 K) i) i).toNat
set_option maxHeartbeats 8000000 in
theorem start_sp (q : Fm) (s0 : Tabl) (K : Nat) (hK : StartOk q s0 K) : Sp Tryz.prog 56 [.p 0 0 0] (tb q s0)
    (fun r H => r = .v (.bool (decide (sm q.m (artF q (S1 q s0 K) q.R) ≤ 0))) ∧ H = tb q (if sm q.m (artF q (S1 q s0 K) q.R) ≤ 0 then drS q.F (S1 q s0 K) q.m else S1 q s0 K)) := by
  have hS0 := hK.S 0 (Nat.zero_le _)
  have hm := hS0.m
  have hR := hS0.R
  have hFR := hK.R
  refine sp_weak ?_
  refine sp_of_ex true [] mixed Tryz.call56 Tryz.func56 rfl Tryz.ntmps56 Tryz.results56 (by decide +kernel) rfl ?_
  refine sxq ?_
  try with_reducible exact trivial
  refine tr_loop mixed (by kernel_rfl) (fun (n : Nat) => [(0, .p 0 0 0)]) (fun n => tb q (S1 q s0 n)) (fun n => n ≤ K) (fun n => K - n) 0 (Nat.zero_le _) (Mt.wk (rl := [0, 1, 2, 3, 4, 5]) ⟨by kernel_rfl, ?_, ?_⟩) ?_
  · refine sxq ?_
    try with_reducible exact trivial
    try trivial
  · refine sxq ?_
    try with_reducible exact trivial
    exact ⟨rfl, fun _ _ _ _ => rfl, fun _ _ _ _ => rfl⟩
  intro n hn
  have hSn := hK.S n hn
  have hgn := hK.G n
  have hpn := hK.P n
  have hE := hK.E
  have hs1 : S1 q s0 (n + 1) = pivT (S1 q s0 n) (phR q.m q.R q.F (artC q.F q.m) (S1 q s0 n)).toNat (phE q.m q.F (artC q.F q.m) (S1 q s0 n)).toNat := rfl
  have hph := phE_p1 (q := q) (s := S1 q s0 n) fun k hk => by have := hSn.b k hk; omega
  unfold phR at hs1 hpn
  rw [hph] at hs1 hpn
  have hel := ent_lo (p1 q (S1 q s0 n)) q.F
  generalize hs : S1 q s0 n = s at *
  refine sxq ?_
  try with_reducible exact trivial
  refine tr_loop0 mixed (by kernel_rfl) (fun (j : Nat) => [(4, .v (.int .i64 j)), (3, .v (.int .i64 (ent (p1 q s) j))), (0, .p 0 0 0)]) (fun j => j ≤ q.F) (fun j => q.F - j) 0 (Nat.zero_le _) ?_ ?_
  · refine sxq ?_
    try with_reducible exact trivial
    rfl
  intro j hj
  refine sxq ?_
  try with_reducible exact trivial
  refine ⟨fun h1 => ⟨fun h2 => ?_, fun h2 => ?_⟩, fun h1 => ?_⟩
  case refine_1 =>
    have hnx := ent_next (p1 q s) j h2
    refine sp_c (artificial_pu q s j (by omega) hSn) rfl [0, 1, 2, 3, 4, 5] ?_
    refine sxq ?_
    try with_reducible exact trivial
    refine ⟨fun h3 => ?_, fun h3 => ?_⟩
    · rw [if_pos (by unfold p1; exact decide_eq_true h3)] at hnx
      repeat (with_reducible refine And.intro (by omega) ?_)
      refine lp0_normal (j + 1) (by omega) (by omega) ?_
      simp only [push_cast, ↓branch_true, ↓branch_false, Nat.reduceBEq, Nat.reduceAdd, Nat.reduceMul, Nat.reduceSub, Int.reduceToNat, reduceCtorEq, Int.reduceAdd, Int.reduceEq, Int.reduceLE, Int.reduceLT, Nat.reduceLT, Nat.reduceLeDiff, hnx]
    · rw [if_neg (by unfold p1; simpa using h3)] at hnx
      repeat (with_reducible refine And.intro (by omega) ?_)
      refine lp0_normal (j + 1) (by omega) (by omega) ?_
      have he : ent (p1 q s) j = -1 := by have := ent_lo (p1 q s) j; omega
      simp only [push_cast, ↓branch_true, ↓branch_false, Nat.reduceBEq, Nat.reduceAdd, Nat.reduceMul, Nat.reduceSub, Int.reduceToNat, reduceCtorEq, Int.reduceAdd, Int.reduceEq, Int.reduceLE, Int.reduceLT, Nat.reduceLT, Nat.reduceLeDiff, hnx, he]
  case' refine_2 =>
    have hef : ent (p1 q s) j = ent (p1 q s) q.F := (ent_stay (p1 q s) (by omega) hj).symm
    rw [hef]
    refine ⟨fun h3 => absurd h3 (by omega), fun h3 => ?_⟩
  case' refine_3 =>
    have hef : ent (p1 q s) j = ent (p1 q s) q.F := by rw [show j = q.F by omega]
    rw [hef]
    refine ⟨fun h3 => ?_, fun h3 => ?_⟩
    · have hnK : n = K := by
        refine Classical.byContradiction fun h => ?_
        have := (hgn (by omega)).1
        omega
      subst hnK
      have hD := hK.D
      have hFb : ∀ i, i < q.m → q.F ≤ q.R := fun _ _ => by omega
      rw [hs] at hD ⊢
      refine sp_c (artificial_pu q s q.R (by omega) hSn) rfl [0, 1, 2, 3, 4, 5] ?_
      refine sxq ?_
      try with_reducible exact trivial
      refine ⟨fun h4 => ?_, fun h4 => ?_⟩
      · have hn4 : ¬ sm q.m (artF q s q.R) ≤ 0 := by omega
        simp only [decide_eq_false hn4, if_neg hn4]
        refine ⟨_, _, [0, 1, 2, 3, 4, 5], ?_, by kernel_rfl, ?_, rfl, rfl⟩
        · refine sxq ?_
          try with_reducible exact trivial
        · refine sxq ?_
          try with_reducible exact trivial
      · have hn4 : sm q.m (artF q s q.R) ≤ 0 := by omega
        have hD := hD hn4
        simp only [decide_eq_true hn4, if_pos hn4]
        refine tr_loop mixed (by kernel_rfl) (fun (i : Nat) => [(44, .v (.int .i64 i)), (43, .v (.int .i64 q.m)), (0, .p 0 0 0)]) (fun i => tb q (drS q.F s i)) (fun i => i ≤ q.m) (fun i => q.m - i) 0 (Nat.zero_le _) (Mt.wk (rl := [0, 1, 2, 3, 4, 5]) ⟨by kernel_rfl, ?_, ?_⟩) ?_
        · refine sxq ?_
          try with_reducible exact trivial
        · refine sxq ?_
          try with_reducible exact trivial
          exact ⟨rfl, fun _ _ _ _ => rfl, fun _ _ _ _ => rfl⟩
        intro i hi
        have hDi := hD i
        have hst := drS_stay (F := q.F) (s := s) (i := i)
        have hgo := fun e => drS_go (F := q.F) (s := s) (i := i) (e := e)
        generalize hu : drS q.F s i = u at *
        refine sxq ?_
        try with_reducible exact trivial
        refine ⟨fun h5 => ?_, fun h5 => ?_⟩
        · have him : i < q.m := by omega
          refine tr_loop mixed (by kernel_rfl) (fun (x : Nat × Tabl) => [(6, .v (.int .i64 x.1)), (5, .v (.int .i64 i)), (44, .v (.int .i64 i)), (43, .v (.int .i64 q.m)), (0, .p 0 0 0)]) (fun x => tb q x.2) (DrR q u i) (fun x => q.F - x.1) (0, u)
            ⟨Nat.zero_le _, .inl ⟨rfl, fun _ j hj => absurd hj (Nat.not_lt_zero _), fun _ => rfl⟩⟩ (Mt.wk (rl := [0, 1, 2, 3, 4, 5]) ⟨by kernel_rfl, ?_, ?_⟩) ?_
          · refine sxq ?_
            try with_reducible exact trivial
          · refine sxq ?_
            try with_reducible exact trivial
          rintro ⟨j, v⟩ ⟨g1, ⟨rfl, g2, g3⟩ | ⟨g2, e, g3, g4⟩⟩
          · simp only at g1 g2 g3 hDi hst hgo
            refine sxq ?_
            try with_reducible exact trivial
            refine ⟨fun h6 => ?_, fun h6 => ?_⟩
            · have hjF : j < q.F := by omega
              repeat (with_reducible refine And.intro (by omega) ?_)
              refine ⟨fun h7 => ?_, fun h7 => ?_⟩
              · have hFb : q.F ≤ v.b i := by omega
                repeat (with_reducible refine And.intro (by omega) ?_)
                refine ⟨fun h8 => ?_, fun h8 => ?_⟩
                · repeat (with_reducible refine And.intro (by omega) ?_)
                  refine lpK_normal (j + 1, v) [0, 1, 2, 3, 4, 5] ⟨by simp only; omega, .inl ⟨rfl, fun _ k hk => ?_, fun h => absurd h (Nat.not_lt_of_le hFb)⟩⟩ (by simp only; omega) (by kernel_rfl) ?_ ?_
                  · simp only at hk
                    by_cases e : k = j
                    · rw [e]; exact h8
                    · exact g2 hFb k (by omega)
                  · refine sxq ?_
                    try with_reducible exact trivial
                  · refine sxq ?_
                    try with_reducible exact trivial
                · have hdE : drE q.F v i = j := ent_is hjF (decide_eq_true h8) fun k hk => decide_eq_false fun h => h (g2 hFb k hk)
                  have hPv := hDi him hFb (by omega)
                  rw [hdE, Int.toNat_natCast] at hPv
                  refine sp_mono (pivot_sp q v i j hPv (by omega) (by omega)) ?_
                  rintro _ _ ⟨rfl, rfl⟩
                  refine sxq ?_
                  try with_reducible exact trivial
                  repeat (with_reducible refine And.intro (by omega) ?_)
                  refine lpK_normal (j + 1, pivT v i j) [0, 1, 2, 3, 4, 5] ⟨by simp only; omega, .inr ⟨hFb, j, rfl, hdE⟩⟩ (by simp only; omega) (by kernel_rfl) ?_ ?_
                  · refine sxq ?_
                    try with_reducible exact trivial
                  · refine sxq ?_
                    try with_reducible exact trivial
              · have hdr := hst fun h => by omega
                repeat (with_reducible refine And.intro (by omega) ?_)
                refine lpK_normal (i + 1) [0, 1, 2, 3, 4, 5] (by omega) (by omega) (by kernel_rfl) ?_ ?_
                · refine sxq ?_
                  try with_reducible exact trivial
                · simp only [push_cast, ↓branch_true, ↓branch_false, Nat.reduceBEq, Nat.reduceAdd, Nat.reduceMul, Nat.reduceSub, Int.reduceToNat, reduceCtorEq, Int.reduceAdd, Int.reduceEq, Int.reduceLE, Int.reduceLT, Nat.reduceLT, Nat.reduceLeDiff, hdr]
            · have hdr := hst fun h => by
                have : drE q.F v i = -1 := ent_no fun k hk => decide_eq_false fun h9 => h9 (g2 h.1 k (by omega))
                omega
              repeat (with_reducible refine And.intro (by omega) ?_)
              refine lpK_normal (i + 1) [0, 1, 2, 3, 4, 5] (by omega) (by omega) (by kernel_rfl) ?_ ?_
              · refine sxq ?_
                try with_reducible exact trivial
              · simp only [push_cast, ↓branch_true, ↓branch_false, Nat.reduceBEq, Nat.reduceAdd, Nat.reduceMul, Nat.reduceSub, Int.reduceToNat, reduceCtorEq, Int.reduceAdd, Int.reduceEq, Int.reduceLE, Int.reduceLT, Nat.reduceLT, Nat.reduceLeDiff, hdr]
          · cases g3
            simp only at g1
            have hdr := hgo e g2 g4
            have hbe : (pivT u i e).b i = e := up_same _ _ _
            refine sxq ?_
            try with_reducible exact trivial
            refine ⟨fun h6 => ?_, fun h6 => ?_⟩
            · repeat (with_reducible refine And.intro (by omega) ?_)
              intro h7
              repeat (with_reducible refine And.intro (by omega) ?_)
              refine lpK_normal (i + 1) [0, 1, 2, 3, 4, 5] (by omega) (by omega) (by kernel_rfl) ?_ ?_
              · refine sxq ?_
                try with_reducible exact trivial
              · simp only [push_cast, ↓branch_true, ↓branch_false, Nat.reduceBEq, Nat.reduceAdd, Nat.reduceMul, Nat.reduceSub, Int.reduceToNat, reduceCtorEq, Int.reduceAdd, Int.reduceEq, Int.reduceLE, Int.reduceLT, Nat.reduceLT, Nat.reduceLeDiff, hdr]
            · repeat (with_reducible refine And.intro (by omega) ?_)
              refine lpK_normal (i + 1) [0, 1, 2, 3, 4, 5] (by omega) (by omega) (by kernel_rfl) ?_ ?_
              · refine sxq ?_
                try with_reducible exact trivial
              · simp only [push_cast, ↓branch_true, ↓branch_false, Nat.reduceBEq, Nat.reduceAdd, Nat.reduceMul, Nat.reduceSub, Int.reduceToNat, reduceCtorEq, Int.reduceAdd, Int.reduceEq, Int.reduceLE, Int.reduceLT, Nat.reduceLT, Nat.reduceLeDiff, hdr]
        · obtain rfl : i = q.m := by omega
          repeat (with_reducible refine And.intro (by omega) ?_)
          refine ⟨_, _, [0, 1, 2, 3, 4, 5], ?_, by kernel_rfl, ?_, rfl, rfl⟩
          · refine sxq ?_
            try with_reducible exact trivial
          · simp only [push_cast, ↓branch_true, ↓branch_false, Nat.reduceBEq, Nat.reduceAdd, Nat.reduceMul, Nat.reduceSub, Int.reduceToNat, reduceCtorEq, Int.reduceAdd, Int.reduceEq, Int.reduceLE, Int.reduceLT, Nat.reduceLT, Nat.reduceLeDiff, hu]
  all_goals
      have hnK : n < K := by
        refine Classical.byContradiction fun h => ?_
        have hnK : n = K := by omega
        rw [← hnK, hs, hph] at hE
        omega
      obtain ⟨E, hEe⟩ : ∃ E : Nat, ent (p1 q s) q.F = E := ⟨_, (Int.toNat_of_nonneg (by omega)).symm⟩
      have hgo := (hgn hnK).2
      unfold phR at hgo
      rw [hph] at hgo
      have hlv := lv_lt q.R s E q.m
      rw [hEe] at hs1 hpn hgo ⊢
      rw [Int.toNat_natCast] at hs1 hpn hgo
      obtain ⟨r, hr⟩ : ∃ r : Nat, lv q.R s E q.m = r := ⟨_, (Int.toNat_of_nonneg hgo).symm⟩
      rw [hr] at hs1 hpn
      rw [Int.toNat_natCast] at hs1 hpn
      refine sp_c (leaving_pu q s E (by omega) hSn) rfl [0, 1, 2, 3, 4, 5] ?_
      refine sxq ?_
      try with_reducible exact trivial
      rw [hr]
      refine sp_mono (pivot_sp q s r E (hpn hnK) (by omega) (by omega)) ?_
      rintro _ _ ⟨rfl, rfl⟩
      refine sxq ?_
      try with_reducible exact trivial
      refine lpK_normal (n + 1) [0, 1, 2, 3, 4, 5] (by omega) (by omega) (by kernel_rfl) ?_ ?_
      · refine sxq ?_
        try with_reducible exact trivial
      · simp only [push_cast, ↓branch_true, ↓branch_false, Nat.reduceBEq, Nat.reduceAdd, Nat.reduceMul, Nat.reduceSub, Int.reduceToNat, reduceCtorEq, Int.reduceAdd, Int.reduceEq, Int.reduceLE, Int.reduceLT, Nat.reduceLT, Nat.reduceLeDiff, hs1]
end Go.Proofs.YtdeaaonppokgkaaGreat
