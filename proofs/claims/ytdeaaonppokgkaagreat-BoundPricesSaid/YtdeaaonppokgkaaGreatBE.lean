/- Contract: best prices. -/
import Derived.Test.YtdeaaonppokgkaaGreatGE
import Derived.Test.YtdeaaonppokgkaaGreatBR9
import Derived.Test.YtdeaaonppokgkaaGreatBC
import Derived.Test.YtdeaaonppokgkaaGreatBD
set_option maxRecDepth 100000
set_option linter.unusedSimpArgs false
set_option linter.unusedVariables false
namespace Go.Proofs.YtdeaaonppokgkaaGreat.Pat
open Go.RowKit Lp
def nilP (e : Int) : SV := .t [.v (.slice none 0 0), frV 0 0, .v (.int .i64 e)]
attribute [push_cast] nilP
inductive PrcR (lim : Int) (l : List Pc) : SV → List Ob → Prop
  | given (h : givE lim l ≠ 0) : PrcR lim l (nilP (givE lim l)) [rPc l]
  | none (h : givE lim l = 0) (h0 : l.length = 0) : PrcR lim l (.t [.s 1 0 0 0 0 2, frV 0 1, .v (.int .i64 0)]) [rPc l, oFr 0 0 (fun _ => 0) 1]
  | limit (h : givE lim l = 0) (h0 : 0 < l.length) (h1 : 6 < l.length ∨ allE lim l ≠ 0 ∨ 12 < (allL lim l).length) : PrcR lim l (nilP 6) [rPc l]
  | big (nc mc : Nat) (cps : Nat → Nat) (hb : l.length ≤ big + 2) (h : givE lim l = 0) (h0 : 0 < l.length) (h6 : l.length ≤ 6) (hE : allE lim l = 0) (h12 : (allL lim l).length ≤ 12) (hp : PmOk (ordP l (allL lim l) nc mc cps hb)) (hf : fitB (ordP l (allL lim l) nc mc cps hb) = false) : PrcR lim l (nilP 5) [rPc l]
  | ok (nc mc cy : Nat) (cps : Nat → Nat) (hb : l.length ≤ big + 2) (s : Tabl) (h : givE lim l = 0) (h0 : 0 < l.length) (h6 : l.length ≤ 6) (hE : allE lim l = 0) (h12 : (allL lim l).length ≤ 12) (hp : PmOk (ordP l (allL lim l) nc mc cps hb)) (hv : vPm (ordP l (allL lim l) nc mc cps hb) = true) (hf : fitB (ordP l (allL lim l) nc mc cps hb) = true) (hL : Last (ordP l (allL lim l) nc mc cps hb) s) (hz : (valP (ordP l (allL lim l) nc mc cps hb) s).natAbs ≤ 1152921504606846976 ∧ s.d ≤ 144115188075855872) :
      PrcR lim l (.t [.s 1 0 0 l.length cy 2, frV (rn (valP (ordP l (allL lim l) nc mc cps hb) s) s.d.toNat) (rd (valP (ordP l (allL lim l) nc mc cps hb) s) s.d.toNat : Nat), .v (.int .i64 0)]) [rPc l, oFr l.length cy (mulP (ordP l (allL lim l) nc mc cps hb) s) s.d.toNat]
def zFr : Ob := ⟨27, false, .st [.v (.int .i64 0), .v (.int .i64 0)]⟩
def bxO (n nc i mc : Nat) : Ob := ⟨35, false, .st [.s 4 0 0 n nc 1, .s 6 0 0 i mc 3]⟩
def oRo (l : List Pc) (n i mc : Nat) (cps : Nat → Nat) : Ob := ⟨58, false, .row 3 1 (fun _ => i) (fun _ => mc) (fun _ t => [.s 7 t 0 n (cps t) 1, .v (.int .i64 2), .v (.int .i64 (ix l t).cnt)])⟩
def oFo (P : List (List Int)) (i : Nat) (cps : Nat → Nat) : Ob := ⟨3, false, .row 1 (big + 2) (fun t => bif decide (t < i) then P.length else 0) cps (fun t k => [.v (.int .i64 (ix (ix P k) t))])⟩
attribute [push_cast] zFr bxO oRo oFo
set_option maxHeartbeats 8000000 in
theorem prices_sp (lim : Int) (l : List Pc) (c : Nat) (hl : l.length ≤ 9223372036854775807) : Sp Tryz.prog 6 [.v (.int .i64 lim), .s 0 0 0 l.length c 2] [rPc l] (PrcR lim l) := by
  have hbig := big_eq
  refine sp_weak ?_
  refine sp_of_ex true [(6, .one 1 (.one 2 (.one 0 (.one 3 (.one 4 .fin))))), (22, .jx (.one 0 (.one 2 (.one 3 (.one 4 (.alt [(1, .one 5 (.one 6 (.one 7 (.one 8 (.one 9 .fin))))), (5, .alt [(1, .one 6 (.one 7 (.one 8 (.one 9 .fin)))), (6, .one 1 (.one 7 (.one 8 (.one 9 .fin))))])])))))), (29, .one 0 (.one 2 (.alt [(1, .one 4 (.one 3 (.one 5 (.one 6 .fin)))), (3, .one 1 (.one 4 (.one 5 (.one 6 .fin))))])))] mixed Tryz.call6 Tryz.func6 rfl Tryz.ntmps6 Tryz.results6 (by decide +kernel) rfl ?_
  refine sxq ?_
  try with_reducible exact trivial
  refine sp_c (bgiven_pu lim l c hl) rfl [0] ?_
  refine sxq ?_
  try with_reducible exact trivial
  by_cases hg : givE lim l = 0
  rotate_left
  · refine ⟨fun h => absurd h hg, fun _ => ?_⟩
    refine ⟨_, _, [0], ?_, by kernel_rfl, ?_, .given hg⟩
    · refine sxq ?_
      try with_reducible exact trivial
    · refine sxq ?_
      try with_reducible exact trivial
  obtain ⟨ho, h1, h2, h3⟩ := givE_0 hg
  have hll := order_len ho
  rw [hg]
  refine sxq ?_
  try with_reducible exact trivial
  refine ⟨fun c1 => ?_, fun c1 => ⟨fun c2 => ?_, fun c2 => ?_⟩⟩
  · have hmk := make_pu 0 1 (by decide) (by decide) (by decide)
    have e : sgR (decide ((0 : Int) < 0)) ((0 : Int).natAbs / Nat.gcd (0 : Int).natAbs 1) (1 / Nat.gcd (0 : Int).natAbs 1) = .t [frV 0 1, .v (.int .i64 0)] := rfl
    rw [e] at hmk
    refine sp_call hmk rfl [] rfl ?_ ?_ ?_
    · refine sxq ?_
      try with_reducible exact trivial
      try trivial
    · refine sxq ?_
      try with_reducible exact trivial
    refine sxq ?_
    try with_reducible exact trivial
    refine ⟨_, _, [0, 1001], ?_, by kernel_rfl, ?_, .none hg (by omega)⟩
    · refine sxq ?_
      try with_reducible exact trivial
    · refine sxq ?_
      try with_reducible exact trivial
  · refine ⟨_, _, [0], ?_, by kernel_rfl, ?_, .limit hg (by omega) (.inl (by omega))⟩
    · refine sxq ?_
      try with_reducible exact trivial
    · refine sxq ?_
      try with_reducible exact trivial
  refine sp_at (allX_sp lim l c hl) [0] (by kernel_rfl) ?_ ?_ ?_
  · refine sxq ?_
    try with_reducible exact trivial
  · refine sxq ?_
    try with_reducible exact trivial
  rintro _ _ ⟨oc, caps, rfl, hP, rfl⟩
  obtain ⟨P, hPe⟩ : ∃ P, P = allL lim l := ⟨_, rfl⟩
  rw [← hPe] at hP ⊢
  refine sxq ?_
  try with_reducible exact trivial
  refine ⟨fun c3 => ⟨fun c4 => ?_, fun c4 => ?_⟩, fun c3 => ?_⟩
  · refine ⟨_, _, [0], ?_, by kernel_rfl, ?_, .limit hg (by omega) (.inr (.inr (by rw [← hPe]; omega)))⟩
    · refine sxq ?_
      try with_reducible exact trivial
    · refine sxq ?_
      try with_reducible exact trivial
  rotate_left
  · have e6 : allE lim l = 6 := by
      have hgi : givenE lim l l.length = 0 := by
        unfold givenE
        rw [if_neg (by rw [ho]; decide), if_neg (by omega), if_pos (by omega)]
      unfold allE at c3 ⊢
      rw [if_neg (by omega)] at c3 ⊢
      rw [if_neg (by omega)] at c3 ⊢
      by_cases h7 : 1000 < (allG l l [] lim).length
      · rw [if_pos h7]
      · rw [if_neg h7] at c3; exact absurd rfl c3
    rw [e6]
    refine ⟨_, _, [0], ?_, by kernel_rfl, ?_, .limit hg (by omega) (.inr (.inl c3))⟩
    · refine sxq ?_
      try with_reducible exact trivial
    · refine sxq ?_
      try with_reducible exact trivial
  have hP12 : (allL lim l).length ≤ 12 := by rw [← hPe]; omega
  have hP0 : 0 < P.length := by
    obtain ⟨k0, hk0, _⟩ := line_in hg c3 (show 0 < l.length by omega)
    rw [hPe]; omega
  refine sp_at (repeat_sp 1 P.length 1 (by omega) (by omega)) [4] (by kernel_rfl) ?_ ?_ ?_
  · refine sxq ?_
    try with_reducible exact trivial
  · refine sxq ?_
    try with_reducible exact trivial
    intro i _ k hk
    obtain rfl : k = 0 := by omega
    refine sxq ?_
    try with_reducible exact trivial
  rintro _ _ ⟨nc, hnc, rfl, rfl⟩
  refine sxq ?_
  try with_reducible exact trivial
  refine tr_loop mixed (by kernel_rfl) (fun (x : Nat × Nat × (Nat → Nat)) => [(60, .v (.int .i64 x.1)), (59, .v (.int .i64 l.length)), (58, .s 0 0 0 l.length c 2), (10, .s 3 0 0 P.length oc 1), (12, .p 5 0 0), (5, .p 1 0 0)])
    (fun x => [rPc l, zFr, oFam l.length P.length caps P, oOutJ 2 l.length P.length oc caps, rOwn 3 P.length nc (fun _ => 1), bxO P.length nc x.1 x.2.1, oRo l P.length x.1 x.2.1 x.2.2, oFo P x.1 x.2.2])
    (fun x => x.1 ≤ l.length ∧ x.1 ≤ x.2.1) (fun x => l.length - x.1) (0, 0, fun _ => 0) ⟨Nat.zero_le _, Nat.le_refl _⟩ (Mt.wk (rl := [0, 1, 2, 3, 5, 6, 1001, 1002]) ⟨by kernel_rfl, ?_, ?_⟩) ?_
  · refine sxq ?_
    try with_reducible exact trivial
  · refine sxq ?_
    try with_reducible exact trivial
    exact Or.inr fun s => by rw [decide_eq_false (Nat.not_lt_zero s)]; rfl
  rintro ⟨i, mc, cps⟩ ⟨g1, g2⟩
  simp only at g1 g2
  refine sxq ?_
  try with_reducible exact trivial
  refine ⟨fun d1 => ?_, fun d1 => ?_⟩
  · have hil : i < l.length := by omega
    repeat (with_reducible refine And.intro (by omega) ?_)
    refine tr_loop mixed (by kernel_rfl) (fun (x : Nat × Nat) => [(70, .v (.int .i64 x.1)), (69, .v (.int .i64 P.length)), (68, .s 3 0 0 P.length oc 1), (15, .p 8 0 0), (13, .v (.int .i64 i)), (60, .v (.int .i64 i)), (59, .v (.int .i64 l.length)), (58, .s 0 0 0 l.length c 2), (10, .s 3 0 0 P.length oc 1), (12, .p 5 0 0), (5, .p 1 0 0)])
      (fun x => [rPc l, zFr, oFam l.length P.length caps P, oOutJ 2 l.length P.length oc caps, rOwn 3 P.length nc (fun _ => 1), bxO P.length nc i mc, oRo l P.length i mc cps, oFo P i cps, ⟨58, false, .st [.s 9 0 0 x.1 x.2 1, .v (.int .i64 2), .v (.int .i64 (ix l i).cnt)]⟩, rOwn 3 x.1 x.2 (fun k => ix (ix P k) i)])
      (fun x => x.1 ≤ P.length ∧ x.1 ≤ x.2) (fun x => P.length - x.1) (0, 0) ⟨Nat.zero_le _, Nat.le_refl _⟩ (Mt.wk (rl := [0, 1, 2, 3, 4, 5, 6, 7, 9, 1001]) ⟨by kernel_rfl, ?_, ?_⟩) ?_
    · refine sxq ?_
      try with_reducible exact trivial
    · refine sxq ?_
      try with_reducible exact trivial
    rintro ⟨j, cc⟩ ⟨k1, k2⟩
    simp only at k1 k2
    refine sxq ?_
    try with_reducible exact trivial
    refine ⟨fun d2 => ?_, fun d2 => ?_⟩
    · have hjP : j < P.length := by omega
      repeat (with_reducible refine And.intro (by omega) ?_)
      refine ⟨Nat, fun _ => [(70, .v (.int .i64 j)), (69, .v (.int .i64 P.length)), (68, .s 3 0 0 P.length oc 1), (15, .p 8 0 0), (13, .v (.int .i64 i)), (60, .v (.int .i64 i)), (59, .v (.int .i64 l.length)), (58, .s 0 0 0 l.length c 2), (10, .s 3 0 0 P.length oc 1), (12, .p 5 0 0), (5, .p 1 0 0)],
        fun cap => [rPc l, zFr, oFam l.length P.length caps P, oOutJ 2 l.length P.length oc caps, rOwn 3 P.length nc (fun _ => 1), bxO P.length nc i mc, oRo l P.length i mc cps, oFo P i cps, ⟨58, false, .st [.s 9 0 0 (j + 1) cap 1, .v (.int .i64 2), .v (.int .i64 (ix l i).cnt)]⟩, rOwn 3 (j + 1) cap (fun k => ix (ix P k) i)], fun cap => j + 1 ≤ cap, ?_, ?_⟩
      · refine sxq ?_
        try with_reducible exact trivial
        repeat' (first | (with_reducible apply And.intro) | omega | (refine Or.inr ⟨by omega, by omega, fun cap hcap => ⟨cap, hcap, Mt.wk (rl := [0, 1, 2, 3, 4, 5, 6, 7, 8, 11]) ⟨by kernel_rfl, ?_, ?_⟩⟩⟩))
        all_goals
          refine sxq ?_
          try with_reducible exact trivial
          try exact lf3 (fun k => ix (ix P k) i)
      · intro cap hcap
        have hcap : j + 1 ≤ cap := hcap
        simp only [jnK]
        refine sxq ?_
        try with_reducible exact trivial
        repeat (with_reducible refine And.intro (by omega) ?_)
        refine lpK_normal (j + 1, cap) [0, 1, 2, 3, 4, 5, 6, 7, 8, 9] ⟨by simp only; omega, by simp only; omega⟩ (by simp only; omega) (by kernel_rfl) ?_ ?_
        · refine sxq ?_
          try with_reducible exact trivial
        · refine sxq ?_
          try with_reducible exact trivial
    · obtain rfl : j = P.length := by omega
      refine Or.inr ⟨by omega, by omega, fun mc2 hmc2 => ?_⟩
      repeat (with_reducible refine And.intro (by omega) ?_)
      refine lpK_wk (i + 1, mc2, fun t => bif t == i then cc else cps t) ⟨by simp only; omega, by simp only; omega⟩ (by simp only; omega) ((swk_place 7 i 9 (by omega) (by omega) (by omega) ?_).trans (Mt.wk (rl := [0, 1, 2, 3, 4, 5, 11, 7]) ⟨by kernel_rfl, ?_, ?_⟩))
      · refine sxq ?_
        try with_reducible exact trivial
        omega
      · refine sxq ?_
        try with_reducible exact trivial
      · refine sxq ?_
        try with_reducible exact trivial
        refine ⟨fun _ _ k hk => ?_, fun s _ => ⟨?_, fun k _ => ?_⟩⟩
        · by_cases e : k = i
          · subst e
            simp only [Nat.lt_irrefl, decide_false, cond_false, beq_self_eq_true, cond_true]
            refine sxq ?_
            try with_reducible exact trivial
            try exact ⟨rfl, rfl, rfl⟩
          · have eb : (k == i) = false := by simpa using e
            simp only [decide_eq_true (show k < i by omega), cond_true, eb, cond_false]
            simp only [push_cast, ↓branch_true, ↓branch_false, Nat.reduceBEq, Nat.reduceAdd, Nat.reduceMul, Nat.reduceSub, Int.reduceToNat, reduceCtorEq, Int.reduceAdd, Int.reduceEq, Int.reduceLE, Int.reduceLT, Nat.reduceLT, Nat.reduceLeDiff, eb]
            try exact ⟨rfl, rfl⟩
        · by_cases e : s = i
          · subst e
            simp only [beq_self_eq_true, cond_true, decide_eq_true (Nat.lt_succ_self s)]
            exact Nat.le_refl _
          · have eb : (s == i) = false := by simpa using e
            rw [eb, show decide (s < i + 1) = decide (s < i) by rw [decide_eq_decide]; omega]
            exact Nat.le_refl _
        · by_cases e : s = i
          · subst e
            simp only [beq_self_eq_true, cond_true]
            refine sxq ?_
            try with_reducible exact trivial
          · have eb : (s == i) = false := by simpa using e
            simp only [eb, cond_false]
            refine sxq ?_
            try with_reducible exact trivial
  · obtain rfl : i = l.length := by omega
    have hb2 : l.length ≤ big + 2 := by omega
    obtain ⟨q, hq⟩ : ∃ q, q = ordP l P nc mc cps hb2 := ⟨_, rfl⟩
    have qn : q.n = P.length := by rw [hq]; rfl
    have qnc : q.nc = nc := by rw [hq]; rfl
    have qm : q.m = l.length := by rw [hq]; rfl
    have qmc : q.mc = mc := by rw [hq]; rfl
    have qv : vPm q = true := by rw [hq, hPe]; exact ord_v hg c3 (by omega) (by omega) hP12 nc mc cps _
    have qok : PmOk q := pmok_of (by omega) (by omega) qv
    have hso := solve_sp q (fun _ => qok) (fun t ht => by have := qok.ln t ht; omega) (by omega) (by omega)
    refine sp_at hso [4, 6, 7] (by kernel_rfl) ?_ ?_ ?_
    · refine sxq ?_
      try with_reducible exact trivial
      exact ⟨⟨qn, qnc⟩, qm, qmc⟩
    · have hln : ∀ t, t < l.length → (ordP l P nc mc cps hb2).ln t = P.length := fun t ht => by
        show (bif decide (t < l.length) then _ else 0) = _
        rw [decide_eq_true ht]; rfl
      rw [hq]
      refine sxq ?_
      try with_reducible exact trivial
      refine ⟨fun _ _ => ⟨Nat.le_refl _, fun _ _ => rfl⟩, fun _ _ => ⟨Nat.le_refl _, fun k hk => ⟨⟨hln k hk, rfl⟩, rfl, rfl⟩⟩, rfl, fun s _ => ⟨Nat.le_refl _, fun _ _ => rfl⟩⟩
    intro r0 H0 hS
    cases hS with
    | ok s cx cy _ hf hL _ _ hz =>
      rw [hq, hPe] at qok qv hf hL hz
      have hok := PrcR.ok nc mc cy cps _ s hg (by omega) (by omega) c3 hP12 qok qv hf hL hz
      have e1 : valP q s = valP (ordP l (allL lim l) nc mc cps hb2) s := by rw [hq, hPe]
      refine sxq ?_
      try with_reducible exact trivial
      refine ⟨⟨_, _, [0, 9], ?_, by kernel_rfl, ?_, hok⟩, _, _, [0, 9], ?_, by kernel_rfl, ?_, hok⟩
      · rw [qm, e1]
        refine sxq ?_
        try with_reducible exact trivial
      · rw [hq, hPe]
        refine sxq ?_
        try with_reducible exact trivial
        exact fun _ _ => Nat.le_refl _
      · rw [qm, e1]
        refine sxq ?_
        try with_reducible exact trivial
      · rw [hq, hPe]
        refine sxq ?_
        try with_reducible exact trivial
        exact fun _ _ => Nat.le_refl _
    | bad e h =>
      have e5 : e = 5 ∧ fitB q = false := by
        rcases h with ⟨h, _⟩ | ⟨_, h, he⟩ | ⟨_, _, ⟨_, Y, hY⟩ | ⟨_, _, W, hW⟩⟩
        · rw [qv] at h; cases h
        · exact ⟨he, h⟩
        · rw [hq, hPe] at hY
          exact (farkas_no (ord_prim hg c3 nc mc cps _) hY.1 hY.2).elim
        · rw [hq, hPe] at hW
          exact (ray_no hW (by decide) (ord_dual nc mc cps _ 1 (by decide))).elim
      obtain ⟨rfl, hfb⟩ := e5
      rw [hq, hPe] at qok hfb
      refine sxq ?_
      try with_reducible exact trivial
      refine ⟨_, _, [0], ?_, by kernel_rfl, ?_, .big nc mc cps _ hg (by omega) (by omega) c3 hP12 qok hfb⟩
      · refine sxq ?_
        try with_reducible exact trivial
      · refine sxq ?_
        try with_reducible exact trivial
end Go.Proofs.YtdeaaonppokgkaaGreat.Pat
