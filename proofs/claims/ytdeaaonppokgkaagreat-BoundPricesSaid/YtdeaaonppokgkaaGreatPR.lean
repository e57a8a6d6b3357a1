/- Contract of the reference: the program of an order. -/
import Derived.Test.YtdeaaonppokgkaaGreatBD
import Derived.Test.YtdeaaonppokgkaaGreatGH
import Derived.Test.YtdeaaonppokgkaaGreatGI
set_option maxRecDepth 100000
set_option linter.unusedSimpArgs false
set_option linter.unusedVariables false
namespace Go.Proofs.YtdeaaonppokgkaaGreat.Pat
open Go.RowKit Lp
def zPm : Ob := ⟨35, false, .st [.v (.slice none 0 0), .v (.slice none 0 0)]⟩
def oRw (l : List Pc) (n i mc : Nat) (cps : Nat → Nat) (j : Nat) : Ob := ⟨58, false, .row 3 1 (fun _ => i) (fun _ => mc) (fun _ t => [.s j t 0 n (cps t) 1, .v (.int .i64 2), .v (.int .i64 (ix l t).cnt)])⟩
def oCf (P : List (List Int)) (i : Nat) (cps : Nat → Nat) : Ob := ⟨3, false, .row 1 (big + 2) (fun t => bif decide (t < i) then P.length else 0) cps (fun t k => [.v (.int .i64 (ix (ix P k) t))])⟩
attribute [push_cast] zPm oRw oCf
inductive PrgR (lim : Int) (l : List Pc) : SV → List Ob → Prop
  | limit (h1 : 6 < l.length ∨ allE lim l ≠ 0 ∨ 12 < (allL lim l).length) : PrgR lim l (.t [.a [.v (.slice none 0 0), .v (.slice none 0 0)], .v (.bool false)]) [rPc l]
  | ok (nc mc : Nat) (cps : Nat → Nat) (hb : l.length ≤ big + 2) (h6 : l.length ≤ 6) (hE : allE lim l = 0) (h12 : (allL lim l).length ≤ 12) (hp : PmOk (ordP l (allL lim l) nc mc cps hb)) :
      PrgR lim l (.t [.a [.s 1 0 0 (allL lim l).length nc 1, .s 2 0 0 l.length mc 3], .v (.bool true)]) [rPc l, rOwn 3 (allL lim l).length nc (fun _ => 1), oRw l (allL lim l).length l.length mc cps 3, oCf (allL lim l) l.length cps]
set_option maxHeartbeats 8000000 in
theorem rprog_sp (lim : Int) (l : List Pc) (c : Nat) (hl : l.length ≤ 9223372036854775806) (hg : givE lim l = 0) (h0 : 0 < l.length) (hn : givenE lim l l.length = 0 → l.length ≤ 10 → (eachG l lim).length ≤ 1000000) : Sp Tryz.prog 8 [.v (.int .i64 lim), .s 0 0 0 l.length c 2] [rPc l] (PrgR lim l) := by
  have hbig := big_eq
  obtain ⟨ho, h1, h2, h3⟩ := givE_0 hg
  have hll := order_len ho
  refine sp_weak ?_
  refine sp_of_ex true [(18, .jx (.one 0 (.one 2 (.one 3 (.one 4 (.one 6 (.alt [(1, .one 5 (.one 7 (.one 8 (.one 9 (.one 10 (.one 11 (.one 12 .fin))))))), (5, .one 7 (.alt [(1, .one 8 (.one 9 (.one 10 (.one 11 (.one 12 .fin))))), (8, .alt [(1, .one 9 (.one 10 (.one 11 (.one 12 .fin)))), (9, .one 1 (.one 10 (.one 11 (.one 12 .fin))))])]))])))))))] mixed Tryz.call8 Tryz.func8 rfl Tryz.ntmps8 Tryz.results8 (by decide +kernel) rfl ?_
  refine sxq ?_
  try with_reducible exact trivial
  refine ⟨fun c1 => ?_, fun c1 => ?_⟩
  · refine ⟨_, _, [0], ?_, by kernel_rfl, ?_, .limit (.inl (by omega))⟩
    · refine sxq ?_
      try with_reducible exact trivial
    · refine sxq ?_
      try with_reducible exact trivial
  refine sp_at (rAll_sp lim l c hl hn) [0] (by kernel_rfl) ?_ ?_ ?_
  · refine sxq ?_
    try with_reducible exact trivial
  · refine sxq ?_
    try with_reducible exact trivial
  rintro _ _ ⟨nE, E, g, caps, oc, rfl, hnE, hEl, hgE, rfl⟩
  rw [allE_eq, allL_eq] at *
  obtain ⟨P, hPe⟩ : ∃ P, P = allL lim l := ⟨_, rfl⟩
  rw [← hPe] at hgE ⊢
  refine sxq ?_
  try with_reducible exact trivial
  refine ⟨fun c3 => ⟨fun c4 => ?_, fun c4 => ?_⟩, fun c3 => ?_⟩
  · refine ⟨_, _, [0], ?_, by kernel_rfl, ?_, .limit (.inr (.inr (by rw [← hPe]; omega)))⟩
    · refine sxq ?_
      try with_reducible exact trivial
    · refine sxq ?_
      try with_reducible exact trivial
  rotate_left
  · refine ⟨_, _, [0], ?_, by kernel_rfl, ?_, .limit (.inr (.inl c3))⟩
    · refine sxq ?_
      try with_reducible exact trivial
    · refine sxq ?_
      try with_reducible exact trivial
  have hP12 : (allL lim l).length ≤ 12 := by rw [← hPe]; omega
  have hP0 : 0 < P.length := by
    obtain ⟨k0, hk0, _⟩ := line_in hg c3 h0
    rw [hPe]; omega
  refine tr_loop mixed (by kernel_rfl) (fun (x : Nat × Nat) => [(9, .v (.int .i64 x.1)), (8, .p 4 0 0), (6, .s 3 0 0 P.length oc 1), (0, .v (.int .i64 lim)), (1, .s 0 0 0 l.length c 2), (4, .p 1 0 0)])
    (fun x => [rPc l, zPm, rFam l.length nE E, oPick 2 l.length P.length oc g caps, ⟨35, false, .st [.s 5 0 0 x.1 x.2 1, .v (.slice none 0 0)]⟩, rOwn 3 x.1 x.2 (fun _ => 1)])
    (fun x => x.1 ≤ P.length ∧ x.1 ≤ x.2) (fun x => P.length - x.1) (0, 0) ⟨Nat.zero_le _, Nat.le_refl _⟩ (Mt.wk (rl := [0, 1, 2, 3, 4, 1001]) ⟨by kernel_rfl, ?_, ?_⟩) ?_
  · refine sxq ?_
    try with_reducible exact trivial
  · refine sxq ?_
    try with_reducible exact trivial
  rintro ⟨k, nc⟩ ⟨g1, g2⟩
  simp only at g1 g2
  refine sxq ?_
  try with_reducible exact trivial
  refine ⟨fun d1 => ?_, fun d1 => ?_⟩
  · refine Or.inr ⟨by omega, by omega, fun cap hcap => ?_⟩
    repeat (with_reducible refine And.intro (by omega) ?_)
    refine lpK_normal (k + 1, cap) [0, 1, 2, 3, 4, 7] ⟨by simp only; omega, by simp only; omega⟩ (by simp only; omega) (by kernel_rfl) ?_ ?_
    · refine sxq ?_
      try with_reducible exact trivial
    · refine sxq ?_
      try with_reducible exact trivial
      intro s _ q _
      by_cases e : q < k
      · rw [decide_eq_true e]
        refine sxq ?_
        try with_reducible exact trivial
      · rw [decide_eq_false e]
        refine sxq ?_
        try with_reducible exact trivial
  obtain rfl : k = P.length := by omega
  refine tr_loop mixed (by kernel_rfl) (fun (x : Nat × Nat × (Nat → Nat)) => [(10, .v (.int .i64 x.1)), (8, .p 4 0 0), (6, .s 3 0 0 P.length oc 1), (0, .v (.int .i64 lim)), (1, .s 0 0 0 l.length c 2), (4, .p 1 0 0)])
    (fun x => [rPc l, zPm, rFam l.length nE E, oPick 2 l.length P.length oc g caps, ⟨35, false, .st [.s 5 0 0 P.length nc 1, .s 6 0 0 x.1 x.2.1 3]⟩, rOwn 3 P.length nc (fun _ => 1), oRw l P.length x.1 x.2.1 x.2.2 7, oCf P x.1 x.2.2])
    (fun x => x.1 ≤ l.length ∧ x.1 ≤ x.2.1) (fun x => l.length - x.1) (0, 0, fun _ => 0) ⟨Nat.zero_le _, Nat.le_refl _⟩ (Mt.wk (rl := [0, 1, 2, 3, 4, 5, 1001, 1002]) ⟨by kernel_rfl, ?_, ?_⟩) ?_
  · refine sxq ?_
    try with_reducible exact trivial
  · refine sxq ?_
    try with_reducible exact trivial
    exact Or.inr fun s => by rw [decide_eq_false (Nat.not_lt_zero s)]; rfl
  rintro ⟨i, mc, cps⟩ ⟨g3, g4⟩
  simp only at g3 g4
  refine sxq ?_
  try with_reducible exact trivial
  refine ⟨fun d1 => ?_, fun d1 => ?_⟩
  · have hil : i < l.length := by omega
    repeat (with_reducible refine And.intro (by omega) ?_)
    refine tr_loop mixed (by kernel_rfl) (fun (x : Nat × Nat) => [(12, .v (.int .i64 x.1)), (11, .p 8 0 0), (10, .v (.int .i64 i)), (8, .p 4 0 0), (6, .s 3 0 0 P.length oc 1), (0, .v (.int .i64 lim)), (1, .s 0 0 0 l.length c 2), (4, .p 1 0 0)])
      (fun x => [rPc l, zPm, rFam l.length nE E, oPick 2 l.length P.length oc g caps, ⟨35, false, .st [.s 5 0 0 P.length nc 1, .s 6 0 0 i mc 3]⟩, rOwn 3 P.length nc (fun _ => 1), oRw l P.length i mc cps 7, oCf P i cps, ⟨58, false, .st [.s 9 0 0 x.1 x.2 1, .v (.int .i64 2), .v (.int .i64 (ix l i).cnt)]⟩, rOwn 3 x.1 x.2 (fun k => ix (ix P k) i)])
      (fun x => x.1 ≤ P.length ∧ x.1 ≤ x.2) (fun x => P.length - x.1) (0, 0) ⟨Nat.zero_le _, Nat.le_refl _⟩ (Mt.wk (rl := [0, 1, 2, 3, 4, 5, 6, 7, 8, 1001]) ⟨by kernel_rfl, ?_, ?_⟩) ?_
    · refine sxq ?_
      try with_reducible exact trivial
    · refine sxq ?_
      try with_reducible exact trivial
    rintro ⟨j, cc⟩ ⟨k1, k2⟩
    simp only at k1 k2
    refine sxq ?_
    try with_reducible exact trivial
    refine ⟨fun d2 => ?_, fun d2 => ?_⟩
    · have hjP : j < P.length := by omega
      repeat (with_reducible refine And.intro (by omega) ?_)
      obtain ⟨hgj, hgx⟩ := hgE j hjP
      refine ⟨Nat, fun _ => [(12, .v (.int .i64 j)), (11, .p 8 0 0), (10, .v (.int .i64 i)), (8, .p 4 0 0), (6, .s 3 0 0 P.length oc 1), (0, .v (.int .i64 lim)), (1, .s 0 0 0 l.length c 2), (4, .p 1 0 0)],
        fun cap => [rPc l, zPm, rFam l.length nE E, oPick 2 l.length P.length oc g caps, ⟨35, false, .st [.s 5 0 0 P.length nc 1, .s 6 0 0 i mc 3]⟩, rOwn 3 P.length nc (fun _ => 1), oRw l P.length i mc cps 7, oCf P i cps, ⟨58, false, .st [.s 9 0 0 (j + 1) cap 1, .v (.int .i64 2), .v (.int .i64 (ix l i).cnt)]⟩, rOwn 3 (j + 1) cap (fun k => ix (ix P k) i)], fun cap => j + 1 ≤ cap, ?_, ?_⟩
      · refine sxq ?_
        try with_reducible exact trivial
        repeat' (first | (with_reducible apply And.intro) | omega | (refine Or.inr ⟨by omega, by omega, fun cap hcap => ⟨cap, hcap, Mt.wk (rl := [0, 1, 2, 3, 4, 5, 6, 7, 8, 11]) ⟨by kernel_rfl, ?_, ?_⟩⟩⟩))
        all_goals
          simp only [push_cast, ↓branch_true, ↓branch_false, Nat.reduceBEq, Nat.reduceAdd, Nat.reduceMul, Nat.reduceSub, Int.reduceToNat, reduceCtorEq, Int.reduceAdd, Int.reduceEq, Int.reduceLE, Int.reduceLT, Nat.reduceLT, Nat.reduceLeDiff, hgx]
          try exact lf3 (fun k => ix (ix P k) i)
      · intro cap hcap
        have hcap : j + 1 ≤ cap := hcap
        simp only [jnK]
        refine sxq ?_
        try with_reducible exact trivial
        repeat (with_reducible refine And.intro (by omega) ?_)
        refine lpK_normal (j + 1, cap) [0, 1, 2, 3, 4, 5, 6, 7, 8, 9] ⟨by simp only; omega, by simp only; omega⟩ (by simp only; omega) (by kernel_rfl) ?_ ?_
        · refine sxq ?_
          try with_reducible exact trivial
        · refine sxq ?_
          try with_reducible exact trivial
    · obtain rfl : j = P.length := by omega
      refine Or.inr ⟨by omega, by omega, fun mc2 hmc2 => ?_⟩
      repeat (with_reducible refine And.intro (by omega) ?_)
      refine lpK_wk (i + 1, mc2, fun t => bif t == i then cc else cps t) ⟨by simp only; omega, by simp only; omega⟩ (by simp only; omega) ((swk_place 7 i 9 (by omega) (by omega) (by omega) ?_).trans (Mt.wk (rl := [0, 1, 2, 3, 4, 5, 11, 7]) ⟨by kernel_rfl, ?_, ?_⟩))
      · refine sxq ?_
        try with_reducible exact trivial
        omega
      · refine sxq ?_
        try with_reducible exact trivial
      · refine sxq ?_
        try with_reducible exact trivial
        refine ⟨fun _ _ k hk => ?_, fun s _ => ⟨?_, fun k _ => ?_⟩⟩
        · by_cases e : k = i
          · subst e
            simp only [Nat.lt_irrefl, decide_false, cond_false, beq_self_eq_true, cond_true]
            refine sxq ?_
            try with_reducible exact trivial
            try exact ⟨rfl, rfl, rfl⟩
          · have eb : (k == i) = false := by simpa using e
            simp only [decide_eq_true (show k < i by omega), cond_true, eb, cond_false]
            simp only [push_cast, ↓branch_true, ↓branch_false, Nat.reduceBEq, Nat.reduceAdd, Nat.reduceMul, Nat.reduceSub, Int.reduceToNat, reduceCtorEq, Int.reduceAdd, Int.reduceEq, Int.reduceLE, Int.reduceLT, Nat.reduceLT, Nat.reduceLeDiff, eb]
            try exact ⟨rfl, rfl⟩
        · by_cases e : s = i
          · subst e
            simp only [beq_self_eq_true, cond_true, decide_eq_true (Nat.lt_succ_self s)]
            exact Nat.le_refl _
          · have eb : (s == i) = false := by simpa using e
            rw [eb, show decide (s < i + 1) = decide (s < i) by rw [decide_eq_decide]; omega]
            exact Nat.le_refl _
        · by_cases e : s = i
          · subst e
            simp only [beq_self_eq_true, cond_true]
            refine sxq ?_
            try with_reducible exact trivial
          · have eb : (s == i) = false := by simpa using e
            simp only [eb, cond_false]
            refine sxq ?_
            try with_reducible exact trivial
  · obtain rfl : i = l.length := by omega
    have hb2 : l.length ≤ big + 2 := by omega
    have hv := ord_v hg c3 h0 (by omega) hP12 nc mc cps hb2
    have hP : PmOk (ordP l (allL lim l) nc mc cps hb2) := pmok_of (by show (allL lim l).length ≤ nc; rw [← hPe]; omega) (by show l.length ≤ mc; omega) hv
    have hR := PrgR.ok nc mc cps hb2 (by omega) c3 hP12 hP
    rw [← hPe] at hR
    refine ⟨_, _, [0, 5, 6, 7], ?_, by kernel_rfl, ?_, hR⟩
    · refine sxq ?_
      try with_reducible exact trivial
    · refine sxq ?_
      try with_reducible exact trivial
      try exact fun _ _ => Nat.le_refl _
end Go.Proofs.YtdeaaonppokgkaaGreat.Pat
