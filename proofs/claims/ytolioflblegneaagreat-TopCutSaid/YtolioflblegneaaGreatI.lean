/- Contracts: Greedy. Contracts: the reference's longest and kind; plain facts on the order of the pieces. Contracts: the reference's Greedy. -/
import Derived.Test.YtolioflblegneaaGreatE
set_option maxRecDepth 100000
set_option linter.unusedSimpArgs false
set_option linter.unusedVariables false
namespace Go.Proofs.YtolioflblegneaaGreat
open Go.RowKit
set_option maxHeartbeats 4000000 in
theorem greedy_sp (s l : List Pc) (c c2 : Nat) (hs : s.length ≤ 9223372036854775807) (hl : l.length ≤ 9223372036854775807) : Sp Tryz.prog 9 [.s 0 0 0 s.length c 2, .s 1 0 0 l.length c2 2] [rSt s, rPc l]
    (fun r H => ∃ oc cp, (gRes s l).length ≤ oc ∧ r = .t [.s 2 0 0 (gRes s l).length oc 3, .v (.int .i64 (gErr s l))] ∧ H = [rSt s, rPc l, oPt 3 (gRes s l) cp oc, oFm cp (fmP (gRes s l))]) := by
  have key : ∀ e σH, σH.length ≤ 900 → gErr s l = e → e ≠ 0 → ∃ r H2 rl, mt rl r (.t [.v (.slice none 0 0), .v (.int .i64 e)]) ∧ (keepB 0 rl 2 && nodupB (liveL rl H2) && Nat.beq rl.length H2.length) = true ∧ obsM rl ([rSt s, rPc l] ++ σH) rl H2 ∧ ∃ oc cp, (gRes s l).length ≤ oc ∧ r = .t [.s 2 0 0 (gRes s l).length oc 3, .v (.int .i64 (gErr s l))] ∧ H2 = [rSt s, rPc l, oPt 3 (gRes s l) cp oc, oFm cp (fmP (gRes s l))] := by
    intro e σH hσ he h0
    have e1 : gRes s l = [] := if_neg (by omega)
    rw [e1, he]
    refine ⟨_, _, [0, 1, 1000, 1001], ?_, by kernel_rfl, ?_, 0, fun _ => 0, Nat.le_refl _, rfl, rfl⟩
    · refine sxo ?_
      try with_reducible exact trivial
    · refine sxo ?_
      try with_reducible exact trivial
      rw [obAt_out (show σH.length ≤ 998 by omega), obAt_out (show σH.length ≤ 999 by omega)]
      refine sxo ?_
      try with_reducible exact trivial
      refine ⟨?_, ?_, Or.inr fun _ => rfl⟩
      · omega
      · omega
  refine sp_weak ?_
  refine sp_of_ex true [(25, .one 0 (.one 1 (.one 2 (.one 3 (.one 4 (.one 5 (.one 7 (.one 8 (.alt [(6, .one 9 (.one 10 (.one 11 (.one 12 (.one 13 .fin))))), (9, .one 6 (.one 10 (.one 11 (.one 12 (.one 13 .fin)))))])))))))))] mixed Tryz.call9 Tryz.func9 rfl Tryz.ntmps9 Tryz.results9 (by decide +kernel) rfl ?_
  refine sxo ?_
  try with_reducible exact trivial
  refine sp_call (validS_pu s c hs) rfl [0] rfl (by simp only [push_cast, ↓branch_true, ↓branch_false, Nat.reduceBEq, Nat.reduceAdd, Nat.reduceMul, Nat.reduceSub, Int.reduceToNat, reduceCtorEq, branch_decide, branch_not, branch_beq, branch_bne]) (by simp only [push_cast, ↓branch_true, ↓branch_false, Nat.reduceBEq, Nat.reduceAdd, Nat.reduceMul, Nat.reduceSub, Int.reduceToNat, reduceCtorEq, branch_decide, branch_not, branch_beq, branch_bne]) ?_
  refine sxo ?_
  try with_reducible exact trivial
  cases hvs : stB s with
  | false =>
    refine sxo ?_
    try with_reducible exact trivial
    exact key 1 [] (by simp) (if_pos (.inl hvs)) (by decide)
  | true =>
  refine sxo ?_
  try with_reducible exact trivial
  refine sp_call (order_pu l c2 hl) rfl [1] rfl (by simp only [push_cast, ↓branch_true, ↓branch_false, Nat.reduceBEq, Nat.reduceAdd, Nat.reduceMul, Nat.reduceSub, Int.reduceToNat, reduceCtorEq, branch_decide, branch_not, branch_beq, branch_bne]) (by simp only [push_cast, ↓branch_true, ↓branch_false, Nat.reduceBEq, Nat.reduceAdd, Nat.reduceMul, Nat.reduceSub, Int.reduceToNat, reduceCtorEq, branch_decide, branch_not, branch_beq, branch_bne]) ?_
  refine sxo ?_
  try with_reducible exact trivial
  cases hvo : orderB l with
  | false =>
    refine sxo ?_
    try with_reducible exact trivial
    exact key 1 [] (by simp) (if_pos (.inr hvo)) (by decide)
  | true =>
  refine sxo ?_
  try with_reducible exact trivial
  refine sp_at (list_sp l c2 hl) [1] rfl ?_ ?_ ?_
  · refine sxo ?_
    try with_reducible exact trivial
  · refine sxo ?_
    try with_reducible exact trivial
  rintro _ _ ⟨ln, lcap, lf, rfl, rfl⟩
  refine sxo ?_
  try with_reducible exact trivial
  have hlE : listE l = if 1000 < cntL l then 4 else 0 := if_neg (by simp [hvo])
  have hgE : gErr s l = if 1000 < cntL l then 4 else if gA s l = none then 22 else 0 := if_neg (by simp [hvs, hvo])
  refine ⟨fun hle => ?_, fun hle => ?_⟩
  rotate_left
  · have hc : 1000 < cntL l := Decidable.byContradiction fun h => hle (by rw [hlE, if_neg h])
    rw [hlE, if_pos hc]
    exact key 4 [_] (by simp) (by rw [hgE, if_pos hc]) (by decide)
  have hc : cntL l ≤ 1000 := Decidable.byContradiction fun h => by rw [hlE, if_pos (by omega)] at hle; cases hle
  rw [if_neg (by omega)] at hgE
  have hsl := (stB_yes.1 hvs).1
  have hll := order_len hvo
  have hcl := long_len hvo
  repeat (with_reducible refine And.intro (by omega) ?_)
  refine sp_at (longest_sp l c2 hvo hc) [1] rfl ?_ ?_ ?_
  · refine sxo ?_
    try with_reducible exact trivial
  · refine sxo ?_
    try with_reducible exact trivial
  rintro _ _ ⟨lc, hlc, rfl, rfl⟩
  refine sxo ?_
  try with_reducible exact trivial
  have hbig := big_eq
  refine tr_loop mixed (by kernel_rfl) (fun (x : Nat × List Br × List Int × Nat × (Nat → Nat)) => [(39, .v (.int .i64 x.1)), (38, .v (.int .i64 (longL l).length)), (37, .s 3 0 0 (longL l).length lc 1), (8, .s 2 0 0 s.length s.length 1), (9, .s 4 0 0 x.2.1.length x.2.2.2.1 3), (0, .s 0 0 0 s.length c 2), (1, .s 1 0 0 l.length c2 2)])
    (fun x => [rSt s, rPc l, rOwn 3 s.length s.length (fun k => ix x.2.2.1 k), rIO (longL l) lc, oBr 5 x.2.1 x.2.2.2.2 x.2.2.2.1, oFm x.2.2.2.2 (fmB x.2.1)])
    (fun x => x.1 ≤ (longL l).length ∧ gT s l x.1 = some (x.2.1, x.2.2.1) ∧ x.2.1.length ≤ x.2.2.2.1 ∧ ∀ k, x.2.1.length ≤ k → x.2.2.2.2 k = 0) (fun x => (longL l).length - x.1) (0, [], zeros s.length, 0, fun _ => 0) ⟨Nat.zero_le _, rfl, Nat.le_refl _, fun _ _ => rfl⟩ (Mt.wk (rl := [0, 1, 3, 4, 5, 6]) ⟨by kernel_rfl, ?_, ?_⟩) ?_
  · refine sxo ?_
    try with_reducible exact trivial
  · refine sxo ?_
    try with_reducible exact trivial
    simp only [zeros_ix]
    exact ⟨by simp, by omega, Or.inr fun _ => rfl⟩
  rintro ⟨k, o, u, oc, cp⟩ ⟨h1, h2, h3, h4⟩
  simp only at h1 h2 h3 h4
  have hok := gT_ok hvs hvo k h1 _ h2
  obtain ⟨hul, hus, hol, hbar⟩ := hok
  simp only at hul hus hol hbar
  refine sxo ?_
  try with_reducible exact trivial
  refine ⟨fun h => ?_, fun h => ?_⟩
  rotate_left
  · obtain rfl : k = (longL l).length := by omega
    rw [gT_all] at h2
    rw [if_neg (by rw [h2]; simp)] at hgE
    have hR : gRes s l = patL o := by rw [gRes, if_pos hgE, h2]; rfl
    rw [hR, hgE]
    refine sp_at (patterns_sp o (fun k => k) cp oc (big + 2) (fmB o) (fun k hk => by omega) (fun _ _ => rfl) (by omega) (fun b hb => ?_)) [4, 5] rfl ?_ ?_ ?_
    · have := hbar b hb
      have h0 : 0 < o.length := List.length_pos_of_mem hb
      have := longL_mem (ix_mem (l := longL l) (k := 0) (by omega))
      omega
    · refine sxo ?_
      try with_reducible exact trivial
    · refine sxo ?_
      try with_reducible exact trivial
    rintro _ _ ⟨oc2, cp2, hoc2, rfl, rfl⟩
    refine sxo ?_
    try with_reducible exact trivial
    refine ⟨_, _, [0, 1, 6, 7], ?_, by kernel_rfl, ?_, oc2, cp2, hoc2, rfl, rfl⟩
    · refine sxo ?_
      try with_reducible exact trivial
    · refine sxo ?_
      try with_reducible exact trivial
  have hk : k < (longL l).length := by omega
  have hi := longL_mem (ix_mem hk)
  have hsu := gT_succ (s := s) hk
  rw [h2, Option.bind_some] at hsu
  generalize hI : ix (longL l) k = i at *
  have hp := order_at hvo (k := i.toNat) (by omega)
  repeat (with_reducible refine And.intro (by omega) ?_)
  generalize hn : (ix l i.toNat).len = n at *
  refine sp_call (indexBr_pu o cp 2 oc 41 [] [.p 1 0 0] [oI n, rFm (big + 2) (fmB o)] (fun b => decide (n ≤ b.left)) rfl (by omega) fun k hk => gcl_pu o cp k (big + 2) (fmB o) n) rfl [4, 6, 5] rfl ?_ ?_ ?_
  · refine sxo ?_
    try with_reducible exact trivial
  · refine sxo ?_
    try with_reducible exact trivial
  rw [idx_fit]
  have hfl := fitAt_le n o
  have hgs : gst s l i (o, u) = if fitAt n o < o.length then some (o.set (fitAt n o) (cutBr i n (ix o (fitAt n o))), u) else if kindT s u n s.length < 0 then none else some (o ++ [cutBr i n ⟨kindT s u n s.length, (ix s (kindT s u n s.length).toNat).len, zeros l.length⟩], u.set (kindT s u n s.length).toNat (ix u (kindT s u n s.length).toNat + 1)) := by
    rw [gst]; simp only [hn]
  have hff := fitAt_fits (n := n) (o := o)
  generalize hf : fitAt n o = f at *
  by_cases hfo : f < o.length
  · rw [if_pos hfo] at hgs ⊢
    rw [hgs] at hsu
    have hff := hff hfo
    obtain ⟨b1, b2, b3, b4, b5, b6⟩ := hbar _ (ix_mem hfo)
    have hb6 := b6 i.toNat (by omega)
    refine sxo ?_
    try with_reducible exact trivial
    refine ⟨fun h => by omega, fun _ => ?_⟩
    repeat (with_reducible refine And.intro (by omega) ?_)
    refine lpK_normal (k + 1, _, u, oc, cp) [0, 1, 2, 3, 4, 5] ⟨by simp only; omega, hsu, by simp only [List.length_set]; omega, by simp only [List.length_set]; exact h4⟩ (by simp only; omega) (by kernel_rfl) ?_ ?_
    · simp only [push_cast, ↓branch_true, ↓branch_false, Nat.reduceBEq, Nat.reduceAdd, Nat.reduceMul, Nat.reduceSub, Int.reduceToNat, reduceCtorEq, branch_decide, branch_not, branch_beq, branch_bne, List.length_set]
    · simp only [push_cast, ↓branch_true, ↓branch_false, Nat.reduceBEq, Nat.reduceAdd, Nat.reduceMul, Nat.reduceSub, Int.reduceToNat, reduceCtorEq, branch_decide, branch_not, branch_beq, branch_bne, List.length_set]
      have hcb : (cutBr i n (ix o f)).ps = (ix o f).ps.set i.toNat (ix (ix o f).ps i.toNat + 1) := rfl
      refine ⟨fun x hx q hq => ?_, fun q hq => ?_⟩
      · obtain rfl : x = 0 := by omega
        by_cases eq : q = f
        · subst eq
          simp only [push_cast, ↓branch_true, ↓branch_false, Nat.reduceBEq, Nat.reduceAdd, Nat.reduceMul, Nat.reduceSub, Int.reduceToNat, reduceCtorEq, branch_decide, branch_not, branch_beq, branch_bne, ix_set_self hfo, cutBr, List.length_set]
        · have hb : (q == f) = false := by simpa using eq
          simp only [push_cast, ↓branch_true, ↓branch_false, Nat.reduceBEq, Nat.reduceAdd, Nat.reduceMul, Nat.reduceSub, Int.reduceToNat, reduceCtorEq, branch_decide, branch_not, branch_beq, branch_bne, ix_set_ne eq, hb]
      · by_cases eq : q = f
        · subst eq
          simp only [push_cast, ↓branch_true, ↓branch_false, Nat.reduceBEq, Nat.reduceAdd, Nat.reduceMul, Nat.reduceSub, Int.reduceToNat, reduceCtorEq, branch_decide, branch_not, branch_beq, branch_bne, ix_set_self hfo, cutBr, List.length_set]
          intro k' hk'
          by_cases e : k' = i.toNat
          · subst e
            simp only [push_cast, ↓branch_true, ↓branch_false, Nat.reduceBEq, Nat.reduceAdd, Nat.reduceMul, Nat.reduceSub, Int.reduceToNat, reduceCtorEq, branch_decide, branch_not, branch_beq, branch_bne, ix_set_self hk']
          · have hb : (k' == i.toNat) = false := by simpa using e
            simp only [push_cast, ↓branch_true, ↓branch_false, Nat.reduceBEq, Nat.reduceAdd, Nat.reduceMul, Nat.reduceSub, Int.reduceToNat, reduceCtorEq, branch_decide, branch_not, branch_beq, branch_bne, ix_set_ne e, hb]
        · have hb : (q == f) = false := by simpa using eq
          simp only [push_cast, ↓branch_true, ↓branch_false, Nat.reduceBEq, Nat.reduceAdd, Nat.reduceMul, Nat.reduceSub, Int.reduceToNat, reduceCtorEq, branch_decide, branch_not, branch_beq, branch_bne, ix_set_ne eq, hb]
  · obtain rfl : f = o.length := by omega
    rw [if_neg hfo] at hgs ⊢
    refine sxo ?_
    try with_reducible exact trivial
    refine ⟨fun _ => ?_, fun h => absurd (by decide) h⟩
    refine tr_loop mixed (by kernel_rfl) (fun (j : Nat) => [(55, .v (.int .i64 j)), (54, .v (.int .i64 s.length)), (53, .s 0 0 0 s.length c 2), (14, .v (.int .i64 (kindT s u n j))), (12, .p 6 0 0), (11, .v (.int .i64 i)), (39, .v (.int .i64 k)), (38, .v (.int .i64 (longL l).length)), (37, .s 3 0 0 (longL l).length lc 1), (8, .s 2 0 0 s.length s.length 1), (9, .s 4 0 0 o.length oc 3), (0, .s 0 0 0 s.length c 2), (1, .s 1 0 0 l.length c2 2)])
      (fun j => [rSt s, rPc l, rOwn 3 s.length s.length (fun k => ix u k), rIO (longL l) lc, oBr 5 o cp oc, oFm cp (fmB o), oI n]) (fun j => j ≤ s.length) (fun j => s.length - j) 0 (Nat.zero_le _) (Mt.wk (rl := [0, 1, 2, 3, 4, 5, 6]) ⟨by kernel_rfl, ?_, ?_⟩) ?_
    · simp only [push_cast, ↓branch_true, ↓branch_false, Nat.reduceBEq, Nat.reduceAdd, Nat.reduceMul, Nat.reduceSub, Int.reduceToNat, reduceCtorEq, branch_decide, branch_not, branch_beq, branch_bne, kindT]
    · refine sxo ?_
      try with_reducible exact trivial
    intro j hj
    have hkr := kindT_range s u n j
    refine sxo ?_
    try with_reducible exact trivial
    refine ⟨fun h => ?_, fun h => ?_⟩
    · repeat (with_reducible refine And.intro (by omega) ?_)
      have e1 : kindT s u n (j + 1) = if n ≤ (ix s j).len ∧ ((ix s j).cnt < 0 ∨ ix u j < (ix s j).cnt) ∧ (kindT s u n j < 0 ∨ (ix s j).len < (ix s (kindT s u n j).toNat).len) then (j : Int) else kindT s u n j := rfl
      repeat' (with_reducible (first | apply And.intro | intro _))
      all_goals try omega
      all_goals first
        | (have e2 : kindT s u n (j + 1) = j := by rw [e1, if_pos (by omega)]
           refine lpK_normal (j + 1) [0, 1, 2, 3, 4, 5, 6] (by omega) (by omega) (by kernel_rfl) ?_ ?_
           · simp only [push_cast, ↓branch_true, ↓branch_false, Nat.reduceBEq, Nat.reduceAdd, Nat.reduceMul, Nat.reduceSub, Int.reduceToNat, reduceCtorEq, branch_decide, branch_not, branch_beq, branch_bne, e2]
           · refine sxo ?_
             try with_reducible exact trivial
           )
        | (have e2 : kindT s u n (j + 1) = kindT s u n j := by rw [e1, if_neg (by omega)]
           refine lpK_normal (j + 1) [0, 1, 2, 3, 4, 5, 6] (by omega) (by omega) (by kernel_rfl) ?_ ?_
           · simp only [push_cast, ↓branch_true, ↓branch_false, Nat.reduceBEq, Nat.reduceAdd, Nat.reduceMul, Nat.reduceSub, Int.reduceToNat, reduceCtorEq, branch_decide, branch_not, branch_beq, branch_bne, e2]
           · refine sxo ?_
             try with_reducible exact trivial
           )
    · obtain rfl : j = s.length := by omega
      obtain ⟨hk1, hk2, hk3⟩ := hkr
      refine ⟨fun h0 => ?_, fun h0 => ?_⟩
      · rw [if_pos h0] at hgs
        rw [hgs] at hsu
        exact key 22 [_, _, _, _, _] (by simp) (by rw [hgE, if_pos (gT_none hsu)]) (by decide)
      rw [if_neg h0] at hgs
      rw [hgs] at hsu
      have hk3 := hk3 (by omega)
      have hu0 := hus (kindT s u n s.length).toNat (by omega)
      have hst := st_len hvs (k := (kindT s u n s.length).toNat) (by omega)
      generalize kindT s u n s.length = kd at *
      have hb0 : decide (o.length < o.length) = false := by simp
      simp only [hb0, cond_false]
      repeat' first
        | with_reducible apply And.intro
        | (with_reducible refine Or.inr ?_)
        | (with_reducible intro _)
      all_goals first
        | omega
        | skip
      all_goals
        rename_i oc2 hoc2
        simp only [push_cast, ↓branch_true, ↓branch_false, Nat.reduceBEq, Nat.reduceAdd, Nat.reduceMul, Nat.reduceSub, Int.reduceToNat, reduceCtorEq, branch_decide, branch_not, branch_beq, branch_bne, mrg1_eq, cond_true]
        repeat (with_reducible refine And.intro (by omega) ?_)
        refine lpK_wk (k + 1, _, _, oc2, fun q => bif q == o.length then l.length else cp q) ⟨by simp only; omega, hsu, by simp only [List.length_append, List.length_cons, List.length_nil]; omega, fun q hq => ?_⟩ (by simp only; omega) ((swk_place 5 o.length 7 (by omega) (by omega) (by omega) ?_).trans (Mt.wk (rl := [0, 1, 2, 3, 9, 5]) ⟨by kernel_rfl, ?_, ?_⟩))
        · simp only [List.length_append, List.length_cons, List.length_nil] at hq ⊢
          have : (q == o.length) = false := by simp; omega
          rw [this]
          exact h4 q (by omega)
        · refine sxo ?_
          try with_reducible exact trivial
          omega
        · simp only [push_cast, ↓branch_true, ↓branch_false, Nat.reduceBEq, Nat.reduceAdd, Nat.reduceMul, Nat.reduceSub, Int.reduceToNat, reduceCtorEq, branch_decide, branch_not, branch_beq, branch_bne, List.length_append]
        · simp only [push_cast, ↓branch_true, ↓branch_false, Nat.reduceBEq, Nat.reduceAdd, Nat.reduceMul, Nat.reduceSub, Int.reduceToNat, reduceCtorEq, branch_decide, branch_not, branch_beq, branch_bne, List.length_append]
          refine ⟨fun x hx q hq => ?_, fun x hx q hq => ?_, fun q hq => ?_⟩
          · obtain rfl : x = 0 := by omega
            by_cases eq : q = kd.toNat
            · subst eq
              simp only [push_cast, ↓branch_true, ↓branch_false, Nat.reduceBEq, Nat.reduceAdd, Nat.reduceMul, Nat.reduceSub, Int.reduceToNat, reduceCtorEq, branch_decide, branch_not, branch_beq, branch_bne, ix_set_self (show kd.toNat < u.length by omega)]
            · have hb : (q == kd.toNat) = false := by simpa using eq
              simp only [push_cast, ↓branch_true, ↓branch_false, Nat.reduceBEq, Nat.reduceAdd, Nat.reduceMul, Nat.reduceSub, Int.reduceToNat, reduceCtorEq, branch_decide, branch_not, branch_beq, branch_bne, ix_set_ne eq, hb]
          · obtain rfl : x = 0 := by omega
            by_cases eq : q = o.length
            · subst eq
              simp only [push_cast, ↓branch_true, ↓branch_false, Nat.reduceBEq, Nat.reduceAdd, Nat.reduceMul, Nat.reduceSub, Int.reduceToNat, reduceCtorEq, branch_decide, branch_not, branch_beq, branch_bne, ix_app_last, cutBr, List.length_set, zeros_len]
            · have hb : (q == o.length) = false := by simpa using eq
              have hb2 : decide (q < o.length) = true := by simp; omega
              simp only [push_cast, ↓branch_true, ↓branch_false, Nat.reduceBEq, Nat.reduceAdd, Nat.reduceMul, Nat.reduceSub, Int.reduceToNat, reduceCtorEq, branch_decide, branch_not, branch_beq, branch_bne, ix_app_ne eq, hb, hb2]
          · by_cases eq : q = o.length
            · subst eq
              simp only [push_cast, ↓branch_true, ↓branch_false, Nat.reduceBEq, Nat.reduceAdd, Nat.reduceMul, Nat.reduceSub, Int.reduceToNat, reduceCtorEq, branch_decide, branch_not, branch_beq, branch_bne, ix_app_last, cutBr, List.length_set, zeros_len]
              intro k' hk'
              by_cases e : k' = i.toNat
              · subst e
                simp only [push_cast, ↓branch_true, ↓branch_false, Nat.reduceBEq, Nat.reduceAdd, Nat.reduceMul, Nat.reduceSub, Int.reduceToNat, reduceCtorEq, branch_decide, branch_not, branch_beq, branch_bne, ix_set_self (show i.toNat < (zeros l.length).length by rw [zeros_len]; exact hk'), zeros_ix]
              · have hb : (k' == i.toNat) = false := by simpa using e
                simp only [push_cast, ↓branch_true, ↓branch_false, Nat.reduceBEq, Nat.reduceAdd, Nat.reduceMul, Nat.reduceSub, Int.reduceToNat, reduceCtorEq, branch_decide, branch_not, branch_beq, branch_bne, ix_set_ne e, hb, zeros_ix]
            · have hb : (q == o.length) = false := by simpa using eq
              simp only [push_cast, ↓branch_true, ↓branch_false, Nat.reduceBEq, Nat.reduceAdd, Nat.reduceMul, Nat.reduceSub, Int.reduceToNat, reduceCtorEq, branch_decide, branch_not, branch_beq, branch_bne, ix_app_ne eq, hb]
end Go.Proofs.YtolioflblegneaaGreat
namespace Go.Proofs.YtolioflblegneaaGreat
open Go.RowKit
theorem pieces_pu (l : List Pc) (c : Nat) (ho : orderB l = true) : Pu Tryz.prog 8 [.s 0 0 0 l.length c 2] [rPc l] (.v (.int .i64 (cntL l))) := by
  have hlen := order_len ho
  refine pu_of_ex true [] mixed Tryz.call8 Tryz.func8 rfl Tryz.ntmps8 Tryz.results8 (by decide +kernel) rfl rfl rfl ?_
  refine sxo ?_
  try with_reducible exact trivial
  refine tr_loop0 mixed (by kernel_rfl) (fun (k : Nat) => [(4, .v (.int .i64 k)), (3, .v (.int .i64 (cntT l k))), (0, .s 0 0 0 l.length c 2)]) (fun k => k ≤ l.length) (fun k => l.length - k) 0 (Nat.zero_le _) ?_ ?_
  · refine sxo ?_
    try with_reducible exact trivial
    rfl
  intro k hk
  have hr := cntT_range ho k hk
  refine sxo ?_
  try with_reducible exact trivial
  refine ⟨fun h => ?_, fun h => ?_⟩
  · have h2 := order_at ho (k := k) (by omega)
    have e1 := cntT_succ (l := l) (k := k) (by omega)
    repeat (with_reducible refine And.intro (by omega) ?_)
    refine lp0_normal (k + 1) (by omega) (by omega) ?_
    simp only [push_cast, ↓branch_true, ↓branch_false, Nat.reduceBEq, Nat.reduceAdd, Nat.reduceMul, Nat.reduceSub, Int.reduceToNat, reduceCtorEq, branch_decide, branch_not, branch_beq, branch_bne, e1]
  · obtain rfl : k = l.length := by omega
    rfl
theorem rep_count {l : List Pc} (i : Int) : ∀ {x : List Int}, x.Nodup → (repF l x).count i = if i ∈ x then (ix l i.toNat).cnt.toNat else 0
  | [], _ => by simp [repF]
  | j :: x, h => by
    rw [List.nodup_cons] at h
    have ih := rep_count (l := l) i h.2
    have e : repF l (j :: x) = List.replicate (ix l j.toNat).cnt.toNat j ++ repF l x := rfl
    rw [e, List.count_append, ih, List.count_replicate]
    by_cases e2 : i = j
    · subst e2
      simp [h.1]
    · have : (j == i) = false := by simp; exact fun e => e2 e.symm
      simp [this, e2]
theorem rng_nodup (n : Nat) : (rng n).Nodup := by
  unfold rng
  exact List.Pairwise.map _ (fun a b h e => h (by omega)) List.nodup_range
theorem long_count {l : List Pc} {i : Nat} (hi : i < l.length) : (longL l).count (i : Int) = (ix l i).cnt.toNat := by
  unfold longL lnO
  rw [rep_count _ ((sortK_perm _ _).nodup_iff.2 (rng_nodup _)), if_pos]
  · rw [Int.toNat_natCast]
  · refine (sortK_perm _ _).mem_iff.2 ?_
    unfold rng
    exact List.mem_map.2 ⟨i, List.mem_range.2 hi, rfl⟩
end Go.Proofs.YtolioflblegneaaGreat
namespace Go.Proofs.YtolioflblegneaaGreat
open Go.RowKit
end Go.Proofs.YtolioflblegneaaGreat
