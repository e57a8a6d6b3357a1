/- StepsShort: the law's walk. -/
import Derived.Test.YtekokeiajgcfkaaTB
import Derived.Test.YtekokeiajgcfkaaTE
import Derived.Test.YtekokeiajgcfkaaT
import Derived.Test.YtekokeiajgcfkaaP
import Derived.Test.YtekokeiajgcfkaaDA
set_option maxRecDepth 100000
set_option linter.unusedSimpArgs false
set_option linter.unusedVariables false
namespace Go.Proofs.Ytekokeiajgcfkaa
open Go.RowKit
theorem from_pu (l : List Stp) (x : Int) (q : Stp) : Pu Try.prog 32 [.a (cSt q), .p 1 0 0] [rSt l, ⟨3, true, .st [.v (.int .i64 x)]⟩] (.v (.bool (decide (x ≤ q.x)))) := by
  refine pu_of_ex true [] mixed Try.call32 Try.func32 rfl Try.ntmps32 Try.results32 (by decide +kernel) rfl rfl rfl ?_
  simp only [push_cast, ↓branch_true, ↓branch_false, Nat.reduceBEq, Nat.reduceAdd, Nat.reduceMul, Nat.reduceSub, Int.reduceToNat, reduceCtorEq, branch_decide, branch_not, branch_beq, branch_bne]
  try trivial
theorem first_pu (l : List Stp) (x : Int) (c : Nat) (hl : l.length ≤ 9223372036854775807) : Pu Try.prog 31 [.s 0 0 0 l.length c 2, .f (.func 32) [] [.p 1 0 0]] [rSt l, ⟨3, true, .st [.v (.int .i64 x)]⟩] (.v (.int .i64 (idxB (fun q => decide (x ≤ q.x)) l 0))) :=
  indexSt_pu l c 32 [] [.p 1 0 0] [⟨3, true, .st [.v (.int .i64 x)]⟩] (fun q => decide (x ≤ q.x)) rfl hl fun q _ => from_pu l x q
set_option maxHeartbeats 4000000 in
theorem lshort_sp (l : List Stp) (x : Int) (c : Nat) (hl : l.length ≤ 9223372036854775807) : Sp Try.prog 9 [.s 0 0 0 l.length c 2, .v (.int .i64 x)] [rSt l] (fun r _ => r = .v (.bool true)) := by
  refine sp_of_ex true [(14, .one 0 (.one 1 (.one 2 (.one 3 (.one 4 (.one 5 (.one 6 (.one 7 (.one 8 (.one 9 (.one 10 (.one 11 (.one 13 (.one 14 (.one 15 (.one 16 (.one 17 (.alt [(12, .one 18 (.one 19 (.one 20 (.one 21 .fin)))), (18, .one 12 (.one 19 (.one 20 (.one 21 .fin))))])))))))))))))))))), (21, .jn (.one 0 (.one 1 (.one 2 (.one 3 (.one 4 (.one 5 (.one 6 (.one 7 (.one 8 (.alt [(9, .one 10 (.one 11 (.one 12 .fin))), (10, .one 9 (.one 11 (.one 12 .fin)))])))))))))))] mixed Try.call9 Try.func9 rfl Try.ntmps9 Try.results9 (by decide +kernel) rfl ?_
  simp only [push_cast, ↓branch_true, ↓branch_false, Nat.reduceBEq, Nat.reduceAdd, Nat.reduceMul, Nat.reduceSub, Int.reduceToNat, reduceCtorEq, branch_decide, branch_not, branch_beq, branch_bne]
  refine sp_at awake_sp [] rfl ?_ ?_ ?_
  · simp only [push_cast, ↓branch_true, ↓branch_false, Nat.reduceBEq, Nat.reduceAdd, Nat.reduceMul, Nat.reduceSub, Int.reduceToNat, reduceCtorEq, branch_decide, branch_not, branch_beq, branch_bne]
  · simp only [push_cast, ↓branch_true, ↓branch_false, Nat.reduceBEq, Nat.reduceAdd, Nat.reduceMul, Nat.reduceSub, Int.reduceToNat, reduceCtorEq, branch_decide, branch_not, branch_beq, branch_bne]
  rintro _ _ ⟨rfl, rfl⟩
  simp only [push_cast, ↓branch_true, ↓branch_false, Nat.reduceBEq, Nat.reduceAdd, Nat.reduceMul, Nat.reduceSub, Int.reduceToNat, reduceCtorEq, branch_decide, branch_not, branch_beq, branch_bne]
  intro h0 h1 h2
  have hl2 : l.length ≤ 250 := by omega
  refine sp_at (Short_sp l c hl2) [0] rfl ?_ ?_ ?_
  · simp only [push_cast, ↓branch_true, ↓branch_false, Nat.reduceBEq, Nat.reduceAdd, Nat.reduceMul, Nat.reduceSub, Int.reduceToNat, reduceCtorEq, branch_decide, branch_not, branch_beq, branch_bne]
  · simp only [push_cast, ↓branch_true, ↓branch_false, Nat.reduceBEq, Nat.reduceAdd, Nat.reduceMul, Nat.reduceSub, Int.reduceToNat, reduceCtorEq, branch_decide, branch_not, branch_beq, branch_bne]
  rintro _ _ ⟨cap, hcap, rfl, rfl⟩
  simp only [push_cast, ↓branch_true, ↓branch_false, Nat.reduceBEq, Nat.reduceAdd, Nat.reduceMul, Nat.reduceSub, Int.reduceToNat, reduceCtorEq, branch_decide, branch_not, branch_beq, branch_bne]
  cases hv : validB l with
  | false =>
    simp only [push_cast, ↓branch_true, ↓branch_false, Nat.reduceBEq, Nat.reduceAdd, Nat.reduceMul, Nat.reduceSub, Int.reduceToNat, reduceCtorEq, branch_decide, branch_not, branch_beq, branch_bne]
    try simp [shortR, hv]
  | true =>
  simp only [push_cast, ↓branch_true, ↓branch_false, Nat.reduceBEq, Nat.reduceAdd, Nat.reduceMul, Nat.reduceSub, Int.reduceToNat, reduceCtorEq, branch_decide, branch_not, branch_beq, branch_bne]
  intro _
  refine sp_call (At_pu l x c hl2) rfl [0] rfl (by simp only [push_cast, ↓branch_true, ↓branch_false, Nat.reduceBEq, Nat.reduceAdd, Nat.reduceMul, Nat.reduceSub, Int.reduceToNat, reduceCtorEq, branch_decide, branch_not, branch_beq, branch_bne]) (by simp only [push_cast, ↓branch_true, ↓branch_false, Nat.reduceBEq, Nat.reduceAdd, Nat.reduceMul, Nat.reduceSub, Int.reduceToNat, reduceCtorEq, branch_decide, branch_not, branch_beq, branch_bne]) ?_
  simp only [push_cast, ↓branch_true, ↓branch_false, Nat.reduceBEq, Nat.reduceAdd, Nat.reduceMul, Nat.reduceSub, Int.reduceToNat, reduceCtorEq, branch_decide, branch_not, branch_beq, branch_bne]
  have hsr : shortR l = shortL 0 l := by simp [shortR, hv]
  have hsl := shortL_len l 0
  have hcan := short_can l 0
  have hsv : validB (shortL 0 l) = true := short_valid hv
  simp only [hsr, atR, hv, if_true] at hcap ⊢
  generalize hs : shortL 0 l = s at *
  simp only [push_cast, ↓branch_true, ↓branch_false, Nat.reduceBEq, Nat.reduceAdd, Nat.reduceMul, Nat.reduceSub, Int.reduceToNat, reduceCtorEq, branch_decide, branch_not, branch_beq, branch_bne]
  intro _
  refine sp_call (valid_pu s cap (by omega)) rfl [2] rfl ?_ ?_ ?_
  · simp only [push_cast, ↓branch_true, ↓branch_false, Nat.reduceBEq, Nat.reduceAdd, Nat.reduceMul, Nat.reduceSub, Int.reduceToNat, reduceCtorEq, branch_decide, branch_not, branch_beq, branch_bne]
    try trivial
  · simp only [push_cast, ↓branch_true, ↓branch_false, Nat.reduceBEq, Nat.reduceAdd, Nat.reduceMul, Nat.reduceSub, Int.reduceToNat, reduceCtorEq, branch_decide, branch_not, branch_beq, branch_bne]
    try trivial
  rw [hsv]
  simp only [push_cast, ↓branch_true, ↓branch_false, Nat.reduceBEq, Nat.reduceAdd, Nat.reduceMul, Nat.reduceSub, Int.reduceToNat, reduceCtorEq, branch_decide, branch_not, branch_beq, branch_bne]
  refine ⟨fun h => absurd h (by omega), fun _ => ?_⟩
  refine tr_loop mixed (by kernel_rfl) (fun (k : Nat) => [(64, .v (.int .i64 k)), (63, .v (.int .i64 s.length)), (62, .s 2 0 0 s.length cap 2), (7, .v (.int .i64 (atL l x))), (5, .s 2 0 0 s.length cap 2), (3, .p 1 0 0), (0, .s 0 0 0 l.length c 2)])
    (fun _ => [rSt l, ⟨3, false, .st [.v (.int .i64 x)]⟩, rSO s cap]) (fun k => k ≤ s.length) (fun k => s.length - k) 0 (Nat.zero_le _) (Mt.wk (rl := [0, 1, 2]) ⟨by kernel_rfl, ?_, ?_⟩) ?_
  · simp only [push_cast, ↓branch_true, ↓branch_false, Nat.reduceBEq, Nat.reduceAdd, Nat.reduceMul, Nat.reduceSub, Int.reduceToNat, reduceCtorEq, branch_decide, branch_not, branch_beq, branch_bne]
    try trivial
  · simp only [push_cast, ↓branch_true, ↓branch_false, Nat.reduceBEq, Nat.reduceAdd, Nat.reduceMul, Nat.reduceSub, Int.reduceToNat, reduceCtorEq, branch_decide, branch_not, branch_beq, branch_bne]
    try trivial
  intro k hk
  simp only [push_cast, ↓branch_true, ↓branch_false, Nat.reduceBEq, Nat.reduceAdd, Nat.reduceMul, Nat.reduceSub, Int.reduceToNat, reduceCtorEq, branch_decide, branch_not, branch_beq, branch_bne]
  refine ⟨fun h => ?_, fun h => ?_⟩
  · have hc0 : k = 0 → (ix s k).v ≠ 0 := fun e => by subst e; exact can_first hcan (by omega)
    have hc1 : ¬ k = 0 → (ix s k).v ≠ (ix s ((k : Int) - 1).toNat).v := fun e => by
      rw [show ((k : Int) - 1).toNat = k - 1 by omega]
      exact can_next hcan (by omega) (by omega)
    repeat (with_reducible refine And.intro (by omega) ?_)
    repeat' (first | (with_reducible apply And.intro) | omega | (with_reducible intro _))
    all_goals first
      | exact absurd ‹(ix s k).v = 0› (hc0 (by omega))
      | exact absurd ‹(ix s k).v = (ix s ((k : Int) - 1).toNat).v› (hc1 (by omega))
      | (refine lpK_normal (k + 1) [0, 1, 2] (by omega) (by omega) (by kernel_rfl) ?_ ?_
         · (simp only [push_cast, ↓branch_true, ↓branch_false, Nat.reduceBEq, Nat.reduceAdd, Nat.reduceMul, Nat.reduceSub, Int.reduceToNat, reduceCtorEq, branch_decide, branch_not, branch_beq, branch_bne])
           try trivial
         · (simp only [push_cast, ↓branch_true, ↓branch_false, Nat.reduceBEq, Nat.reduceAdd, Nat.reduceMul, Nat.reduceSub, Int.reduceToNat, reduceCtorEq, branch_decide, branch_not, branch_beq, branch_bne])
           try trivial
         )
  · obtain rfl : k = s.length := by omega
    refine sp_call (first_pu l x c hl) rfl [0, 1] rfl ?_ ?_ ?_
    · simp only [push_cast, ↓branch_true, ↓branch_false, Nat.reduceBEq, Nat.reduceAdd, Nat.reduceMul, Nat.reduceSub, Int.reduceToNat, reduceCtorEq, branch_decide, branch_not, branch_beq, branch_bne]
      try trivial
    · simp only [push_cast, ↓branch_true, ↓branch_false, Nat.reduceBEq, Nat.reduceAdd, Nat.reduceMul, Nat.reduceSub, Int.reduceToNat, reduceCtorEq, branch_decide, branch_not, branch_beq, branch_bne]
      try trivial
    generalize hki : idxB (fun q => decide (x ≤ q.x)) l 0 = ki at *
    simp only [push_cast, ↓branch_true, ↓branch_false, Nat.reduceBEq, Nat.reduceAdd, Nat.reduceMul, Nat.reduceSub, Int.reduceToNat, reduceCtorEq, branch_decide, branch_not, branch_beq, branch_bne]
    obtain ⟨kN, hk1, hk2, hk3, hk4, hk5⟩ : ∃ kN : Nat, kN ≤ l.length ∧ (∀ j, j < kN → (ix l j).x < x) ∧ (kN < l.length → ¬ (ix l kN).x < x) ∧ (ki < 0 → kN = l.length) ∧ (¬ ki < 0 → ki = kN) := idx_place hki
    refine ⟨fun h => ?_, fun h => ?_⟩
    · obtain rfl := hk4 h
      refine sp_at (cloneSt_sp l c (by omega)) [0] rfl ?_ ?_ ?_
      · simp only [push_cast, ↓branch_true, ↓branch_false, Nat.reduceBEq, Nat.reduceAdd, Nat.reduceMul, Nat.reduceSub, Int.reduceToNat, reduceCtorEq, branch_decide, branch_not, branch_beq, branch_bne]
        try trivial
      · simp only [push_cast, ↓branch_true, ↓branch_false, Nat.reduceBEq, Nat.reduceAdd, Nat.reduceMul, Nat.reduceSub, Int.reduceToNat, reduceCtorEq, branch_decide, branch_not, branch_beq, branch_bne]
        try trivial
      rintro _ _ ⟨cap2, hcap2, rfl, rfl⟩
      simp only [push_cast, ↓branch_true, ↓branch_false, Nat.reduceBEq, Nat.reduceAdd, Nat.reduceMul, Nat.reduceSub, Int.reduceToNat, reduceCtorEq, branch_decide, branch_not, branch_beq, branch_bne]
      refine ⟨[(113, .v (.bool true)), (12, .s 3 0 0 l.length cap2 2), (11, .v (.int .i64 l.length)), (7, .v (.int .i64 (atL l x))), (5, .s 2 0 0 s.length cap 2), (3, .p 1 0 0), (0, .s 0 0 0 l.length c 2)], [rSt l, ⟨3, false, .st [.v (.int .i64 x)]⟩, rSO s cap, rSO l cap2], ?_, ?_⟩
      · repeat' (first | (with_reducible apply And.intro) | omega | (with_reducible intro _))
        all_goals first
          | omega
          | (refine Mt.wk (rl := [0, 1, 2, 3]) ⟨by kernel_rfl, ?_, ?_⟩
             · simp only [push_cast, ↓branch_true, ↓branch_false, Nat.reduceBEq, Nat.reduceAdd, Nat.reduceMul, Nat.reduceSub, Int.reduceToNat, reduceCtorEq, branch_decide, branch_not, branch_beq, branch_bne]
               try trivial
               try (simp; omega)
             · simp only [push_cast, ↓branch_true, ↓branch_false, Nat.reduceBEq, Nat.reduceAdd, Nat.reduceMul, Nat.reduceSub, Int.reduceToNat, reduceCtorEq, branch_decide, branch_not, branch_beq, branch_bne]
               try trivial
             )
      simp only [push_cast, ↓branch_true, ↓branch_false, Nat.reduceBEq, Nat.reduceAdd, Nat.reduceMul, Nat.reduceSub, Int.reduceToNat, reduceCtorEq, branch_decide, branch_not, branch_beq, branch_bne, jnK]
      obtain ⟨mm, hm1, hm2, hm3, hm4⟩ := putStep_ok (x := x) (by omega) (by omega) hv (by omega) hk1 hk2 (fun h => absurd h (by omega))
      have hmm : shortL 0 mm = s := by rw [hm4, hs]
      repeat (with_reducible refine And.intro (by omega) ?_)
      refine sp_at (insert_sp l cap2 l.length ⟨x, atL l x⟩ (by omega) (by omega) hcap2) [3, 4] rfl ?_ ?_ ?_
      · simp only [push_cast, ↓branch_true, ↓branch_false, Nat.reduceBEq, Nat.reduceAdd, Nat.reduceMul, Nat.reduceSub, Int.reduceToNat, reduceCtorEq, branch_decide, branch_not, branch_beq, branch_bne]
        try trivial
      · simp only [push_cast, ↓branch_true, ↓branch_false, Nat.reduceBEq, Nat.reduceAdd, Nat.reduceMul, Nat.reduceSub, Int.reduceToNat, reduceCtorEq, branch_decide, branch_not, branch_beq, branch_bne]
        intro _ _ k hk
        obtain rfl : k = 0 := by omega
        (simp only [push_cast, ↓branch_true, ↓branch_false, Nat.reduceBEq, Nat.reduceAdd, Nat.reduceMul, Nat.reduceSub, Int.reduceToNat, reduceCtorEq, branch_decide, branch_not, branch_beq, branch_bne])
        try exact ⟨rfl, rfl⟩
      rintro _ _ ⟨oc, hoc, rfl, rfl⟩
      rw [hm1]
      simp only [push_cast, ↓branch_true, ↓branch_false, Nat.reduceBEq, Nat.reduceAdd, Nat.reduceMul, Nat.reduceSub, Int.reduceToNat, reduceCtorEq, branch_decide, branch_not, branch_beq, branch_bne]
      refine sp_at (Short_sp mm oc (by omega)) [5] rfl ?_ ?_ ?_
      · simp only [push_cast, ↓branch_true, ↓branch_false, Nat.reduceBEq, Nat.reduceAdd, Nat.reduceMul, Nat.reduceSub, Int.reduceToNat, reduceCtorEq, branch_decide, branch_not, branch_beq, branch_bne]
        try trivial
      · simp only [push_cast, ↓branch_true, ↓branch_false, Nat.reduceBEq, Nat.reduceAdd, Nat.reduceMul, Nat.reduceSub, Int.reduceToNat, reduceCtorEq, branch_decide, branch_not, branch_beq, branch_bne]
        try trivial
      rintro _ _ ⟨cap4, hcap4, rfl, rfl⟩
      have hsm : shortR mm = s := by simp [shortR, hm3, hmm]
      rw [hsm] at hcap4 ⊢
      rw [hm3]
      simp only [push_cast, ↓branch_true, ↓branch_false, Nat.reduceBEq, Nat.reduceAdd, Nat.reduceMul, Nat.reduceSub, Int.reduceToNat, reduceCtorEq, branch_decide, branch_not, branch_beq, branch_bne]
      intro _
      refine sp_call (equalSt_pu s s cap cap4 (by omega) (by omega)) rfl [2, 6] rfl ?_ ?_ ?_
      · simp only [push_cast, ↓branch_true, ↓branch_false, Nat.reduceBEq, Nat.reduceAdd, Nat.reduceMul, Nat.reduceSub, Int.reduceToNat, reduceCtorEq, branch_decide, branch_not, branch_beq, branch_bne]
        try trivial
      · simp only [push_cast, ↓branch_true, ↓branch_false, Nat.reduceBEq, Nat.reduceAdd, Nat.reduceMul, Nat.reduceSub, Int.reduceToNat, reduceCtorEq, branch_decide, branch_not, branch_beq, branch_bne]
        try trivial
      simp only [push_cast, ↓branch_true, ↓branch_false, Nat.reduceBEq, Nat.reduceAdd, Nat.reduceMul, Nat.reduceSub, Int.reduceToNat, reduceCtorEq, branch_decide, branch_not, branch_beq, branch_bne]
      try intro _
      repeat (with_reducible refine And.intro (by omega) ?_)
      refine sp_at (pulse_sp x (x + 1) 1) [] rfl ?_ ?_ ?_
      · simp only [push_cast, ↓branch_true, ↓branch_false, Nat.reduceBEq, Nat.reduceAdd, Nat.reduceMul, Nat.reduceSub, Int.reduceToNat, reduceCtorEq, branch_decide, branch_not, branch_beq, branch_bne]
        try trivial
      · simp only [push_cast, ↓branch_true, ↓branch_false, Nat.reduceBEq, Nat.reduceAdd, Nat.reduceMul, Nat.reduceSub, Int.reduceToNat, reduceCtorEq, branch_decide, branch_not, branch_beq, branch_bne]
        try trivial
      rintro _ _ ⟨cap5, hcap5, rfl, rfl⟩
      obtain ⟨hp1, hp2⟩ := pul_one (x := x) (by omega) (by omega)
      rw [hp1] at hcap5
      rw [hp1, hp2]
      simp only [push_cast, ↓branch_true, ↓branch_false, Nat.reduceBEq, Nat.reduceAdd, Nat.reduceMul, Nat.reduceSub, Int.reduceToNat, reduceCtorEq, branch_decide, branch_not, branch_beq, branch_bne]
      refine sp_at (add_sp l (oneSt x) c cap5 hl2 (by simp [oneSt])) [0, 7] rfl ?_ ?_ ?_
      · simp only [push_cast, ↓branch_true, ↓branch_false, Nat.reduceBEq, Nat.reduceAdd, Nat.reduceMul, Nat.reduceSub, Int.reduceToNat, reduceCtorEq, branch_decide, branch_not, branch_beq, branch_bne]
        try trivial
      · simp only [push_cast, ↓branch_true, ↓branch_false, Nat.reduceBEq, Nat.reduceAdd, Nat.reduceMul, Nat.reduceSub, Int.reduceToNat, reduceCtorEq, branch_decide, branch_not, branch_beq, branch_bne]
        try trivial
      rintro _ _ ⟨cap6, hcap6, rfl, rfl⟩
      simp only [push_cast, ↓branch_true, ↓branch_false, Nat.reduceBEq, Nat.reduceAdd, Nat.reduceMul, Nat.reduceSub, Int.reduceToNat, reduceCtorEq, branch_decide, branch_not, branch_beq, branch_bne]
      intro h20 h21
      rcases one_join (l := l) (x := x) (by omega) (by omega) hv with e | e | ⟨e1, e2⟩
      · exact absurd e h20
      · exact absurd e h21
      have hjl := joinR_len (f := addF) hl2 (show (oneSt x).length ≤ 250 by simp [oneSt])
      rw [hs] at e2
      refine ⟨fun _ => ?_, fun h => absurd e1 h⟩
      refine sp_call (equalSt_pu s (joinR addF l (oneSt x)) cap cap6 (by omega) (by omega)) rfl [2, 8] rfl ?_ ?_ ?_
      · simp only [push_cast, ↓branch_true, ↓branch_false, Nat.reduceBEq, Nat.reduceAdd, Nat.reduceMul, Nat.reduceSub, Int.reduceToNat, reduceCtorEq, branch_decide, branch_not, branch_beq, branch_bne]
        try trivial
      · simp only [push_cast, ↓branch_true, ↓branch_false, Nat.reduceBEq, Nat.reduceAdd, Nat.reduceMul, Nat.reduceSub, Int.reduceToNat, reduceCtorEq, branch_decide, branch_not, branch_beq, branch_bne]
        try trivial
      simp only [push_cast, ↓branch_true, ↓branch_false, Nat.reduceBEq, Nat.reduceAdd, Nat.reduceMul, Nat.reduceSub, Int.reduceToNat, reduceCtorEq, branch_decide, branch_not, branch_beq, branch_bne]
      simp [e2]
    · obtain rfl := hk5 h
      refine sp_at (cloneSt_sp l c (by omega)) [0] rfl ?_ ?_ ?_
      · simp only [push_cast, ↓branch_true, ↓branch_false, Nat.reduceBEq, Nat.reduceAdd, Nat.reduceMul, Nat.reduceSub, Int.reduceToNat, reduceCtorEq, branch_decide, branch_not, branch_beq, branch_bne]
        try trivial
      · simp only [push_cast, ↓branch_true, ↓branch_false, Nat.reduceBEq, Nat.reduceAdd, Nat.reduceMul, Nat.reduceSub, Int.reduceToNat, reduceCtorEq, branch_decide, branch_not, branch_beq, branch_bne]
        try trivial
      rintro _ _ ⟨cap2, hcap2, rfl, rfl⟩
      simp only [push_cast, ↓branch_true, ↓branch_false, Nat.reduceBEq, Nat.reduceAdd, Nat.reduceMul, Nat.reduceSub, Int.reduceToNat, reduceCtorEq, branch_decide, branch_not, branch_beq, branch_bne]
      by_cases h7 : kN = l.length
      · subst h7
        refine ⟨[(113, .v (.bool true)), (12, .s 3 0 0 l.length cap2 2), (11, .v (.int .i64 l.length)), (7, .v (.int .i64 (atL l x))), (5, .s 2 0 0 s.length cap 2), (3, .p 1 0 0), (0, .s 0 0 0 l.length c 2)], [rSt l, ⟨3, false, .st [.v (.int .i64 x)]⟩, rSO s cap, rSO l cap2], ?_, ?_⟩
        · repeat' (first | (with_reducible apply And.intro) | omega | (with_reducible intro _))
          all_goals first
            | omega
            | (refine Mt.wk (rl := [0, 1, 2, 3]) ⟨by kernel_rfl, ?_, ?_⟩
               · simp only [push_cast, ↓branch_true, ↓branch_false, Nat.reduceBEq, Nat.reduceAdd, Nat.reduceMul, Nat.reduceSub, Int.reduceToNat, reduceCtorEq, branch_decide, branch_not, branch_beq, branch_bne]
                 try trivial
                 try (simp; omega)
               · simp only [push_cast, ↓branch_true, ↓branch_false, Nat.reduceBEq, Nat.reduceAdd, Nat.reduceMul, Nat.reduceSub, Int.reduceToNat, reduceCtorEq, branch_decide, branch_not, branch_beq, branch_bne]
                 try trivial
               )
        simp only [push_cast, ↓branch_true, ↓branch_false, Nat.reduceBEq, Nat.reduceAdd, Nat.reduceMul, Nat.reduceSub, Int.reduceToNat, reduceCtorEq, branch_decide, branch_not, branch_beq, branch_bne, jnK]
        obtain ⟨mm, hm1, hm2, hm3, hm4⟩ := putStep_ok (x := x) (by omega) (by omega) hv (by omega) hk1 hk2 (fun h => absurd h (by omega))
        have hmm : shortL 0 mm = s := by rw [hm4, hs]
        repeat (with_reducible refine And.intro (by omega) ?_)
        refine sp_at (insert_sp l cap2 l.length ⟨x, atL l x⟩ (by omega) (by omega) hcap2) [3, 4] rfl ?_ ?_ ?_
        · simp only [push_cast, ↓branch_true, ↓branch_false, Nat.reduceBEq, Nat.reduceAdd, Nat.reduceMul, Nat.reduceSub, Int.reduceToNat, reduceCtorEq, branch_decide, branch_not, branch_beq, branch_bne]
          try trivial
        · simp only [push_cast, ↓branch_true, ↓branch_false, Nat.reduceBEq, Nat.reduceAdd, Nat.reduceMul, Nat.reduceSub, Int.reduceToNat, reduceCtorEq, branch_decide, branch_not, branch_beq, branch_bne]
          intro _ _ k hk
          obtain rfl : k = 0 := by omega
          (simp only [push_cast, ↓branch_true, ↓branch_false, Nat.reduceBEq, Nat.reduceAdd, Nat.reduceMul, Nat.reduceSub, Int.reduceToNat, reduceCtorEq, branch_decide, branch_not, branch_beq, branch_bne])
          try exact ⟨rfl, rfl⟩
        rintro _ _ ⟨oc, hoc, rfl, rfl⟩
        rw [hm1]
        simp only [push_cast, ↓branch_true, ↓branch_false, Nat.reduceBEq, Nat.reduceAdd, Nat.reduceMul, Nat.reduceSub, Int.reduceToNat, reduceCtorEq, branch_decide, branch_not, branch_beq, branch_bne]
        refine sp_at (Short_sp mm oc (by omega)) [5] rfl ?_ ?_ ?_
        · simp only [push_cast, ↓branch_true, ↓branch_false, Nat.reduceBEq, Nat.reduceAdd, Nat.reduceMul, Nat.reduceSub, Int.reduceToNat, reduceCtorEq, branch_decide, branch_not, branch_beq, branch_bne]
          try trivial
        · simp only [push_cast, ↓branch_true, ↓branch_false, Nat.reduceBEq, Nat.reduceAdd, Nat.reduceMul, Nat.reduceSub, Int.reduceToNat, reduceCtorEq, branch_decide, branch_not, branch_beq, branch_bne]
          try trivial
        rintro _ _ ⟨cap4, hcap4, rfl, rfl⟩
        have hsm : shortR mm = s := by simp [shortR, hm3, hmm]
        rw [hsm] at hcap4 ⊢
        rw [hm3]
        simp only [push_cast, ↓branch_true, ↓branch_false, Nat.reduceBEq, Nat.reduceAdd, Nat.reduceMul, Nat.reduceSub, Int.reduceToNat, reduceCtorEq, branch_decide, branch_not, branch_beq, branch_bne]
        intro _
        refine sp_call (equalSt_pu s s cap cap4 (by omega) (by omega)) rfl [2, 6] rfl ?_ ?_ ?_
        · simp only [push_cast, ↓branch_true, ↓branch_false, Nat.reduceBEq, Nat.reduceAdd, Nat.reduceMul, Nat.reduceSub, Int.reduceToNat, reduceCtorEq, branch_decide, branch_not, branch_beq, branch_bne]
          try trivial
        · simp only [push_cast, ↓branch_true, ↓branch_false, Nat.reduceBEq, Nat.reduceAdd, Nat.reduceMul, Nat.reduceSub, Int.reduceToNat, reduceCtorEq, branch_decide, branch_not, branch_beq, branch_bne]
          try trivial
        simp only [push_cast, ↓branch_true, ↓branch_false, Nat.reduceBEq, Nat.reduceAdd, Nat.reduceMul, Nat.reduceSub, Int.reduceToNat, reduceCtorEq, branch_decide, branch_not, branch_beq, branch_bne]
        try intro _
        repeat (with_reducible refine And.intro (by omega) ?_)
        refine sp_at (pulse_sp x (x + 1) 1) [] rfl ?_ ?_ ?_
        · simp only [push_cast, ↓branch_true, ↓branch_false, Nat.reduceBEq, Nat.reduceAdd, Nat.reduceMul, Nat.reduceSub, Int.reduceToNat, reduceCtorEq, branch_decide, branch_not, branch_beq, branch_bne]
          try trivial
        · simp only [push_cast, ↓branch_true, ↓branch_false, Nat.reduceBEq, Nat.reduceAdd, Nat.reduceMul, Nat.reduceSub, Int.reduceToNat, reduceCtorEq, branch_decide, branch_not, branch_beq, branch_bne]
          try trivial
        rintro _ _ ⟨cap5, hcap5, rfl, rfl⟩
        obtain ⟨hp1, hp2⟩ := pul_one (x := x) (by omega) (by omega)
        rw [hp1] at hcap5
        rw [hp1, hp2]
        simp only [push_cast, ↓branch_true, ↓branch_false, Nat.reduceBEq, Nat.reduceAdd, Nat.reduceMul, Nat.reduceSub, Int.reduceToNat, reduceCtorEq, branch_decide, branch_not, branch_beq, branch_bne]
        refine sp_at (add_sp l (oneSt x) c cap5 hl2 (by simp [oneSt])) [0, 7] rfl ?_ ?_ ?_
        · simp only [push_cast, ↓branch_true, ↓branch_false, Nat.reduceBEq, Nat.reduceAdd, Nat.reduceMul, Nat.reduceSub, Int.reduceToNat, reduceCtorEq, branch_decide, branch_not, branch_beq, branch_bne]
          try trivial
        · simp only [push_cast, ↓branch_true, ↓branch_false, Nat.reduceBEq, Nat.reduceAdd, Nat.reduceMul, Nat.reduceSub, Int.reduceToNat, reduceCtorEq, branch_decide, branch_not, branch_beq, branch_bne]
          try trivial
        rintro _ _ ⟨cap6, hcap6, rfl, rfl⟩
        simp only [push_cast, ↓branch_true, ↓branch_false, Nat.reduceBEq, Nat.reduceAdd, Nat.reduceMul, Nat.reduceSub, Int.reduceToNat, reduceCtorEq, branch_decide, branch_not, branch_beq, branch_bne]
        intro h20 h21
        rcases one_join (l := l) (x := x) (by omega) (by omega) hv with e | e | ⟨e1, e2⟩
        · exact absurd e h20
        · exact absurd e h21
        have hjl := joinR_len (f := addF) hl2 (show (oneSt x).length ≤ 250 by simp [oneSt])
        rw [hs] at e2
        refine ⟨fun _ => ?_, fun h => absurd e1 h⟩
        refine sp_call (equalSt_pu s (joinR addF l (oneSt x)) cap cap6 (by omega) (by omega)) rfl [2, 8] rfl ?_ ?_ ?_
        · simp only [push_cast, ↓branch_true, ↓branch_false, Nat.reduceBEq, Nat.reduceAdd, Nat.reduceMul, Nat.reduceSub, Int.reduceToNat, reduceCtorEq, branch_decide, branch_not, branch_beq, branch_bne]
          try trivial
        · simp only [push_cast, ↓branch_true, ↓branch_false, Nat.reduceBEq, Nat.reduceAdd, Nat.reduceMul, Nat.reduceSub, Int.reduceToNat, reduceCtorEq, branch_decide, branch_not, branch_beq, branch_bne]
          try trivial
        simp only [push_cast, ↓branch_true, ↓branch_false, Nat.reduceBEq, Nat.reduceAdd, Nat.reduceMul, Nat.reduceSub, Int.reduceToNat, reduceCtorEq, branch_decide, branch_not, branch_beq, branch_bne]
        simp [e2]
      have h9 : kN < l.length := by omega
      have h10 := hk3 h9
      by_cases h8 : x < (ix l kN).x
      · refine ⟨[(113, .v (.bool true)), (12, .s 3 0 0 l.length cap2 2), (11, .v (.int .i64 kN)), (7, .v (.int .i64 (atL l x))), (5, .s 2 0 0 s.length cap 2), (3, .p 1 0 0), (0, .s 0 0 0 l.length c 2)], [rSt l, ⟨3, false, .st [.v (.int .i64 x)]⟩, rSO s cap, rSO l cap2], ?_, ?_⟩
        · repeat' (first | (with_reducible apply And.intro) | omega | (with_reducible intro _))
          all_goals first
            | omega
            | (refine Mt.wk (rl := [0, 1, 2, 3]) ⟨by kernel_rfl, ?_, ?_⟩
               · simp only [push_cast, ↓branch_true, ↓branch_false, Nat.reduceBEq, Nat.reduceAdd, Nat.reduceMul, Nat.reduceSub, Int.reduceToNat, reduceCtorEq, branch_decide, branch_not, branch_beq, branch_bne]
                 try trivial
                 try (simp; omega)
               · simp only [push_cast, ↓branch_true, ↓branch_false, Nat.reduceBEq, Nat.reduceAdd, Nat.reduceMul, Nat.reduceSub, Int.reduceToNat, reduceCtorEq, branch_decide, branch_not, branch_beq, branch_bne]
                 try trivial
               )
        simp only [push_cast, ↓branch_true, ↓branch_false, Nat.reduceBEq, Nat.reduceAdd, Nat.reduceMul, Nat.reduceSub, Int.reduceToNat, reduceCtorEq, branch_decide, branch_not, branch_beq, branch_bne, jnK]
        obtain ⟨mm, hm1, hm2, hm3, hm4⟩ := putStep_ok (x := x) (by omega) (by omega) hv (by omega) hk1 hk2 (fun _ => h8)
        have hmm : shortL 0 mm = s := by rw [hm4, hs]
        repeat (with_reducible refine And.intro (by omega) ?_)
        refine sp_at (insert_sp l cap2 kN ⟨x, atL l x⟩ (by omega) (by omega) hcap2) [3, 4] rfl ?_ ?_ ?_
        · simp only [push_cast, ↓branch_true, ↓branch_false, Nat.reduceBEq, Nat.reduceAdd, Nat.reduceMul, Nat.reduceSub, Int.reduceToNat, reduceCtorEq, branch_decide, branch_not, branch_beq, branch_bne]
          try trivial
        · simp only [push_cast, ↓branch_true, ↓branch_false, Nat.reduceBEq, Nat.reduceAdd, Nat.reduceMul, Nat.reduceSub, Int.reduceToNat, reduceCtorEq, branch_decide, branch_not, branch_beq, branch_bne]
          intro _ _ k hk
          obtain rfl : k = 0 := by omega
          (simp only [push_cast, ↓branch_true, ↓branch_false, Nat.reduceBEq, Nat.reduceAdd, Nat.reduceMul, Nat.reduceSub, Int.reduceToNat, reduceCtorEq, branch_decide, branch_not, branch_beq, branch_bne])
          try exact ⟨rfl, rfl⟩
        rintro _ _ ⟨oc, hoc, rfl, rfl⟩
        rw [hm1]
        simp only [push_cast, ↓branch_true, ↓branch_false, Nat.reduceBEq, Nat.reduceAdd, Nat.reduceMul, Nat.reduceSub, Int.reduceToNat, reduceCtorEq, branch_decide, branch_not, branch_beq, branch_bne]
        refine sp_at (Short_sp mm oc (by omega)) [5] rfl ?_ ?_ ?_
        · simp only [push_cast, ↓branch_true, ↓branch_false, Nat.reduceBEq, Nat.reduceAdd, Nat.reduceMul, Nat.reduceSub, Int.reduceToNat, reduceCtorEq, branch_decide, branch_not, branch_beq, branch_bne]
          try trivial
        · simp only [push_cast, ↓branch_true, ↓branch_false, Nat.reduceBEq, Nat.reduceAdd, Nat.reduceMul, Nat.reduceSub, Int.reduceToNat, reduceCtorEq, branch_decide, branch_not, branch_beq, branch_bne]
          try trivial
        rintro _ _ ⟨cap4, hcap4, rfl, rfl⟩
        have hsm : shortR mm = s := by simp [shortR, hm3, hmm]
        rw [hsm] at hcap4 ⊢
        rw [hm3]
        simp only [push_cast, ↓branch_true, ↓branch_false, Nat.reduceBEq, Nat.reduceAdd, Nat.reduceMul, Nat.reduceSub, Int.reduceToNat, reduceCtorEq, branch_decide, branch_not, branch_beq, branch_bne]
        intro _
        refine sp_call (equalSt_pu s s cap cap4 (by omega) (by omega)) rfl [2, 6] rfl ?_ ?_ ?_
        · simp only [push_cast, ↓branch_true, ↓branch_false, Nat.reduceBEq, Nat.reduceAdd, Nat.reduceMul, Nat.reduceSub, Int.reduceToNat, reduceCtorEq, branch_decide, branch_not, branch_beq, branch_bne]
          try trivial
        · simp only [push_cast, ↓branch_true, ↓branch_false, Nat.reduceBEq, Nat.reduceAdd, Nat.reduceMul, Nat.reduceSub, Int.reduceToNat, reduceCtorEq, branch_decide, branch_not, branch_beq, branch_bne]
          try trivial
        simp only [push_cast, ↓branch_true, ↓branch_false, Nat.reduceBEq, Nat.reduceAdd, Nat.reduceMul, Nat.reduceSub, Int.reduceToNat, reduceCtorEq, branch_decide, branch_not, branch_beq, branch_bne]
        try intro _
        repeat (with_reducible refine And.intro (by omega) ?_)
        refine sp_at (pulse_sp x (x + 1) 1) [] rfl ?_ ?_ ?_
        · simp only [push_cast, ↓branch_true, ↓branch_false, Nat.reduceBEq, Nat.reduceAdd, Nat.reduceMul, Nat.reduceSub, Int.reduceToNat, reduceCtorEq, branch_decide, branch_not, branch_beq, branch_bne]
          try trivial
        · simp only [push_cast, ↓branch_true, ↓branch_false, Nat.reduceBEq, Nat.reduceAdd, Nat.reduceMul, Nat.reduceSub, Int.reduceToNat, reduceCtorEq, branch_decide, branch_not, branch_beq, branch_bne]
          try trivial
        rintro _ _ ⟨cap5, hcap5, rfl, rfl⟩
        obtain ⟨hp1, hp2⟩ := pul_one (x := x) (by omega) (by omega)
        rw [hp1] at hcap5
        rw [hp1, hp2]
        simp only [push_cast, ↓branch_true, ↓branch_false, Nat.reduceBEq, Nat.reduceAdd, Nat.reduceMul, Nat.reduceSub, Int.reduceToNat, reduceCtorEq, branch_decide, branch_not, branch_beq, branch_bne]
        refine sp_at (add_sp l (oneSt x) c cap5 hl2 (by simp [oneSt])) [0, 7] rfl ?_ ?_ ?_
        · simp only [push_cast, ↓branch_true, ↓branch_false, Nat.reduceBEq, Nat.reduceAdd, Nat.reduceMul, Nat.reduceSub, Int.reduceToNat, reduceCtorEq, branch_decide, branch_not, branch_beq, branch_bne]
          try trivial
        · simp only [push_cast, ↓branch_true, ↓branch_false, Nat.reduceBEq, Nat.reduceAdd, Nat.reduceMul, Nat.reduceSub, Int.reduceToNat, reduceCtorEq, branch_decide, branch_not, branch_beq, branch_bne]
          try trivial
        rintro _ _ ⟨cap6, hcap6, rfl, rfl⟩
        simp only [push_cast, ↓branch_true, ↓branch_false, Nat.reduceBEq, Nat.reduceAdd, Nat.reduceMul, Nat.reduceSub, Int.reduceToNat, reduceCtorEq, branch_decide, branch_not, branch_beq, branch_bne]
        intro h20 h21
        rcases one_join (l := l) (x := x) (by omega) (by omega) hv with e | e | ⟨e1, e2⟩
        · exact absurd e h20
        · exact absurd e h21
        have hjl := joinR_len (f := addF) hl2 (show (oneSt x).length ≤ 250 by simp [oneSt])
        rw [hs] at e2
        refine ⟨fun _ => ?_, fun h => absurd e1 h⟩
        refine sp_call (equalSt_pu s (joinR addF l (oneSt x)) cap cap6 (by omega) (by omega)) rfl [2, 8] rfl ?_ ?_ ?_
        · simp only [push_cast, ↓branch_true, ↓branch_false, Nat.reduceBEq, Nat.reduceAdd, Nat.reduceMul, Nat.reduceSub, Int.reduceToNat, reduceCtorEq, branch_decide, branch_not, branch_beq, branch_bne]
          try trivial
        · simp only [push_cast, ↓branch_true, ↓branch_false, Nat.reduceBEq, Nat.reduceAdd, Nat.reduceMul, Nat.reduceSub, Int.reduceToNat, reduceCtorEq, branch_decide, branch_not, branch_beq, branch_bne]
          try trivial
        simp only [push_cast, ↓branch_true, ↓branch_false, Nat.reduceBEq, Nat.reduceAdd, Nat.reduceMul, Nat.reduceSub, Int.reduceToNat, reduceCtorEq, branch_decide, branch_not, branch_beq, branch_bne]
        simp [e2]
      · have h11 : (ix l kN).x = x := by omega
        refine ⟨[(113, .v (.bool false)), (12, .s 3 0 0 l.length cap2 2), (11, .v (.int .i64 kN)), (7, .v (.int .i64 (atL l x))), (5, .s 2 0 0 s.length cap 2), (3, .p 1 0 0), (0, .s 0 0 0 l.length c 2)], [rSt l, ⟨3, false, .st [.v (.int .i64 x)]⟩, rSO s cap, rSO l cap2], ?_, ?_⟩
        · repeat' (first | (with_reducible apply And.intro) | omega | (with_reducible intro _))
          all_goals first
            | omega
            | (refine Mt.wk (rl := [0, 1, 2, 3]) ⟨by kernel_rfl, ?_, ?_⟩
               · simp only [push_cast, ↓branch_true, ↓branch_false, Nat.reduceBEq, Nat.reduceAdd, Nat.reduceMul, Nat.reduceSub, Int.reduceToNat, reduceCtorEq, branch_decide, branch_not, branch_beq, branch_bne]
                 try trivial
                 try (simp; omega)
               · simp only [push_cast, ↓branch_true, ↓branch_false, Nat.reduceBEq, Nat.reduceAdd, Nat.reduceMul, Nat.reduceSub, Int.reduceToNat, reduceCtorEq, branch_decide, branch_not, branch_beq, branch_bne]
                 try trivial
               )
        simp only [push_cast, ↓branch_true, ↓branch_false, Nat.reduceBEq, Nat.reduceAdd, Nat.reduceMul, Nat.reduceSub, Int.reduceToNat, reduceCtorEq, branch_decide, branch_not, branch_beq, branch_bne, jnK]
        refine sp_at (Short_sp l cap2 (by omega)) [3] rfl ?_ ?_ ?_
        · simp only [push_cast, ↓branch_true, ↓branch_false, Nat.reduceBEq, Nat.reduceAdd, Nat.reduceMul, Nat.reduceSub, Int.reduceToNat, reduceCtorEq, branch_decide, branch_not, branch_beq, branch_bne]
          try trivial
        · simp only [push_cast, ↓branch_true, ↓branch_false, Nat.reduceBEq, Nat.reduceAdd, Nat.reduceMul, Nat.reduceSub, Int.reduceToNat, reduceCtorEq, branch_decide, branch_not, branch_beq, branch_bne]
          try trivial
        rintro _ _ ⟨cap4, hcap4, rfl, rfl⟩
        have hsm : shortR l = s := by simp [shortR, hv, hs]
        rw [hsm] at hcap4 ⊢
        rw [hv]
        simp only [push_cast, ↓branch_true, ↓branch_false, Nat.reduceBEq, Nat.reduceAdd, Nat.reduceMul, Nat.reduceSub, Int.reduceToNat, reduceCtorEq, branch_decide, branch_not, branch_beq, branch_bne]
        intro _
        refine sp_call (equalSt_pu s s cap cap4 (by omega) (by omega)) rfl [2, 4] rfl ?_ ?_ ?_
        · simp only [push_cast, ↓branch_true, ↓branch_false, Nat.reduceBEq, Nat.reduceAdd, Nat.reduceMul, Nat.reduceSub, Int.reduceToNat, reduceCtorEq, branch_decide, branch_not, branch_beq, branch_bne]
          try trivial
        · simp only [push_cast, ↓branch_true, ↓branch_false, Nat.reduceBEq, Nat.reduceAdd, Nat.reduceMul, Nat.reduceSub, Int.reduceToNat, reduceCtorEq, branch_decide, branch_not, branch_beq, branch_bne]
          try trivial
        simp only [push_cast, ↓branch_true, ↓branch_false, Nat.reduceBEq, Nat.reduceAdd, Nat.reduceMul, Nat.reduceSub, Int.reduceToNat, reduceCtorEq, branch_decide, branch_not, branch_beq, branch_bne]
        try intro _
        repeat (with_reducible refine And.intro (by omega) ?_)
        refine sp_at (pulse_sp x (x + 1) 1) [] rfl ?_ ?_ ?_
        · simp only [push_cast, ↓branch_true, ↓branch_false, Nat.reduceBEq, Nat.reduceAdd, Nat.reduceMul, Nat.reduceSub, Int.reduceToNat, reduceCtorEq, branch_decide, branch_not, branch_beq, branch_bne]
          try trivial
        · simp only [push_cast, ↓branch_true, ↓branch_false, Nat.reduceBEq, Nat.reduceAdd, Nat.reduceMul, Nat.reduceSub, Int.reduceToNat, reduceCtorEq, branch_decide, branch_not, branch_beq, branch_bne]
          try trivial
        rintro _ _ ⟨cap5, hcap5, rfl, rfl⟩
        obtain ⟨hp1, hp2⟩ := pul_one (x := x) (by omega) (by omega)
        rw [hp1] at hcap5
        rw [hp1, hp2]
        simp only [push_cast, ↓branch_true, ↓branch_false, Nat.reduceBEq, Nat.reduceAdd, Nat.reduceMul, Nat.reduceSub, Int.reduceToNat, reduceCtorEq, branch_decide, branch_not, branch_beq, branch_bne]
        refine sp_at (add_sp l (oneSt x) c cap5 hl2 (by simp [oneSt])) [0, 5] rfl ?_ ?_ ?_
        · simp only [push_cast, ↓branch_true, ↓branch_false, Nat.reduceBEq, Nat.reduceAdd, Nat.reduceMul, Nat.reduceSub, Int.reduceToNat, reduceCtorEq, branch_decide, branch_not, branch_beq, branch_bne]
          try trivial
        · simp only [push_cast, ↓branch_true, ↓branch_false, Nat.reduceBEq, Nat.reduceAdd, Nat.reduceMul, Nat.reduceSub, Int.reduceToNat, reduceCtorEq, branch_decide, branch_not, branch_beq, branch_bne]
          try trivial
        rintro _ _ ⟨cap6, hcap6, rfl, rfl⟩
        simp only [push_cast, ↓branch_true, ↓branch_false, Nat.reduceBEq, Nat.reduceAdd, Nat.reduceMul, Nat.reduceSub, Int.reduceToNat, reduceCtorEq, branch_decide, branch_not, branch_beq, branch_bne]
        intro h20 h21
        rcases one_join (l := l) (x := x) (by omega) (by omega) hv with e | e | ⟨e1, e2⟩
        · exact absurd e h20
        · exact absurd e h21
        have hjl := joinR_len (f := addF) hl2 (show (oneSt x).length ≤ 250 by simp [oneSt])
        rw [hs] at e2
        refine ⟨fun _ => ?_, fun h => absurd e1 h⟩
        refine sp_call (equalSt_pu s (joinR addF l (oneSt x)) cap cap6 (by omega) (by omega)) rfl [2, 6] rfl ?_ ?_ ?_
        · simp only [push_cast, ↓branch_true, ↓branch_false, Nat.reduceBEq, Nat.reduceAdd, Nat.reduceMul, Nat.reduceSub, Int.reduceToNat, reduceCtorEq, branch_decide, branch_not, branch_beq, branch_bne]
          try trivial
        · simp only [push_cast, ↓branch_true, ↓branch_false, Nat.reduceBEq, Nat.reduceAdd, Nat.reduceMul, Nat.reduceSub, Int.reduceToNat, reduceCtorEq, branch_decide, branch_not, branch_beq, branch_bne]
          try trivial
        simp only [push_cast, ↓branch_true, ↓branch_false, Nat.reduceBEq, Nat.reduceAdd, Nat.reduceMul, Nat.reduceSub, Int.reduceToNat, reduceCtorEq, branch_decide, branch_not, branch_beq, branch_bne]
        simp [e2]
end Go.Proofs.Ytekokeiajgcfkaa
