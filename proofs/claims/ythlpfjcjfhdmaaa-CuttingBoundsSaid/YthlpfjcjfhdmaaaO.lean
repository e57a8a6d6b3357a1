/- Contracts: right plans, Check, Used, Total, Waste. -/
import Derived.Test.YthlpfjcjfhdmaaaN
set_option maxRecDepth 100000
set_option linter.unusedSimpArgs false
set_option linter.unusedVariables false
namespace Go.Proofs.Ythlpfjcjfhdmaaa
open Go.RowKit
set_option maxHeartbeats 2000000 in
theorem right_pu (s l : List Pc) (p : List Pt) (cp : Nat → Nat) (N c c2 c3 : Nat) (G : Nat → List Int) (hvs : stB s = true) (ho : orderB l = true) (hN : p.length ≤ N) (hG : ∀ k, k < p.length → G k = (ix p k).ps) (hg : ∀ k, k < p.length → (ix p k).ps.length ≤ 9223372036854775806) (hpl : p.length ≤ 9223372036854775807) :
    Pu Try.prog 59 [.s 0 0 0 s.length c 2, .s 1 0 0 l.length c2 2, .s 2 0 0 p.length c3 3] [rSt s, rPc l, rPt 3 p cp, rFm N G] (.v (.bool (rightB s l p))) := by
  have hsl := (stB_yes.1 hvs).1
  have hll := order_len ho
  refine pu_of_ex true [(3, .jn (.one 0 (.one 1 (.one 3 (.one 4 (.alt [(2, .one 6 (.one 5 (.one 7 .fin))), (5, .one 2 (.one 6 (.one 7 .fin)))]))))))] mixed Try.call59 Try.func59 rfl Try.ntmps59 Try.results59 (by decide +kernel) rfl rfl rfl ?_
  simp only [push_cast, ↓branch_true, ↓branch_false, Nat.reduceBEq, Nat.reduceAdd, Nat.reduceMul, Nat.reduceSub, Int.reduceToNat, reduceCtorEq, branch_decide, branch_not, branch_beq, branch_bne]
  refine sp_call (plan_pu s p cp N c c3 G hpl) rfl [0, 2, 3] rfl (by simp only [push_cast, ↓branch_true, ↓branch_false, Nat.reduceBEq, Nat.reduceAdd, Nat.reduceMul, Nat.reduceSub, Int.reduceToNat, reduceCtorEq, branch_decide, branch_not, branch_beq, branch_bne]) (by simp only [push_cast, ↓branch_true, ↓branch_false, Nat.reduceBEq, Nat.reduceAdd, Nat.reduceMul, Nat.reduceSub, Int.reduceToNat, reduceCtorEq, branch_decide, branch_not, branch_beq, branch_bne]) ?_
  simp only [push_cast, ↓branch_true, ↓branch_false, Nat.reduceBEq, Nat.reduceAdd, Nat.reduceMul, Nat.reduceSub, Int.reduceToNat, reduceCtorEq, branch_decide, branch_not, branch_beq, branch_bne]
  cases hp : planB s p with
  | false =>
    simp only [push_cast, ↓branch_true, ↓branch_false, Nat.reduceBEq, Nat.reduceAdd, Nat.reduceMul, Nat.reduceSub, Int.reduceToNat, reduceCtorEq, branch_decide, branch_not, branch_beq, branch_bne]
    simp [rightB, hp]
  | true =>
  have hpn := plan_len hp
  simp only [push_cast, ↓branch_true, ↓branch_false, Nat.reduceBEq, Nat.reduceAdd, Nat.reduceMul, Nat.reduceSub, Int.reduceToNat, reduceCtorEq, branch_decide, branch_not, branch_beq, branch_bne]
  refine ⟨[(7, .s 4 0 0 l.length l.length 1), (8, .s 5 0 0 s.length s.length 1), (0, .s 0 0 0 s.length c 2), (1, .s 1 0 0 l.length c2 2), (2, .s 2 0 0 p.length c3 3)], [rSt s, rPc l, rPt 3 p cp, rFm N G, rOwn 3 l.length l.length (fun _ => 0), rOwn 3 s.length s.length (fun _ => 0)], ?_, ?_⟩
  · repeat' (with_reducible apply And.intro)
    all_goals first
      | omega
      | (refine Mt.wk (rl := [0, 1, 2, 3, 4, 5]) ⟨by kernel_rfl, ?_, ?_⟩
         · simp only [push_cast, ↓branch_true, ↓branch_false, Nat.reduceBEq, Nat.reduceAdd, Nat.reduceMul, Nat.reduceSub, Int.reduceToNat, reduceCtorEq, branch_decide, branch_not, branch_beq, branch_bne]
         · simp only [push_cast, ↓branch_true, ↓branch_false, Nat.reduceBEq, Nat.reduceAdd, Nat.reduceMul, Nat.reduceSub, Int.reduceToNat, reduceCtorEq, branch_decide, branch_not, branch_beq, branch_bne]
         )
      | (refine Mt.wk (rl := [0, 1, 2, 3, 5, 4]) ⟨by kernel_rfl, ?_, ?_⟩
         · simp only [push_cast, ↓branch_true, ↓branch_false, Nat.reduceBEq, Nat.reduceAdd, Nat.reduceMul, Nat.reduceSub, Int.reduceToNat, reduceCtorEq, branch_decide, branch_not, branch_beq, branch_bne]
         · simp only [push_cast, ↓branch_true, ↓branch_false, Nat.reduceBEq, Nat.reduceAdd, Nat.reduceMul, Nat.reduceSub, Int.reduceToNat, reduceCtorEq, branch_decide, branch_not, branch_beq, branch_bne]
         )
  simp only [push_cast, ↓branch_true, ↓branch_false, Nat.reduceBEq, Nat.reduceAdd, Nat.reduceMul, Nat.reduceSub, Int.reduceToNat, reduceCtorEq, branch_decide, branch_not, branch_beq, branch_bne, jnK]
  refine tr_loop mixed (by kernel_rfl) (fun (k : Nat) => [(31, .v (.int .i64 k)), (30, .v (.int .i64 p.length)), (29, .s 2 0 0 p.length c3 3), (7, .s 4 0 0 l.length l.length 1), (8, .s 5 0 0 s.length s.length 1), (0, .s 0 0 0 s.length c 2), (1, .s 1 0 0 l.length c2 2)])
    (fun k => [rSt s, rPc l, rPt 3 p cp, rFm N G, rOwn 3 l.length l.length (fun i => madeT p k i), rOwn 3 s.length s.length (fun j => usedT p k j)]) (fun k => k ≤ p.length ∧ ∀ q, q < k → fitP s l (ix p q) = true) (fun k => p.length - k) 0 ⟨Nat.zero_le _, fun j h => by omega⟩ (Mt.wk (rl := [0, 1, 2, 3, 4, 5]) ⟨by kernel_rfl, ?_, ?_⟩) ?_
  · simp only [push_cast, ↓branch_true, ↓branch_false, Nat.reduceBEq, Nat.reduceAdd, Nat.reduceMul, Nat.reduceSub, Int.reduceToNat, reduceCtorEq, branch_decide, branch_not, branch_beq, branch_bne]
  · simp only [push_cast, ↓branch_true, ↓branch_false, Nat.reduceBEq, Nat.reduceAdd, Nat.reduceMul, Nat.reduceSub, Int.reduceToNat, reduceCtorEq, branch_decide, branch_not, branch_beq, branch_bne]
    simp [madeT, usedT]
  rintro k ⟨hk, hf⟩
  simp only [push_cast, ↓branch_true, ↓branch_false, Nat.reduceBEq, Nat.reduceAdd, Nat.reduceMul, Nat.reduceSub, Int.reduceToNat, reduceCtorEq, branch_decide, branch_not, branch_beq, branch_bne]
  refine ⟨fun a1 => ?_, fun a1 => ?_⟩
  · have hk2 : k < p.length := by omega
    have hat := plan_at hp hk2
    have hGk := hG k hk2
    have hgk := hg k hk2
    have hst := st_len hvs (k := (ix p k).stock.toNat) (by omega)
    repeat (with_reducible refine And.intro (by omega) ?_)
    have hvf := validF_pu (ix s (ix p k).stock.toNat).len l G N k c2 (cp k) (by omega) (by omega)
    have hvv : validV (ix s (ix p k).stock.toNat).len l (G k) = .t [.v (.bool (fitP s l (ix p k))), .v (.int .i64 (givenE (ix s (ix p k).stock.toNat).len l (G k).length))] := by
      unfold validV
      rw [valid_fits ho hst.1 hst.2.1, hGk]; rfl
    have hge : givenE (ix s (ix p k).stock.toNat).len l (G k).length ≠ 0 → fitP s l (ix p k) = false := by
      intro h
      unfold fitP
      rw [← hGk, ← valid_fits ho hst.1 hst.2.1, decide_eq_false h]; rfl
    rw [hvv, hGk] at hvf
    rw [hGk] at hge
    generalize hgv : givenE (ix s (ix p k).stock.toNat).len l (ix p k).ps.length = ge at *
    refine qc_call hvf rfl [1, 3] rfl ?_ ?_ ?_
    · simp only [push_cast, ↓branch_true, ↓branch_false, Nat.reduceBEq, Nat.reduceAdd, Nat.reduceMul, Nat.reduceSub, Int.reduceToNat, reduceCtorEq, branch_decide, branch_not, branch_beq, branch_bne]
    · simp only [push_cast, ↓branch_true, ↓branch_false, Nat.reduceBEq, Nat.reduceAdd, Nat.reduceMul, Nat.reduceSub, Int.reduceToNat, reduceCtorEq, branch_decide, branch_not, branch_beq, branch_bne]
    simp only [push_cast, ↓branch_true, ↓branch_false, Nat.reduceBEq, Nat.reduceAdd, Nat.reduceMul, Nat.reduceSub, Int.reduceToNat, reduceCtorEq, branch_decide, branch_not, branch_beq, branch_bne]
    refine ⟨fun g0 => ?_, fun g0 => ?_⟩
    rotate_left
    · rw [right_no fun h => absurd (h.2.1 k hk2) (by rw [hge g0]; decide)]
    cases hfk : fitP s l (ix p k) with
    | false =>
      simp only [push_cast, ↓branch_true, ↓branch_false, Nat.reduceBEq, Nat.reduceAdd, Nat.reduceMul, Nat.reduceSub, Int.reduceToNat, reduceCtorEq, branch_decide, branch_not, branch_beq, branch_bne]
      rw [right_no fun h => by rw [h.2.1 k hk2] at hfk; cases hfk]
    | true =>
    simp only [push_cast, ↓branch_true, ↓branch_false, Nat.reduceBEq, Nat.reduceAdd, Nat.reduceMul, Nat.reduceSub, Int.reduceToNat, reduceCtorEq, branch_decide, branch_not, branch_beq, branch_bne]
    obtain ⟨fl, fn⟩ := fit_at hfk
    have hur := used_range hp (ix p k).stock.toNat k hk
    have hf2 : ∀ q, q < k + 1 → fitP s l (ix p q) = true := fun q hq => by
      by_cases e : q = k
      · rw [e]; exact hfk
      · exact hf q (by omega)
    repeat (with_reducible refine And.intro (by omega) ?_)
    refine tr_loop mixed (by kernel_rfl) (fun (t : Nat) => [(66, .v (.int .i64 t)), (65, .v (.int .i64 l.length)), (64, .s 3 k 0 l.length (cp k) 1), (10, .p 6 0 0), (31, .v (.int .i64 k)), (30, .v (.int .i64 p.length)), (29, .s 2 0 0 p.length c3 3), (7, .s 4 0 0 l.length l.length 1), (8, .s 5 0 0 s.length s.length 1), (0, .s 0 0 0 s.length c 2), (1, .s 1 0 0 l.length c2 2)])
      (fun t => [rSt s, rPc l, rPt 3 p cp, rFm N G, rOwn 3 l.length l.length (fun i => madeT p (bif decide (i < t) then k + 1 else k) i), rOwn 3 s.length s.length (fun j => usedT p (k + 1) j), ⟨50, false, .st (cPt 3 p cp k)⟩]) (fun t => t ≤ l.length) (fun t => l.length - t) 0 (Nat.zero_le _) (Mt.wk (rl := [0, 1, 2, 3, 4, 5, 6]) ⟨by kernel_rfl, ?_, ?_⟩) ?_
    · simp only [push_cast, ↓branch_true, ↓branch_false, Nat.reduceBEq, Nat.reduceAdd, Nat.reduceMul, Nat.reduceSub, Int.reduceToNat, reduceCtorEq, branch_decide, branch_not, branch_beq, branch_bne, fl]
    · simp only [push_cast, ↓branch_true, ↓branch_false, Nat.reduceBEq, Nat.reduceAdd, Nat.reduceMul, Nat.reduceSub, Int.reduceToNat, reduceCtorEq, branch_decide, branch_not, branch_beq, branch_bne, fl]
      refine ⟨fun x hx q hq => by simp, fun x hx q hq => ?_⟩
      obtain rfl : x = 0 := by omega
      rw [usedT_succ hk2]
      by_cases eq : q = (ix p k).stock.toNat
      · subst eq
        rw [if_pos (by omega)]
        simp only [push_cast, ↓branch_true, ↓branch_false, Nat.reduceBEq, Nat.reduceAdd, Nat.reduceMul, Nat.reduceSub, Int.reduceToNat, reduceCtorEq, branch_decide, branch_not, branch_beq, branch_bne]
      · have hb : (q == (ix p k).stock.toNat) = false := by simpa using eq
        rw [if_neg (by omega), Int.add_zero]
        simp only [push_cast, ↓branch_true, ↓branch_false, Nat.reduceBEq, Nat.reduceAdd, Nat.reduceMul, Nat.reduceSub, Int.reduceToNat, reduceCtorEq, branch_decide, branch_not, branch_beq, branch_bne, hb]
    intro t ht
    simp only [push_cast, ↓branch_true, ↓branch_false, Nat.reduceBEq, Nat.reduceAdd, Nat.reduceMul, Nat.reduceSub, Int.reduceToNat, reduceCtorEq, branch_decide, branch_not, branch_beq, branch_bne, hGk, fl]
    refine ⟨fun b1 => ?_, fun b1 => ?_⟩
    · have ht2 : t < l.length := by omega
      have hnt := fn t ht2
      have h4 := order_at ho ht2
      have hmr := made_range ho hp ht2 k hk hf
      have hmr2 := made_range ho hp ht2 (k + 1) (by omega) hf2
      have hmm := mul_le hnt.1 (show ix (ix p k).ps t ≤ 1000000 by omega) (show 0 ≤ (ix p k).times by omega) hat.2.2.2
      have e1 := madeT_succ (i := t) hk2
      have hb0 : decide (t < t) = false := by simp
      simp only [hb0, cond_false]
      repeat (with_reducible refine And.intro (by omega) ?_)
      refine lpK_normal (t + 1) [0, 1, 2, 3, 4, 5, 6] (by omega) (by omega) (by kernel_rfl) ?_ ?_
      · simp only [push_cast, ↓branch_true, ↓branch_false, Nat.reduceBEq, Nat.reduceAdd, Nat.reduceMul, Nat.reduceSub, Int.reduceToNat, reduceCtorEq, branch_decide, branch_not, branch_beq, branch_bne, fl]
      · simp only [push_cast, ↓branch_true, ↓branch_false, Nat.reduceBEq, Nat.reduceAdd, Nat.reduceMul, Nat.reduceSub, Int.reduceToNat, reduceCtorEq, branch_decide, branch_not, branch_beq, branch_bne, fl]
        intro x hx q hq
        obtain rfl : x = 0 := by omega
        by_cases eq : q = t
        · subst eq
          have hb2 : decide (q < q + 1) = true := by simp
          simp only [push_cast, ↓branch_true, ↓branch_false, Nat.reduceBEq, Nat.reduceAdd, Nat.reduceMul, Nat.reduceSub, Int.reduceToNat, reduceCtorEq, branch_decide, branch_not, branch_beq, branch_bne, hb2, e1]
        · have hb : (q == t) = false := by simpa using eq
          by_cases e2 : q < t
          · have hb2 : decide (q < t + 1) = true := by simp; omega
            have hb3 : decide (q < t) = true := by simp; omega
            simp only [push_cast, ↓branch_true, ↓branch_false, Nat.reduceBEq, Nat.reduceAdd, Nat.reduceMul, Nat.reduceSub, Int.reduceToNat, reduceCtorEq, branch_decide, branch_not, branch_beq, branch_bne, hb, hb2, hb3]
          · have hb2 : decide (q < t + 1) = false := by simp; omega
            have hb3 : decide (q < t) = false := by simp; omega
            simp only [push_cast, ↓branch_true, ↓branch_false, Nat.reduceBEq, Nat.reduceAdd, Nat.reduceMul, Nat.reduceSub, Int.reduceToNat, reduceCtorEq, branch_decide, branch_not, branch_beq, branch_bne, hb, hb2, hb3]
    · obtain rfl : t = l.length := by omega
      repeat (with_reducible refine And.intro (by omega) ?_)
      refine lpK_normal (k + 1) [0, 1, 2, 3, 4, 5] ⟨by omega, hf2⟩ (by omega) (by kernel_rfl) ?_ ?_
      · simp only [push_cast, ↓branch_true, ↓branch_false, Nat.reduceBEq, Nat.reduceAdd, Nat.reduceMul, Nat.reduceSub, Int.reduceToNat, reduceCtorEq, branch_decide, branch_not, branch_beq, branch_bne]
      · simp only [push_cast, ↓branch_true, ↓branch_false, Nat.reduceBEq, Nat.reduceAdd, Nat.reduceMul, Nat.reduceSub, Int.reduceToNat, reduceCtorEq, branch_decide, branch_not, branch_beq, branch_bne]
        refine fun x hx q hq => ?_
        have hb3 : decide (q < l.length) = true := by simp; omega
        simp only [push_cast, ↓branch_true, ↓branch_false, Nat.reduceBEq, Nat.reduceAdd, Nat.reduceMul, Nat.reduceSub, Int.reduceToNat, reduceCtorEq, branch_decide, branch_not, branch_beq, branch_bne, hb3]
  obtain rfl : k = p.length := by omega
  refine tr_loop mixed (by kernel_rfl) (fun (i : Nat) => [(85, .v (.int .i64 i)), (84, .v (.int .i64 l.length)), (83, .s 1 0 0 l.length c2 2), (7, .s 4 0 0 l.length l.length 1), (8, .s 5 0 0 s.length s.length 1), (0, .s 0 0 0 s.length c 2), (1, .s 1 0 0 l.length c2 2)])
    (fun _ => [rSt s, rPc l, rPt 3 p cp, rFm N G, rOwn 3 l.length l.length (fun i => madeT p p.length i), rOwn 3 s.length s.length (fun j => usedT p p.length j)]) (fun i => i ≤ l.length ∧ ∀ q, q < i → madeT p p.length q = (ix l q).cnt) (fun i => l.length - i) 0 ⟨Nat.zero_le _, fun j h => by omega⟩ (Mt.wk (rl := [0, 1, 2, 3, 4, 5]) ⟨by kernel_rfl, ?_, ?_⟩) ?_
  · simp only [push_cast, ↓branch_true, ↓branch_false, Nat.reduceBEq, Nat.reduceAdd, Nat.reduceMul, Nat.reduceSub, Int.reduceToNat, reduceCtorEq, branch_decide, branch_not, branch_beq, branch_bne]
  · simp only [push_cast, ↓branch_true, ↓branch_false, Nat.reduceBEq, Nat.reduceAdd, Nat.reduceMul, Nat.reduceSub, Int.reduceToNat, reduceCtorEq, branch_decide, branch_not, branch_beq, branch_bne]
  rintro i ⟨hi, hm⟩
  simp only [push_cast, ↓branch_true, ↓branch_false, Nat.reduceBEq, Nat.reduceAdd, Nat.reduceMul, Nat.reduceSub, Int.reduceToNat, reduceCtorEq, branch_decide, branch_not, branch_beq, branch_bne]
  refine ⟨fun b1 => ?_, fun b1 => ?_⟩
  · have hi2 : i < l.length := by omega
    repeat (with_reducible refine And.intro (by omega) ?_)
    refine ⟨fun e1 => ?_, fun e1 => ?_⟩
    · repeat (with_reducible refine And.intro (by omega) ?_)
      refine lpK_normal (i + 1) [0, 1, 2, 3, 4, 5] ⟨by omega, fun q hq => ?_⟩ (by omega) (by kernel_rfl) ?_ ?_
      · by_cases e : q = i
        · rw [e]; exact e1
        · exact hm q (by omega)
      · simp only [push_cast, ↓branch_true, ↓branch_false, Nat.reduceBEq, Nat.reduceAdd, Nat.reduceMul, Nat.reduceSub, Int.reduceToNat, reduceCtorEq, branch_decide, branch_not, branch_beq, branch_bne]
      · simp only [push_cast, ↓branch_true, ↓branch_false, Nat.reduceBEq, Nat.reduceAdd, Nat.reduceMul, Nat.reduceSub, Int.reduceToNat, reduceCtorEq, branch_decide, branch_not, branch_beq, branch_bne]
    · rw [right_no fun h => e1 (h.2.2.1 i hi2)]
  obtain rfl : i = l.length := by omega
  refine tr_loop mixed (by kernel_rfl) (fun (i : Nat) => [(100, .v (.int .i64 i)), (99, .v (.int .i64 s.length)), (98, .s 0 0 0 s.length c 2), (7, .s 4 0 0 l.length l.length 1), (8, .s 5 0 0 s.length s.length 1), (0, .s 0 0 0 s.length c 2), (1, .s 1 0 0 l.length c2 2)])
    (fun _ => [rSt s, rPc l, rPt 3 p cp, rFm N G, rOwn 3 l.length l.length (fun i => madeT p p.length i), rOwn 3 s.length s.length (fun j => usedT p p.length j)]) (fun i => i ≤ s.length ∧ ∀ q, q < i → (ix s q).cnt < 0 ∨ usedT p p.length q ≤ (ix s q).cnt) (fun i => s.length - i) 0 ⟨Nat.zero_le _, fun j h => by omega⟩ (Mt.wk (rl := [0, 1, 2, 3, 4, 5]) ⟨by kernel_rfl, ?_, ?_⟩) ?_
  · simp only [push_cast, ↓branch_true, ↓branch_false, Nat.reduceBEq, Nat.reduceAdd, Nat.reduceMul, Nat.reduceSub, Int.reduceToNat, reduceCtorEq, branch_decide, branch_not, branch_beq, branch_bne]
  · simp only [push_cast, ↓branch_true, ↓branch_false, Nat.reduceBEq, Nat.reduceAdd, Nat.reduceMul, Nat.reduceSub, Int.reduceToNat, reduceCtorEq, branch_decide, branch_not, branch_beq, branch_bne]
  rintro i ⟨hi, hu⟩
  simp only [push_cast, ↓branch_true, ↓branch_false, Nat.reduceBEq, Nat.reduceAdd, Nat.reduceMul, Nat.reduceSub, Int.reduceToNat, reduceCtorEq, branch_decide, branch_not, branch_beq, branch_bne]
  refine ⟨fun b1 => ?_, fun b1 => ?_⟩
  · have hi2 : i < s.length := by omega
    have no : ¬ ((ix s i).cnt < 0 ∨ usedT p p.length i ≤ (ix s i).cnt) → rightB s l p = false := fun h => right_no fun h2 => h (h2.2.2.2 i hi2)
    repeat' (with_reducible (first | apply And.intro | intro _))
    all_goals try omega
    all_goals first
      | (rw [no (by omega)]; done)
      | (refine lpK_normal (i + 1) [0, 1, 2, 3, 4, 5] ⟨by omega, fun q hq => ?_⟩ (by omega) (by kernel_rfl) ?_ ?_
         · by_cases e : q = i
           · rw [e]; omega
           · exact hu q (by omega)
         · simp only [push_cast, ↓branch_true, ↓branch_false, Nat.reduceBEq, Nat.reduceAdd, Nat.reduceMul, Nat.reduceSub, Int.reduceToNat, reduceCtorEq, branch_decide, branch_not, branch_beq, branch_bne]
         · simp only [push_cast, ↓branch_true, ↓branch_false, Nat.reduceBEq, Nat.reduceAdd, Nat.reduceMul, Nat.reduceSub, Int.reduceToNat, reduceCtorEq, branch_decide, branch_not, branch_beq, branch_bne]
         )
  obtain rfl : i = s.length := by omega
  rw [right_yes.2 ⟨hp, hf, hm, hu⟩]
theorem check_pu (s l : List Pc) (p : List Pt) (cp : Nat → Nat) (N c c2 c3 : Nat) (G : Nat → List Int) (hsl : s.length ≤ 9223372036854775807) (hll : l.length ≤ 9223372036854775807) (hN : p.length ≤ N) (hG : ∀ k, k < p.length → G k = (ix p k).ps) (hg : ∀ k, k < p.length → (ix p k).ps.length ≤ 9223372036854775806) (hpl : p.length ≤ 9223372036854775807) :
    Pu Try.prog 24 [.s 0 0 0 s.length c 2, .s 1 0 0 l.length c2 2, .s 2 0 0 p.length c3 3] [rSt s, rPc l, rPt 3 p cp, rFm N G] (.t [.v (.bool (stB s && orderB l && rightB s l p)), .v (.int .i64 (if stB s && orderB l then 0 else 1))]) := by
  refine pu_of_ex true [] mixed Try.call24 Try.func24 rfl Try.ntmps24 Try.results24 (by decide +kernel) rfl rfl rfl ?_
  simp only [push_cast, ↓branch_true, ↓branch_false, Nat.reduceBEq, Nat.reduceAdd, Nat.reduceMul, Nat.reduceSub, Int.reduceToNat, reduceCtorEq, branch_decide, branch_not, branch_beq, branch_bne]
  refine sp_call (validS_pu s c hsl) rfl [0] rfl (by simp only [push_cast, ↓branch_true, ↓branch_false, Nat.reduceBEq, Nat.reduceAdd, Nat.reduceMul, Nat.reduceSub, Int.reduceToNat, reduceCtorEq, branch_decide, branch_not, branch_beq, branch_bne]) (by simp only [push_cast, ↓branch_true, ↓branch_false, Nat.reduceBEq, Nat.reduceAdd, Nat.reduceMul, Nat.reduceSub, Int.reduceToNat, reduceCtorEq, branch_decide, branch_not, branch_beq, branch_bne]) ?_
  simp only [push_cast, ↓branch_true, ↓branch_false, Nat.reduceBEq, Nat.reduceAdd, Nat.reduceMul, Nat.reduceSub, Int.reduceToNat, reduceCtorEq, branch_decide, branch_not, branch_beq, branch_bne]
  cases hvs : stB s with
  | false =>
    simp only [push_cast, ↓branch_true, ↓branch_false, Nat.reduceBEq, Nat.reduceAdd, Nat.reduceMul, Nat.reduceSub, Int.reduceToNat, reduceCtorEq, branch_decide, branch_not, branch_beq, branch_bne]
  | true =>
  simp only [push_cast, ↓branch_true, ↓branch_false, Nat.reduceBEq, Nat.reduceAdd, Nat.reduceMul, Nat.reduceSub, Int.reduceToNat, reduceCtorEq, branch_decide, branch_not, branch_beq, branch_bne]
  refine sp_call (order_pu l c2 hll) rfl [1] rfl (by simp only [push_cast, ↓branch_true, ↓branch_false, Nat.reduceBEq, Nat.reduceAdd, Nat.reduceMul, Nat.reduceSub, Int.reduceToNat, reduceCtorEq, branch_decide, branch_not, branch_beq, branch_bne]) (by simp only [push_cast, ↓branch_true, ↓branch_false, Nat.reduceBEq, Nat.reduceAdd, Nat.reduceMul, Nat.reduceSub, Int.reduceToNat, reduceCtorEq, branch_decide, branch_not, branch_beq, branch_bne]) ?_
  simp only [push_cast, ↓branch_true, ↓branch_false, Nat.reduceBEq, Nat.reduceAdd, Nat.reduceMul, Nat.reduceSub, Int.reduceToNat, reduceCtorEq, branch_decide, branch_not, branch_beq, branch_bne]
  cases hvo : orderB l with
  | false =>
    simp only [push_cast, ↓branch_true, ↓branch_false, Nat.reduceBEq, Nat.reduceAdd, Nat.reduceMul, Nat.reduceSub, Int.reduceToNat, reduceCtorEq, branch_decide, branch_not, branch_beq, branch_bne]
  | true =>
  simp only [push_cast, ↓branch_true, ↓branch_false, Nat.reduceBEq, Nat.reduceAdd, Nat.reduceMul, Nat.reduceSub, Int.reduceToNat, reduceCtorEq, branch_decide, branch_not, branch_beq, branch_bne]
  refine sp_call (right_pu s l p cp N c c2 c3 G hvs hvo hN hG hg hpl) rfl [0, 1, 2, 3] rfl ?_ ?_ ?_
  · simp only [push_cast, ↓branch_true, ↓branch_false, Nat.reduceBEq, Nat.reduceAdd, Nat.reduceMul, Nat.reduceSub, Int.reduceToNat, reduceCtorEq, branch_decide, branch_not, branch_beq, branch_bne]
  · simp only [push_cast, ↓branch_true, ↓branch_false, Nat.reduceBEq, Nat.reduceAdd, Nat.reduceMul, Nat.reduceSub, Int.reduceToNat, reduceCtorEq, branch_decide, branch_not, branch_beq, branch_bne]
  simp only [push_cast, ↓branch_true, ↓branch_false, Nat.reduceBEq, Nat.reduceAdd, Nat.reduceMul, Nat.reduceSub, Int.reduceToNat, reduceCtorEq, branch_decide, branch_not, branch_beq, branch_bne]
def timesT (p : List Pt) (k : Nat) : Int := ((p.take k).map Pt.times).sum
def lensT (s : List Pc) (p : List Pt) (k : Nat) : Int := ((p.take k).map fun x => x.times * (ix s x.stock.toNat).len).sum
theorem timesT_succ {p : List Pt} {k : Nat} (h : k < p.length) : timesT p (k + 1) = timesT p k + (ix p k).times := by
  unfold timesT
  rw [take_snoc h, List.map_append, List.sum_append]; simp
theorem lensT_succ {s : List Pc} {p : List Pt} {k : Nat} (h : k < p.length) : lensT s p (k + 1) = lensT s p k + (ix p k).times * (ix s (ix p k).stock.toNat).len := by
  unfold lensT
  rw [take_snoc h, List.map_append, List.sum_append]; simp
theorem times_range {s : List Pc} {p : List Pt} (hvs : stB s = true) (h : planB s p = true) : ∀ k, k ≤ p.length → (k : Int) ≤ timesT p k ∧ timesT p k ≤ 1000000 * k ∧ 0 ≤ lensT s p k ∧ lensT s p k ≤ 1048576000000 * k
  | 0, _ => by simp [timesT, lensT]
  | k + 1, hk => by
    have ih := times_range hvs h k (by omega)
    have h2 := plan_at h (k := k) (by omega)
    have h3 := st_len hvs (k := (ix p k).stock.toNat) (by omega)
    have hm := mul_le (show 0 ≤ (ix p k).times by omega) h2.2.2.2 (show 0 ≤ (ix s (ix p k).stock.toNat).len by omega) h3.2.1
    rw [timesT_succ (by omega), lensT_succ (by omega)]
    omega
def usedE (s : List Pc) (p : List Pt) : Int := if stB s = false then 1 else if planB s p = false then 13 else 0
def usedN (s : List Pc) (p : List Pt) : Int := if usedE s p = 0 then timesT p p.length else 0
def usedS (s : List Pc) (p : List Pt) : Int := if usedE s p = 0 then lensT s p p.length else 0
theorem used_pu (s : List Pc) (p : List Pt) (cp : Nat → Nat) (N c c3 : Nat) (G : Nat → List Int) (hsl : s.length ≤ 9223372036854775807) (hpl : p.length ≤ 9223372036854775807) :
    Pu Try.prog 26 [.s 0 0 0 s.length c 2, .s 1 0 0 p.length c3 3] [rSt s, rPt 2 p cp, rFm N G] (.t [.v (.int .i64 (usedN s p)), .v (.int .i64 (usedS s p)), .v (.int .i64 (usedE s p))]) := by
  refine pu_of_ex true [] mixed Try.call26 Try.func26 rfl Try.ntmps26 Try.results26 (by decide +kernel) rfl rfl rfl ?_
  simp only [push_cast, ↓branch_true, ↓branch_false, Nat.reduceBEq, Nat.reduceAdd, Nat.reduceMul, Nat.reduceSub, Int.reduceToNat, reduceCtorEq, branch_decide, branch_not, branch_beq, branch_bne]
  refine sp_call (validS_pu s c hsl) rfl [0] rfl (by simp only [push_cast, ↓branch_true, ↓branch_false, Nat.reduceBEq, Nat.reduceAdd, Nat.reduceMul, Nat.reduceSub, Int.reduceToNat, reduceCtorEq, branch_decide, branch_not, branch_beq, branch_bne]) (by simp only [push_cast, ↓branch_true, ↓branch_false, Nat.reduceBEq, Nat.reduceAdd, Nat.reduceMul, Nat.reduceSub, Int.reduceToNat, reduceCtorEq, branch_decide, branch_not, branch_beq, branch_bne]) ?_
  simp only [push_cast, ↓branch_true, ↓branch_false, Nat.reduceBEq, Nat.reduceAdd, Nat.reduceMul, Nat.reduceSub, Int.reduceToNat, reduceCtorEq, branch_decide, branch_not, branch_beq, branch_bne]
  cases hvs : stB s with
  | false =>
    have e : usedE s p = 1 := if_pos hvs
    simp only [push_cast, ↓branch_true, ↓branch_false, Nat.reduceBEq, Nat.reduceAdd, Nat.reduceMul, Nat.reduceSub, Int.reduceToNat, reduceCtorEq, branch_decide, branch_not, branch_beq, branch_bne]
    simp [usedN, usedS, e]
  | true =>
  simp only [push_cast, ↓branch_true, ↓branch_false, Nat.reduceBEq, Nat.reduceAdd, Nat.reduceMul, Nat.reduceSub, Int.reduceToNat, reduceCtorEq, branch_decide, branch_not, branch_beq, branch_bne]
  refine sp_call (plan_pu s p cp N c c3 G hpl) rfl [0, 1, 2] rfl (by simp only [push_cast, ↓branch_true, ↓branch_false, Nat.reduceBEq, Nat.reduceAdd, Nat.reduceMul, Nat.reduceSub, Int.reduceToNat, reduceCtorEq, branch_decide, branch_not, branch_beq, branch_bne]) (by simp only [push_cast, ↓branch_true, ↓branch_false, Nat.reduceBEq, Nat.reduceAdd, Nat.reduceMul, Nat.reduceSub, Int.reduceToNat, reduceCtorEq, branch_decide, branch_not, branch_beq, branch_bne]) ?_
  simp only [push_cast, ↓branch_true, ↓branch_false, Nat.reduceBEq, Nat.reduceAdd, Nat.reduceMul, Nat.reduceSub, Int.reduceToNat, reduceCtorEq, branch_decide, branch_not, branch_beq, branch_bne]
  cases hp : planB s p with
  | false =>
    have e : usedE s p = 13 := by rw [usedE, if_neg (by simp [hvs]), if_pos hp]
    simp only [push_cast, ↓branch_true, ↓branch_false, Nat.reduceBEq, Nat.reduceAdd, Nat.reduceMul, Nat.reduceSub, Int.reduceToNat, reduceCtorEq, branch_decide, branch_not, branch_beq, branch_bne]
    simp [usedN, usedS, e]
  | true =>
  have e : usedE s p = 0 := by rw [usedE, if_neg (by simp [hvs]), if_neg (by simp [hp])]
  have hpn := plan_len hp
  simp only [push_cast, ↓branch_true, ↓branch_false, Nat.reduceBEq, Nat.reduceAdd, Nat.reduceMul, Nat.reduceSub, Int.reduceToNat, reduceCtorEq, branch_decide, branch_not, branch_beq, branch_bne]
  refine tr_loop mixed (by kernel_rfl) (fun (k : Nat) => [(22, .v (.int .i64 k)), (21, .v (.int .i64 p.length)), (20, .s 1 0 0 p.length c3 3), (7, .v (.int .i64 (timesT p k))), (8, .v (.int .i64 (lensT s p k))), (0, .s 0 0 0 s.length c 2)])
    (fun _ => [rSt s, rPt 2 p cp, rFm N G]) (fun k => k ≤ p.length) (fun k => p.length - k) 0 (Nat.zero_le _) (Mt.wk (rl := [0, 1, 2]) ⟨by kernel_rfl, ?_, ?_⟩) ?_
  · simp only [push_cast, ↓branch_true, ↓branch_false, Nat.reduceBEq, Nat.reduceAdd, Nat.reduceMul, Nat.reduceSub, Int.reduceToNat, reduceCtorEq, branch_decide, branch_not, branch_beq, branch_bne]
    simp [timesT, lensT]
  · simp only [push_cast, ↓branch_true, ↓branch_false, Nat.reduceBEq, Nat.reduceAdd, Nat.reduceMul, Nat.reduceSub, Int.reduceToNat, reduceCtorEq, branch_decide, branch_not, branch_beq, branch_bne]
  intro k hk
  have hr := times_range hvs hp k hk
  simp only [push_cast, ↓branch_true, ↓branch_false, Nat.reduceBEq, Nat.reduceAdd, Nat.reduceMul, Nat.reduceSub, Int.reduceToNat, reduceCtorEq, branch_decide, branch_not, branch_beq, branch_bne]
  refine ⟨fun h => ?_, fun h => ?_⟩
  · have hk2 : k < p.length := by omega
    have h2 := plan_at hp hk2
    have h3 := st_len hvs (k := (ix p k).stock.toNat) (by omega)
    have hm := mul_le (show 0 ≤ (ix p k).times by omega) h2.2.2.2 (show 0 ≤ (ix s (ix p k).stock.toNat).len by omega) h3.2.1
    repeat (with_reducible refine And.intro (by omega) ?_)
    refine lpK_normal (k + 1) [0, 1, 2] (by omega) (by omega) (by kernel_rfl) ?_ ?_
    · simp only [push_cast, ↓branch_true, ↓branch_false, Nat.reduceBEq, Nat.reduceAdd, Nat.reduceMul, Nat.reduceSub, Int.reduceToNat, reduceCtorEq, branch_decide, branch_not, branch_beq, branch_bne, timesT_succ hk2, lensT_succ hk2]
    · simp only [push_cast, ↓branch_true, ↓branch_false, Nat.reduceBEq, Nat.reduceAdd, Nat.reduceMul, Nat.reduceSub, Int.reduceToNat, reduceCtorEq, branch_decide, branch_not, branch_beq, branch_bne]
  · obtain rfl : k = p.length := by omega
    simp [usedN, usedS, e]
theorem rused_pu (s : List Pc) (p : List Pt) (cp : Nat → Nat) (N c c3 : Nat) (G : Nat → List Int) (hvs : stB s = true) (hp : planB s p = true) :
    Pu Try.prog 29 [.s 0 0 0 s.length c 2, .s 1 0 0 p.length c3 3] [rSt s, rPt 2 p cp, rFm N G] (.t [.v (.int .i64 (timesT p p.length)), .v (.int .i64 (lensT s p p.length))]) := by
  have hpn := plan_len hp
  refine pu_of_ex true [] mixed Try.call29 Try.func29 rfl Try.ntmps29 Try.results29 (by decide +kernel) rfl rfl rfl ?_
  simp only [push_cast, ↓branch_true, ↓branch_false, Nat.reduceBEq, Nat.reduceAdd, Nat.reduceMul, Nat.reduceSub, Int.reduceToNat, reduceCtorEq, branch_decide, branch_not, branch_beq, branch_bne]
  refine tr_loop0 mixed (by kernel_rfl) (fun (k : Nat) => [(8, .v (.int .i64 k)), (6, .v (.int .i64 (timesT p k))), (7, .v (.int .i64 (lensT s p k))), (0, .s 0 0 0 s.length c 2), (1, .s 1 0 0 p.length c3 3)]) (fun k => k ≤ p.length) (fun k => p.length - k) 0 (Nat.zero_le _) ?_ ?_
  · simp only [push_cast, ↓branch_true, ↓branch_false, Nat.reduceBEq, Nat.reduceAdd, Nat.reduceMul, Nat.reduceSub, Int.reduceToNat, reduceCtorEq, branch_decide, branch_not, branch_beq, branch_bne]
    simp [timesT, lensT]
  intro k hk
  have hr := times_range hvs hp k hk
  simp only [push_cast, ↓branch_true, ↓branch_false, Nat.reduceBEq, Nat.reduceAdd, Nat.reduceMul, Nat.reduceSub, Int.reduceToNat, reduceCtorEq, branch_decide, branch_not, branch_beq, branch_bne]
  refine ⟨fun h => ?_, fun h => ?_⟩
  · have hk2 : k < p.length := by omega
    have h2 := plan_at hp hk2
    have h3 := st_len hvs (k := (ix p k).stock.toNat) (by omega)
    have hm := mul_le (show 0 ≤ (ix p k).times by omega) h2.2.2.2 (show 0 ≤ (ix s (ix p k).stock.toNat).len by omega) h3.2.1
    repeat (with_reducible refine And.intro (by omega) ?_)
    refine lp0_normal (k + 1) (by omega) (by omega) ?_
    simp only [push_cast, ↓branch_true, ↓branch_false, Nat.reduceBEq, Nat.reduceAdd, Nat.reduceMul, Nat.reduceSub, Int.reduceToNat, reduceCtorEq, branch_decide, branch_not, branch_beq, branch_bne, timesT_succ hk2, lensT_succ hk2]
  · obtain rfl : k = p.length := by omega
    trivial
def totT (l : List Pc) (k : Nat) : Int := ((l.take k).map fun p => p.len * p.cnt).sum
theorem totT_succ {l : List Pc} {k : Nat} (h : k < l.length) : totT l (k + 1) = totT l k + (ix l k).len * (ix l k).cnt := by
  unfold totT
  rw [take_snoc h, List.map_append, List.sum_append]; simp
theorem tot_range {l : List Pc} (ho : orderB l = true) : ∀ k, k ≤ l.length → (k : Int) ≤ totT l k ∧ totT l k ≤ 1048576000000 * k
  | 0, _ => by simp [totT]
  | k + 1, hk => by
    have ih := tot_range ho k (by omega)
    have h2 := order_at ho (k := k) (by omega)
    have hm := mul_le (show 0 ≤ (ix l k).len by omega) h2.2.1 (show 0 ≤ (ix l k).cnt by omega) h2.2.2.2
    have hp : 1 * 1 ≤ (ix l k).len * (ix l k).cnt := Int.mul_le_mul (by omega) (by omega) (by decide) (by omega)
    rw [totT_succ (by omega)]
    omega
def totL (l : List Pc) : Int := totT l l.length
theorem rtotal_pu (l : List Pc) (c : Nat) (ho : orderB l = true) : Pu Try.prog 31 [.s 0 0 0 l.length c 2] [rPc l] (.v (.int .i64 (totL l))) := by
  have hll := order_len ho
  refine pu_of_ex true [] mixed Try.call31 Try.func31 rfl Try.ntmps31 Try.results31 (by decide +kernel) rfl rfl rfl ?_
  simp only [push_cast, ↓branch_true, ↓branch_false, Nat.reduceBEq, Nat.reduceAdd, Nat.reduceMul, Nat.reduceSub, Int.reduceToNat, reduceCtorEq, branch_decide, branch_not, branch_beq, branch_bne]
  refine tr_loop0 mixed (by kernel_rfl) (fun (k : Nat) => [(4, .v (.int .i64 k)), (3, .v (.int .i64 (totT l k))), (0, .s 0 0 0 l.length c 2)]) (fun k => k ≤ l.length) (fun k => l.length - k) 0 (Nat.zero_le _) ?_ ?_
  · simp only [push_cast, ↓branch_true, ↓branch_false, Nat.reduceBEq, Nat.reduceAdd, Nat.reduceMul, Nat.reduceSub, Int.reduceToNat, reduceCtorEq, branch_decide, branch_not, branch_beq, branch_bne]
    simp [totT]
  intro k hk
  have hr := tot_range ho k hk
  simp only [push_cast, ↓branch_true, ↓branch_false, Nat.reduceBEq, Nat.reduceAdd, Nat.reduceMul, Nat.reduceSub, Int.reduceToNat, reduceCtorEq, branch_decide, branch_not, branch_beq, branch_bne]
  refine ⟨fun h => ?_, fun h => ?_⟩
  · have h2 := order_at ho (k := k) (by omega)
    have hm := mul_le (show 0 ≤ (ix l k).len by omega) h2.2.1 (show 0 ≤ (ix l k).cnt by omega) h2.2.2.2
    repeat (with_reducible refine And.intro (by omega) ?_)
    refine lp0_normal (k + 1) (by omega) (by omega) ?_
    simp only [push_cast, ↓branch_true, ↓branch_false, Nat.reduceBEq, Nat.reduceAdd, Nat.reduceMul, Nat.reduceSub, Int.reduceToNat, reduceCtorEq, branch_decide, branch_not, branch_beq, branch_bne, totT_succ (show k < l.length by omega)]
  · obtain rfl : k = l.length := by omega
    rfl
theorem total_pu (l : List Pc) (c : Nat) (hl : l.length ≤ 9223372036854775807) : Pu Try.prog 33 [.s 0 0 0 l.length c 2] [rPc l] (.t [.v (.int .i64 (if orderB l then totL l else 0)), .v (.int .i64 (if orderB l then 0 else 1))]) := by
  refine pu_of_ex true [] mixed Try.call33 Try.func33 rfl Try.ntmps33 Try.results33 (by decide +kernel) rfl rfl rfl ?_
  simp only [push_cast, ↓branch_true, ↓branch_false, Nat.reduceBEq, Nat.reduceAdd, Nat.reduceMul, Nat.reduceSub, Int.reduceToNat, reduceCtorEq, branch_decide, branch_not, branch_beq, branch_bne]
  refine sp_call (order_pu l c hl) rfl [0] rfl (by simp only [push_cast, ↓branch_true, ↓branch_false, Nat.reduceBEq, Nat.reduceAdd, Nat.reduceMul, Nat.reduceSub, Int.reduceToNat, reduceCtorEq, branch_decide, branch_not, branch_beq, branch_bne]) (by simp only [push_cast, ↓branch_true, ↓branch_false, Nat.reduceBEq, Nat.reduceAdd, Nat.reduceMul, Nat.reduceSub, Int.reduceToNat, reduceCtorEq, branch_decide, branch_not, branch_beq, branch_bne]) ?_
  simp only [push_cast, ↓branch_true, ↓branch_false, Nat.reduceBEq, Nat.reduceAdd, Nat.reduceMul, Nat.reduceSub, Int.reduceToNat, reduceCtorEq, branch_decide, branch_not, branch_beq, branch_bne]
  cases ho : orderB l with
  | false =>
    simp only [push_cast, ↓branch_true, ↓branch_false, Nat.reduceBEq, Nat.reduceAdd, Nat.reduceMul, Nat.reduceSub, Int.reduceToNat, reduceCtorEq, branch_decide, branch_not, branch_beq, branch_bne]
  | true =>
  have hll := order_len ho
  simp only [push_cast, ↓branch_true, ↓branch_false, Nat.reduceBEq, Nat.reduceAdd, Nat.reduceMul, Nat.reduceSub, Int.reduceToNat, reduceCtorEq, branch_decide, branch_not, branch_beq, branch_bne]
  refine tr_loop mixed (by kernel_rfl) (fun (k : Nat) => [(12, .v (.int .i64 k)), (11, .v (.int .i64 l.length)), (10, .s 0 0 0 l.length c 2), (4, .v (.int .i64 (totT l k)))]) (fun _ => [rPc l]) (fun k => k ≤ l.length) (fun k => l.length - k) 0 (Nat.zero_le _) (Mt.wk (rl := [0]) ⟨by kernel_rfl, ?_, ?_⟩) ?_
  · simp only [push_cast, ↓branch_true, ↓branch_false, Nat.reduceBEq, Nat.reduceAdd, Nat.reduceMul, Nat.reduceSub, Int.reduceToNat, reduceCtorEq, branch_decide, branch_not, branch_beq, branch_bne]
    simp [totT]
  · simp only [push_cast, ↓branch_true, ↓branch_false, Nat.reduceBEq, Nat.reduceAdd, Nat.reduceMul, Nat.reduceSub, Int.reduceToNat, reduceCtorEq, branch_decide, branch_not, branch_beq, branch_bne]
  intro k hk
  have hr := tot_range ho k hk
  simp only [push_cast, ↓branch_true, ↓branch_false, Nat.reduceBEq, Nat.reduceAdd, Nat.reduceMul, Nat.reduceSub, Int.reduceToNat, reduceCtorEq, branch_decide, branch_not, branch_beq, branch_bne]
  refine ⟨fun h => ?_, fun h => ?_⟩
  · have h2 := order_at ho (k := k) (by omega)
    have hm := mul_le (show 0 ≤ (ix l k).len by omega) h2.2.1 (show 0 ≤ (ix l k).cnt by omega) h2.2.2.2
    repeat (with_reducible refine And.intro (by omega) ?_)
    refine lpK_normal (k + 1) [0] (by omega) (by omega) (by kernel_rfl) ?_ ?_
    · simp only [push_cast, ↓branch_true, ↓branch_false, Nat.reduceBEq, Nat.reduceAdd, Nat.reduceMul, Nat.reduceSub, Int.reduceToNat, reduceCtorEq, branch_decide, branch_not, branch_beq, branch_bne, totT_succ (show k < l.length by omega)]
    · simp only [push_cast, ↓branch_true, ↓branch_false, Nat.reduceBEq, Nat.reduceAdd, Nat.reduceMul, Nat.reduceSub, Int.reduceToNat, reduceCtorEq, branch_decide, branch_not, branch_beq, branch_bne]
  · obtain rfl : k = l.length := by omega
    simp [totL]
def wasteE (s l : List Pc) (p : List Pt) : Int := if stB s = false ∨ orderB l = false then 1 else if rightB s l p = false then 13 else 0
def wasteV (s l : List Pc) (p : List Pt) : Int := if wasteE s l p = 0 then lensT s p p.length - totL l else 0
theorem waste_pu (s l : List Pc) (p : List Pt) (cp : Nat → Nat) (N c c2 c3 : Nat) (G : Nat → List Int) (hsl : s.length ≤ 9223372036854775807) (hll : l.length ≤ 9223372036854775807) (hN : p.length ≤ N) (hG : ∀ k, k < p.length → G k = (ix p k).ps) (hg : ∀ k, k < p.length → (ix p k).ps.length ≤ 9223372036854775806) (hpl : p.length ≤ 9223372036854775807) :
    Pu Try.prog 27 [.s 0 0 0 s.length c 2, .s 1 0 0 l.length c2 2, .s 2 0 0 p.length c3 3] [rSt s, rPc l, rPt 3 p cp, rFm N G] (.t [.v (.int .i64 (wasteV s l p)), .v (.int .i64 (wasteE s l p))]) := by
  refine pu_of_ex true [] mixed Try.call27 Try.func27 rfl Try.ntmps27 Try.results27 (by decide +kernel) rfl rfl rfl ?_
  simp only [push_cast, ↓branch_true, ↓branch_false, Nat.reduceBEq, Nat.reduceAdd, Nat.reduceMul, Nat.reduceSub, Int.reduceToNat, reduceCtorEq, branch_decide, branch_not, branch_beq, branch_bne]
  refine sp_call (check_pu s l p cp N c c2 c3 G hsl hll hN hG hg hpl) rfl [0, 1, 2, 3] rfl ?_ ?_ ?_
  · simp only [push_cast, ↓branch_true, ↓branch_false, Nat.reduceBEq, Nat.reduceAdd, Nat.reduceMul, Nat.reduceSub, Int.reduceToNat, reduceCtorEq, branch_decide, branch_not, branch_beq, branch_bne]
  · simp only [push_cast, ↓branch_true, ↓branch_false, Nat.reduceBEq, Nat.reduceAdd, Nat.reduceMul, Nat.reduceSub, Int.reduceToNat, reduceCtorEq, branch_decide, branch_not, branch_beq, branch_bne]
  cases hvs : stB s with
  | false =>
    have e : wasteE s l p = 1 := if_pos (.inl hvs)
    simp only [Bool.false_and, Bool.false_eq_true, if_false]
    simp only [push_cast, ↓branch_true, ↓branch_false, Nat.reduceBEq, Nat.reduceAdd, Nat.reduceMul, Nat.reduceSub, Int.reduceToNat, reduceCtorEq, branch_decide, branch_not, branch_beq, branch_bne]
    refine ⟨fun h => by omega, fun _ => ?_⟩
    simp [wasteV, e]
  | true =>
  cases hvo : orderB l with
  | false =>
    have e : wasteE s l p = 1 := if_pos (.inr hvo)
    simp only [Bool.true_and, Bool.false_and, Bool.false_eq_true, if_false]
    simp only [push_cast, ↓branch_true, ↓branch_false, Nat.reduceBEq, Nat.reduceAdd, Nat.reduceMul, Nat.reduceSub, Int.reduceToNat, reduceCtorEq, branch_decide, branch_not, branch_beq, branch_bne]
    refine ⟨fun h => by omega, fun _ => ?_⟩
    simp [wasteV, e]
  | true =>
  simp only [Bool.true_and, Bool.and_self, if_true]
  cases hr : rightB s l p with
  | false =>
    have e : wasteE s l p = 13 := by rw [wasteE, if_neg (by simp [hvs, hvo]), if_pos hr]
    simp only [push_cast, ↓branch_true, ↓branch_false, Nat.reduceBEq, Nat.reduceAdd, Nat.reduceMul, Nat.reduceSub, Int.reduceToNat, reduceCtorEq, branch_decide, branch_not, branch_beq, branch_bne]
    simp [wasteV, e]
  | true =>
  have e : wasteE s l p = 0 := by rw [wasteE, if_neg (by simp [hvs, hvo]), if_neg (by simp [hr])]
  have hp := (right_yes.1 hr).1
  have e2 : usedE s p = 0 := by rw [usedE, if_neg (by simp [hvs]), if_neg (by simp [hp])]
  have hpn := plan_len hp
  have hrr := times_range hvs hp p.length (Nat.le_refl _)
  have htt := tot_range hvo l.length (Nat.le_refl _)
  have hlo := order_len hvo
  simp only [push_cast, ↓branch_true, ↓branch_false, Nat.reduceBEq, Nat.reduceAdd, Nat.reduceMul, Nat.reduceSub, Int.reduceToNat, reduceCtorEq, branch_decide, branch_not, branch_beq, branch_bne]
  intro _
  refine sp_call (used_pu s p cp N c c3 G hsl hpl) rfl [0, 2, 3] rfl ?_ ?_ ?_
  · simp only [push_cast, ↓branch_true, ↓branch_false, Nat.reduceBEq, Nat.reduceAdd, Nat.reduceMul, Nat.reduceSub, Int.reduceToNat, reduceCtorEq, branch_decide, branch_not, branch_beq, branch_bne]
  · simp only [push_cast, ↓branch_true, ↓branch_false, Nat.reduceBEq, Nat.reduceAdd, Nat.reduceMul, Nat.reduceSub, Int.reduceToNat, reduceCtorEq, branch_decide, branch_not, branch_beq, branch_bne]
  rw [show usedS s p = lensT s p p.length from if_pos e2, e2]
  simp only [push_cast, ↓branch_true, ↓branch_false, Nat.reduceBEq, Nat.reduceAdd, Nat.reduceMul, Nat.reduceSub, Int.reduceToNat, reduceCtorEq, branch_decide, branch_not, branch_beq, branch_bne]
  intro _
  refine sp_call (total_pu l c2 hll) rfl [1] rfl (by simp only [push_cast, ↓branch_true, ↓branch_false, Nat.reduceBEq, Nat.reduceAdd, Nat.reduceMul, Nat.reduceSub, Int.reduceToNat, reduceCtorEq, branch_decide, branch_not, branch_beq, branch_bne]) (by simp only [push_cast, ↓branch_true, ↓branch_false, Nat.reduceBEq, Nat.reduceAdd, Nat.reduceMul, Nat.reduceSub, Int.reduceToNat, reduceCtorEq, branch_decide, branch_not, branch_beq, branch_bne]) ?_
  simp only [push_cast, ↓branch_true, ↓branch_false, Nat.reduceBEq, Nat.reduceAdd, Nat.reduceMul, Nat.reduceSub, Int.reduceToNat, reduceCtorEq, branch_decide, branch_not, branch_beq, branch_bne]
  rw [hvo]
  simp only [push_cast, ↓branch_true, ↓branch_false, Nat.reduceBEq, Nat.reduceAdd, Nat.reduceMul, Nat.reduceSub, Int.reduceToNat, reduceCtorEq, branch_decide, branch_not, branch_beq, branch_bne]
  intro _
  unfold totL
  repeat (with_reducible refine And.intro (by omega) ?_)
  rw [show wasteV s l p = lensT s p p.length - totL l from if_pos e, e]
  rfl
end Go.Proofs.Ythlpfjcjfhdmaaa
