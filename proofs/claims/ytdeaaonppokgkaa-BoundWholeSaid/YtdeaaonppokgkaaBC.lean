/- Contracts: prices that prove a bound, of the program and of the reference. -/
import Derived.Test.YtdeaaonppokgkaaA0
import Derived.Test.YtdeaaonppokgkaaBA9
import Derived.Test.YtdeaaonppokgkaaW9
set_option maxRecDepth 100000
set_option linter.unusedSimpArgs false
set_option linter.unusedVariables false
namespace Go.Proofs.Ytdeaaonppokgkaa.Pat
open Go.RowKit
/-- What prices cost. -/
def costT (l : List Pc) (pr : List Int) : Nat → Int
  | 0 => 0
  | k + 1 => costT l pr k + (ix l k).cnt * ix pr k
theorem price_at {pr : List Int} (h : pr.any badP = false) {k : Nat} (hk : k < pr.length) : 0 ≤ ix pr k ∧ ix pr k ≤ 1073741824 := by
  have h1 := List.any_eq_false.1 h _ (ix_mem hk)
  unfold badP at h1
  simp at h1
  omega
theorem cost_range {l : List Pc} {pr : List Int} (ho : orderB l = true) (h : pr.any badP = false) (he : pr.length = l.length) : ∀ k, k ≤ l.length → 0 ≤ costT l pr k ∧ costT l pr k ≤ 1073741824000000 * k
  | 0, _ => by simp [costT]
  | k + 1, hk => by
    have ih := cost_range ho h he k (by omega)
    have h2 := order_at ho (k := k) (by omega)
    have h3 := price_at h (k := k) (by omega)
    have hm := mul_le (show 0 ≤ (ix l k).cnt by omega) h2.2.2.2 h3.1 h3.2
    rw [costT]
    omega
def provE (lim : Int) (l : List Pc) (pr : List Int) (sc : Int) : Int :=
  if givE lim l ≠ 0 then givE lim l else if pr.length ≠ l.length then 3 else if (sc < 1 ∨ 1073741824 < sc) ∨ pr.any badP = true then 2 else if 10 < l.length then 6 else if sc < (bestS lim l pr).2 then 13 else 0
def provV (lim : Int) (l : List Pc) (pr : List Int) (sc : Int) : Int := if provE lim l pr sc = 0 then upR (costT l pr l.length) sc else 0
theorem badP2_pu (n : Int) : Pu Try.prog 35 [.v (.int .i64 n)] [] (.v (.bool (badP n))) := by
  refine pu_of_ex true [] mixed Try.call35 Try.func35 rfl Try.ntmps35 Try.results35 (by decide +kernel) rfl rfl rfl ?_
  simp only [push_cast, ↓branch_true, ↓branch_false, Nat.reduceBEq, Nat.reduceAdd, Nat.reduceMul, Nat.reduceSub, Int.reduceToNat, reduceCtorEq, Int.reduceAdd, Int.reduceEq, Int.reduceLE, Int.reduceLT, Nat.reduceLT, Nat.reduceLeDiff]
  unfold badP
  exact ⟨fun h => by rw [decide_eq_true h, Bool.true_or], fun h => by rw [decide_eq_false h, Bool.false_or]⟩
theorem givR_E (lim : Int) (l : List Pc) : givR lim l = givE lim l := by
  unfold givR givE gapB
  by_cases h0 : orderB l = false
  · rw [if_pos h0, if_pos h0]
  · rw [if_neg h0, if_neg h0]
    by_cases h : 1 ≤ lim ∧ lim ≤ 1048576
    · rw [if_neg (fun h2 => h2 h), if_neg (show ¬ (lim < 1 ∨ 1048576 < lim) by omega)]
    · rw [if_pos h, if_pos (show lim < 1 ∨ 1048576 < lim by omega)]
set_option maxHeartbeats 2000000 in
theorem bproves_sp (lim : Int) (l : List Pc) (c : Nat) (pr : List Int) (cp : Nat) (sc : Int) (hl : l.length ≤ 9223372036854775807) (hl2 : pr.length ≤ 9223372036854775807) : Sp Try.prog 11 [.v (.int .i64 lim), .s 0 0 0 l.length c 2, .s 1 0 0 pr.length cp 1, .v (.int .i64 sc)] [rPc l, rInt 3 pr]
    (fun r H => r = .t [.v (.int .i64 (provV lim l pr sc)), .v (.int .i64 (provE lim l pr sc))] ∧ H = [rPc l, rInt 3 pr]) := by
  unfold provV
  refine sp_weak ?_
  refine sp_of_ex true [] mixed Try.call11 Try.func11 rfl Try.ntmps11 Try.results11 (by decide +kernel) rfl ?_
  simp only [push_cast, ↓branch_true, ↓branch_false, Nat.reduceBEq, Nat.reduceAdd, Nat.reduceMul, Nat.reduceSub, Int.reduceToNat, reduceCtorEq, Int.reduceAdd, Int.reduceEq, Int.reduceLE, Int.reduceLT, Nat.reduceLT, Nat.reduceLeDiff]
  refine sp_c (bgiven_pu lim l c hl) rfl [0] ?_
  simp only [push_cast, ↓branch_true, ↓branch_false, Nat.reduceBEq, Nat.reduceAdd, Nat.reduceMul, Nat.reduceSub, Int.reduceToNat, reduceCtorEq, Int.reduceAdd, Int.reduceEq, Int.reduceLE, Int.reduceLT, Nat.reduceLT, Nat.reduceLeDiff]
  have bad : ∀ (e : Int) (H1 : List Ob), provE lim l pr sc = e → e ≠ 0 → obsM [0, 1] H1 [0, 1] [rPc l, rInt 3 pr] → ∃ r H2 rl, mt rl r (SV.t [.v (.int .i64 0), .v (.int .i64 e)]) ∧ (keepB 0 rl 2 && nodupB (liveL rl H2) && Nat.beq rl.length H2.length) = true ∧ obsM rl H1 rl H2 ∧
      r = SV.t [.v (.int .i64 (if provE lim l pr sc = 0 then upR (costT l pr l.length) sc else 0)), .v (.int .i64 (provE lim l pr sc))] ∧ H2 = [rPc l, rInt 3 pr] := fun e H1 he h0 ho => by
    refine ⟨_, _, [0, 1], ?_, by kernel_rfl, ho, rfl, rfl⟩
    rw [he, if_neg h0]
    simp only [push_cast, ↓branch_true, ↓branch_false, Nat.reduceBEq, Nat.reduceAdd, Nat.reduceMul, Nat.reduceSub, Int.reduceToNat, reduceCtorEq, Int.reduceAdd, Int.reduceEq, Int.reduceLE, Int.reduceLT, Nat.reduceLT, Nat.reduceLeDiff]
  by_cases hg : givE lim l = 0
  rotate_left
  · have e : provE lim l pr sc = givE lim l := if_pos hg
    exact ⟨fun h => absurd h hg, fun _ => bad _ [rPc l, rInt 3 pr] e hg (by (simp only [push_cast, ↓branch_true, ↓branch_false, Nat.reduceBEq, Nat.reduceAdd, Nat.reduceMul, Nat.reduceSub, Int.reduceToNat, reduceCtorEq, Int.reduceAdd, Int.reduceEq, Int.reduceLE, Int.reduceLT, Nat.reduceLT, Nat.reduceLeDiff]))⟩
  obtain ⟨ho, h1, h2, h3⟩ := givE_0 hg
  have e0 : provE lim l pr sc = if pr.length ≠ l.length then 3 else if (sc < 1 ∨ 1073741824 < sc) ∨ pr.any badP = true then 2 else if 10 < l.length then 6 else if sc < (bestS lim l pr).2 then 13 else 0 := if_neg (by omega)
  rw [hg]
  simp only [push_cast, ↓branch_true, ↓branch_false, Nat.reduceBEq, Nat.reduceAdd, Nat.reduceMul, Nat.reduceSub, Int.reduceToNat, reduceCtorEq, Int.reduceAdd, Int.reduceEq, Int.reduceLE, Int.reduceLT, Nat.reduceLT, Nat.reduceLeDiff]
  refine ⟨fun c1 => ⟨fun c2 => ?_, fun c2 => ⟨fun c3 => ?_, fun c3 => ?_⟩⟩, fun c1 => ?_⟩
  · exact bad 2 [rPc l, rInt 3 pr] (by rw [e0, if_neg (by omega), if_pos (.inl (.inl c2))]) (by decide) (by (simp only [push_cast, ↓branch_true, ↓branch_false, Nat.reduceBEq, Nat.reduceAdd, Nat.reduceMul, Nat.reduceSub, Int.reduceToNat, reduceCtorEq, Int.reduceAdd, Int.reduceEq, Int.reduceLE, Int.reduceLT, Nat.reduceLT, Nat.reduceLeDiff]))
  · exact bad 2 [rPc l, rInt 3 pr] (by rw [e0, if_neg (by omega), if_pos (.inl (.inr c3))]) (by decide) (by (simp only [push_cast, ↓branch_true, ↓branch_false, Nat.reduceBEq, Nat.reduceAdd, Nat.reduceMul, Nat.reduceSub, Int.reduceToNat, reduceCtorEq, Int.reduceAdd, Int.reduceEq, Int.reduceLE, Int.reduceLT, Nat.reduceLT, Nat.reduceLeDiff]))
  · refine sp_call (containsI_pu pr cp 35 [] [] [] badP rfl hl2 fun x _ => pu_at (badP2_pu x) rfl [] rfl (by (simp only [push_cast, ↓branch_true, ↓branch_false, Nat.reduceBEq, Nat.reduceAdd, Nat.reduceMul, Nat.reduceSub, Int.reduceToNat, reduceCtorEq, Int.reduceAdd, Int.reduceEq, Int.reduceLE, Int.reduceLT, Nat.reduceLT, Nat.reduceLeDiff])) (by (simp only [push_cast, ↓branch_true, ↓branch_false, Nat.reduceBEq, Nat.reduceAdd, Nat.reduceMul, Nat.reduceSub, Int.reduceToNat, reduceCtorEq, Int.reduceAdd, Int.reduceEq, Int.reduceLE, Int.reduceLT, Nat.reduceLT, Nat.reduceLeDiff]))) rfl [1] rfl ?_ ?_ ?_
    · simp only [push_cast, ↓branch_true, ↓branch_false, Nat.reduceBEq, Nat.reduceAdd, Nat.reduceMul, Nat.reduceSub, Int.reduceToNat, reduceCtorEq, Int.reduceAdd, Int.reduceEq, Int.reduceLE, Int.reduceLT, Nat.reduceLT, Nat.reduceLeDiff]
    · simp only [push_cast, ↓branch_true, ↓branch_false, Nat.reduceBEq, Nat.reduceAdd, Nat.reduceMul, Nat.reduceSub, Int.reduceToNat, reduceCtorEq, Int.reduceAdd, Int.reduceEq, Int.reduceLE, Int.reduceLT, Nat.reduceLT, Nat.reduceLeDiff]
    cases hb : pr.any badP with
    | true =>
      simp only [push_cast, ↓branch_true, ↓branch_false, Nat.reduceBEq, Nat.reduceAdd, Nat.reduceMul, Nat.reduceSub, Int.reduceToNat, reduceCtorEq, Int.reduceAdd, Int.reduceEq, Int.reduceLE, Int.reduceLT, Nat.reduceLT, Nat.reduceLeDiff]
      exact bad 2 [rPc l, rInt 3 pr] (by rw [e0, if_neg (by omega), if_pos (.inr hb)]) (by decide) (by (simp only [push_cast, ↓branch_true, ↓branch_false, Nat.reduceBEq, Nat.reduceAdd, Nat.reduceMul, Nat.reduceSub, Int.reduceToNat, reduceCtorEq, Int.reduceAdd, Int.reduceEq, Int.reduceLE, Int.reduceLT, Nat.reduceLT, Nat.reduceLeDiff]))
    | false =>
    simp only [push_cast, ↓branch_true, ↓branch_false, Nat.reduceBEq, Nat.reduceAdd, Nat.reduceMul, Nat.reduceSub, Int.reduceToNat, reduceCtorEq, Int.reduceAdd, Int.reduceEq, Int.reduceLE, Int.reduceLT, Nat.reduceLT, Nat.reduceLeDiff]
    refine ⟨fun c4 => ?_, fun c4 => ?_⟩
    · exact bad 6 [rPc l, rInt 3 pr] (by rw [e0, if_neg (by omega), if_neg (fun h => h.elim (fun h => by omega) fun h => by rw [hb] at h; cases h), if_pos (by omega)]) (by decide) (by (simp only [push_cast, ↓branch_true, ↓branch_false, Nat.reduceBEq, Nat.reduceAdd, Nat.reduceMul, Nat.reduceSub, Int.reduceToNat, reduceCtorEq, Int.reduceAdd, Int.reduceEq, Int.reduceLE, Int.reduceLT, Nat.reduceLT, Nat.reduceLeDiff]))
    have e1 : provE lim l pr sc = if sc < (bestS lim l pr).2 then 13 else 0 := by
      rw [e0, if_neg (by omega), if_neg (fun h => h.elim (fun h => by omega) fun h => by rw [hb] at h; cases h), if_neg (by omega)]
    have hbe : bestE lim l pr = 0 := by
      unfold bestE
      have : givenE lim l pr.length = 0 := by
        unfold givenE
        rw [if_neg (by rw [ho]; decide), if_neg (by omega), if_pos (by omega)]
      rw [if_neg (by omega), if_neg (by rw [hb]; decide), if_neg (by omega)]
    refine sp_at (bestX_sp lim l c pr cp hl hl2) [0, 1] (by kernel_rfl) ?_ ?_ ?_
    · simp only [push_cast, ↓branch_true, ↓branch_false, Nat.reduceBEq, Nat.reduceAdd, Nat.reduceMul, Nat.reduceSub, Int.reduceToNat, reduceCtorEq, Int.reduceAdd, Int.reduceEq, Int.reduceLE, Int.reduceLT, Nat.reduceLT, Nat.reduceLeDiff]
    · simp only [push_cast, ↓branch_true, ↓branch_false, Nat.reduceBEq, Nat.reduceAdd, Nat.reduceMul, Nat.reduceSub, Int.reduceToNat, reduceCtorEq, Int.reduceAdd, Int.reduceEq, Int.reduceLE, Int.reduceLT, Nat.reduceLT, Nat.reduceLeDiff]
    rintro _ _ ⟨nb, bi, bl, bc, caps, bf, rfl, _, hbr, rfl⟩
    have hbr := hbr hbe
    rw [hbe]
    have hcr := cost_range ho hb (by omega) l.length (Nat.le_refl _)
    simp only [push_cast, ↓branch_true, ↓branch_false, Nat.reduceBEq, Nat.reduceAdd, Nat.reduceMul, Nat.reduceSub, Int.reduceToNat, reduceCtorEq, Int.reduceAdd, Int.reduceEq, Int.reduceLE, Int.reduceLT, Nat.reduceLT, Nat.reduceLeDiff]
    refine ⟨fun c5 => bad 13 [rPc l, rInt 3 pr, oFam l.length nb caps bf] (by rw [e1, if_pos c5]) (by decide) (by (simp only [push_cast, ↓branch_true, ↓branch_false, Nat.reduceBEq, Nat.reduceAdd, Nat.reduceMul, Nat.reduceSub, Int.reduceToNat, reduceCtorEq, Int.reduceAdd, Int.reduceEq, Int.reduceLE, Int.reduceLT, Nat.reduceLT, Nat.reduceLeDiff])), fun c5 => ?_⟩
    rw [if_neg c5] at e1
    refine tr_loop mixed (by kernel_rfl) (fun (k : Nat) => [(60, .v (.int .i64 k)), (59, .v (.int .i64 l.length)), (58, .s 0 0 0 l.length c 2), (14, .v (.int .i64 (costT l pr k))), (2, .s 1 0 0 pr.length cp 1), (3, .v (.int .i64 sc))])
      (fun _ => [rPc l, rInt 3 pr]) (fun k => k ≤ l.length) (fun k => l.length - k) 0 (Nat.zero_le _) (Mt.wk (rl := [0, 1]) ⟨by kernel_rfl, ?_, ?_⟩) ?_
    · simp only [push_cast, ↓branch_true, ↓branch_false, Nat.reduceBEq, Nat.reduceAdd, Nat.reduceMul, Nat.reduceSub, Int.reduceToNat, reduceCtorEq, Int.reduceAdd, Int.reduceEq, Int.reduceLE, Int.reduceLT, Nat.reduceLT, Nat.reduceLeDiff]
      rfl
    · simp only [push_cast, ↓branch_true, ↓branch_false, Nat.reduceBEq, Nat.reduceAdd, Nat.reduceMul, Nat.reduceSub, Int.reduceToNat, reduceCtorEq, Int.reduceAdd, Int.reduceEq, Int.reduceLE, Int.reduceLT, Nat.reduceLT, Nat.reduceLeDiff]
    intro k hk
    have hs : costT l pr (k + 1) = costT l pr k + (ix l k).cnt * ix pr k := rfl
    have ck := cost_range ho hb (by omega) k hk
    simp only [push_cast, ↓branch_true, ↓branch_false, Nat.reduceBEq, Nat.reduceAdd, Nat.reduceMul, Nat.reduceSub, Int.reduceToNat, reduceCtorEq, Int.reduceAdd, Int.reduceEq, Int.reduceLE, Int.reduceLT, Nat.reduceLT, Nat.reduceLeDiff]
    refine ⟨fun c6 => ?_, fun c6 => ?_⟩
    · have hkl : k < l.length := by omega
      have h2 := order_at ho hkl
      have h3 := price_at hb (k := k) (by omega)
      have hm := mul_le (show 0 ≤ (ix l k).cnt by omega) h2.2.2.2 h3.1 h3.2
      repeat (with_reducible refine And.intro (by omega) ?_)
      refine lpK_normal (k + 1) [0, 1] (by omega) (by omega) (by kernel_rfl) ?_ ?_
      · simp only [push_cast, ↓branch_true, ↓branch_false, Nat.reduceBEq, Nat.reduceAdd, Nat.reduceMul, Nat.reduceSub, Int.reduceToNat, reduceCtorEq, Int.reduceAdd, Int.reduceEq, Int.reduceLE, Int.reduceLT, Nat.reduceLT, Nat.reduceLeDiff, hs]
      · simp only [push_cast, ↓branch_true, ↓branch_false, Nat.reduceBEq, Nat.reduceAdd, Nat.reduceMul, Nat.reduceSub, Int.reduceToNat, reduceCtorEq, Int.reduceAdd, Int.reduceEq, Int.reduceLE, Int.reduceLT, Nat.reduceLT, Nat.reduceLeDiff]
    · obtain rfl : k = l.length := by omega
      refine sp_c (bup_pu (costT l pr l.length) sc (by omega) (by omega) (by omega) (by omega)) rfl [] ?_
      simp only [push_cast, ↓branch_true, ↓branch_false, Nat.reduceBEq, Nat.reduceAdd, Nat.reduceMul, Nat.reduceSub, Int.reduceToNat, reduceCtorEq, Int.reduceAdd, Int.reduceEq, Int.reduceLE, Int.reduceLT, Nat.reduceLT, Nat.reduceLeDiff]
      refine ⟨_, _, [0, 1], ?_, by kernel_rfl, ?_, rfl, rfl⟩
      · rw [e1, if_pos rfl]
        simp only [push_cast, ↓branch_true, ↓branch_false, Nat.reduceBEq, Nat.reduceAdd, Nat.reduceMul, Nat.reduceSub, Int.reduceToNat, reduceCtorEq, Int.reduceAdd, Int.reduceEq, Int.reduceLE, Int.reduceLT, Nat.reduceLT, Nat.reduceLeDiff]
      · simp only [push_cast, ↓branch_true, ↓branch_false, Nat.reduceBEq, Nat.reduceAdd, Nat.reduceMul, Nat.reduceSub, Int.reduceToNat, reduceCtorEq, Int.reduceAdd, Int.reduceEq, Int.reduceLE, Int.reduceLT, Nat.reduceLT, Nat.reduceLeDiff]
  · exact bad 3 [rPc l, rInt 3 pr] (by rw [e0, if_pos (by omega)]) (by decide) (by (simp only [push_cast, ↓branch_true, ↓branch_false, Nat.reduceBEq, Nat.reduceAdd, Nat.reduceMul, Nat.reduceSub, Int.reduceToNat, reduceCtorEq, Int.reduceAdd, Int.reduceEq, Int.reduceLE, Int.reduceLT, Nat.reduceLT, Nat.reduceLeDiff]))
def priE (l : List Pc) (pr : List Int) (sc : Int) : Int := if pr.length ≠ l.length then 3 else if pr.any badP = true then 2 else if sc < 1 ∨ 1073741824 < sc then 2 else if 10 < l.length then 6 else 0
theorem rpriced_pu (l : List Pc) (c : Nat) (pr : List Int) (cp : Nat) (sc : Int) (hl : l.length ≤ 9223372036854775806) (hl2 : pr.length ≤ 9223372036854775806) : Pu Try.prog 38 [.s 0 0 0 l.length c 2, .s 1 0 0 pr.length cp 1, .v (.int .i64 sc)] [rPc l, rInt 3 pr] (.v (.int .i64 (priE l pr sc))) := by
  unfold priE
  refine pu_of_ex true [] mixed Try.call38 Try.func38 rfl Try.ntmps38 Try.results38 (by decide +kernel) rfl rfl rfl ?_
  simp only [push_cast, ↓branch_true, ↓branch_false, Nat.reduceBEq, Nat.reduceAdd, Nat.reduceMul, Nat.reduceSub, Int.reduceToNat, reduceCtorEq, Int.reduceAdd, Int.reduceEq, Int.reduceLE, Int.reduceLT, Nat.reduceLT, Nat.reduceLeDiff]
  refine ⟨fun c1 => ?_, fun c1 => ?_⟩
  rotate_left
  · rw [if_pos (by omega)]
  rw [if_neg (by omega)]
  refine tr_loop0 mixed (by kernel_rfl) (fun (k : Nat) => [(7, .v (.int .i64 k)), (0, .s 0 0 0 l.length c 2), (1, .s 1 0 0 pr.length cp 1), (2, .v (.int .i64 sc))]) (fun k => k ≤ pr.length ∧ ∀ j, j < k → badP (ix pr j) = false) (fun k => pr.length - k) 0 ⟨Nat.zero_le _, fun j hj => absurd hj (Nat.not_lt_zero _)⟩ ?_ ?_
  · simp only [push_cast, ↓branch_true, ↓branch_false, Nat.reduceBEq, Nat.reduceAdd, Nat.reduceMul, Nat.reduceSub, Int.reduceToNat, reduceCtorEq, Int.reduceAdd, Int.reduceEq, Int.reduceLE, Int.reduceLT, Nat.reduceLT, Nat.reduceLeDiff]
  rintro k ⟨hk, hn⟩
  simp only [push_cast, ↓branch_true, ↓branch_false, Nat.reduceBEq, Nat.reduceAdd, Nat.reduceMul, Nat.reduceSub, Int.reduceToNat, reduceCtorEq, Int.reduceAdd, Int.reduceEq, Int.reduceLE, Int.reduceLT, Nat.reduceLT, Nat.reduceLeDiff]
  refine ⟨fun c2 => ?_, fun c2 => ?_⟩
  · have hkl : k < pr.length := by omega
    repeat (with_reducible refine And.intro (by omega) ?_)
    refine ⟨fun c3 => ?_, fun c3 => ?_⟩
    · rw [if_pos (List.any_eq_true.2 ⟨_, ix_mem hkl, by unfold badP; rw [decide_eq_true c3]; rfl⟩)]
    repeat (with_reducible refine And.intro (by omega) ?_)
    refine ⟨fun c4 => ?_, fun c4 => ?_⟩
    · rw [if_pos (List.any_eq_true.2 ⟨_, ix_mem hkl, by unfold badP; rw [decide_eq_true c4, Bool.or_true]⟩)]
    · repeat (with_reducible refine And.intro (by omega) ?_)
      refine lp0_normal (k + 1) ⟨by omega, fun j hj => ?_⟩ (by omega) ?_
      · by_cases e : j = k
        · subst e
          unfold badP
          rw [decide_eq_false c3, decide_eq_false c4]
          rfl
        · exact hn j (by omega)
      · simp only [push_cast, ↓branch_true, ↓branch_false, Nat.reduceBEq, Nat.reduceAdd, Nat.reduceMul, Nat.reduceSub, Int.reduceToNat, reduceCtorEq, Int.reduceAdd, Int.reduceEq, Int.reduceLE, Int.reduceLT, Nat.reduceLT, Nat.reduceLeDiff]
  · have hna : ¬ pr.any badP = true := fun h => by
      obtain ⟨x, hx, h6⟩ := List.any_eq_true.1 h
      obtain ⟨j, hj, rfl⟩ := List.getElem_of_mem hx
      have := hn j (by omega)
      rw [ix_eq hj, h6] at this
      cases this
    rw [if_neg hna]
    exact ⟨fun h => by rw [if_pos (.inl h)], fun h => ⟨fun h2 => by rw [if_pos (.inr h2)], fun h2 => ⟨fun h3 => by rw [if_neg (by omega), if_pos (by omega)], fun h3 => by rw [if_neg (by omega), if_neg (by omega)]⟩⟩⟩
theorem pri_prov {l : List Pc} {pr : List Int} {sc : Int} (x : Int) (h : priE l pr sc ≠ 0) : (if pr.length ≠ l.length then 3 else if (sc < 1 ∨ 1073741824 < sc) ∨ pr.any badP = true then 2 else if 10 < l.length then 6 else x) = priE l pr sc := by
  unfold priE at h ⊢
  by_cases h1 : pr.length ≠ l.length
  · rw [if_pos h1, if_pos h1]
  rw [if_neg h1] at h
  rw [if_neg h1, if_neg h1]
  by_cases h2 : pr.any badP = true
  · rw [if_pos (.inr h2), if_pos h2]
  rw [if_neg h2] at h
  rw [if_neg h2]
  by_cases h3 : sc < 1 ∨ 1073741824 < sc
  · rw [if_pos (.inl h3), if_pos h3]
  rw [if_neg h3] at h
  rw [if_neg (fun h4 => h4.elim h3 h2), if_neg h3]
  by_cases h5 : 10 < l.length
  · rw [if_pos h5, if_pos h5]
  rw [if_neg h5] at h
  exact absurd rfl h
theorem pri_0 {l : List Pc} {pr : List Int} {sc : Int} (h : priE l pr sc = 0) : pr.length = l.length ∧ ¬ pr.any badP = true ∧ (1 ≤ sc ∧ sc ≤ 1073741824) ∧ l.length ≤ 10 := by
  unfold priE at h
  by_cases h1 : pr.length ≠ l.length
  · rw [if_pos h1] at h; omega
  rw [if_neg h1] at h
  by_cases h2 : pr.any badP = true
  · rw [if_pos h2] at h; omega
  rw [if_neg h2] at h
  by_cases h3 : sc < 1 ∨ 1073741824 < sc
  · rw [if_pos h3] at h; omega
  rw [if_neg h3] at h
  by_cases h5 : 10 < l.length
  · rw [if_pos h5] at h; omega
  exact ⟨by omega, h2, by omega, by omega⟩
set_option maxHeartbeats 2000000 in
theorem rproves_sp (lim : Int) (l : List Pc) (c : Nat) (pr : List Int) (cp : Nat) (sc : Int) (hl : l.length ≤ 9223372036854775806) (hl2 : pr.length ≤ 9223372036854775806) (hn : givenE lim l l.length = 0 → l.length ≤ 10 → (eachG l lim).length ≤ 1000000) :
    Sp Try.prog 12 [.v (.int .i64 lim), .s 0 0 0 l.length c 2, .s 1 0 0 pr.length cp 1, .v (.int .i64 sc)] [rPc l, rInt 3 pr] (fun r H => r = .t [.v (.int .i64 (provV lim l pr sc)), .v (.int .i64 (provE lim l pr sc))] ∧ H = [rPc l, rInt 3 pr]) := by
  unfold provV
  refine sp_weak ?_
  refine sp_of_ex true [] mixed Try.call12 Try.func12 rfl Try.ntmps12 Try.results12 (by decide +kernel) rfl ?_
  simp only [push_cast, ↓branch_true, ↓branch_false, Nat.reduceBEq, Nat.reduceAdd, Nat.reduceMul, Nat.reduceSub, Int.reduceToNat, reduceCtorEq, Int.reduceAdd, Int.reduceEq, Int.reduceLE, Int.reduceLT, Nat.reduceLT, Nat.reduceLeDiff]
  have bad : ∀ (e : Int) (H1 : List Ob), provE lim l pr sc = e → e ≠ 0 → obsM [0, 1] H1 [0, 1] [rPc l, rInt 3 pr] → ∃ r H2 rl, mt rl r (SV.t [.v (.int .i64 0), .v (.int .i64 e)]) ∧ (keepB 0 rl 2 && nodupB (liveL rl H2) && Nat.beq rl.length H2.length) = true ∧ obsM rl H1 rl H2 ∧
      r = SV.t [.v (.int .i64 (if provE lim l pr sc = 0 then upR (costT l pr l.length) sc else 0)), .v (.int .i64 (provE lim l pr sc))] ∧ H2 = [rPc l, rInt 3 pr] := fun e H1 he h0 ho => by
    refine ⟨_, _, [0, 1], ?_, by kernel_rfl, ho, rfl, rfl⟩
    rw [he, if_neg h0]
    simp only [push_cast, ↓branch_true, ↓branch_false, Nat.reduceBEq, Nat.reduceAdd, Nat.reduceMul, Nat.reduceSub, Int.reduceToNat, reduceCtorEq, Int.reduceAdd, Int.reduceEq, Int.reduceLE, Int.reduceLT, Nat.reduceLT, Nat.reduceLeDiff]
  refine sp_c (rgivenB_pu lim l c hl) rfl [0] ?_
  simp only [push_cast, ↓branch_true, ↓branch_false, Nat.reduceBEq, Nat.reduceAdd, Nat.reduceMul, Nat.reduceSub, Int.reduceToNat, reduceCtorEq, Int.reduceAdd, Int.reduceEq, Int.reduceLE, Int.reduceLT, Nat.reduceLT, Nat.reduceLeDiff]
  rw [givR_E]
  by_cases hg : givE lim l = 0
  rotate_left
  · have e : provE lim l pr sc = givE lim l := if_pos hg
    exact ⟨fun h => absurd h hg, fun _ => bad _ [rPc l, rInt 3 pr] e hg (by (simp only [push_cast, ↓branch_true, ↓branch_false, Nat.reduceBEq, Nat.reduceAdd, Nat.reduceMul, Nat.reduceSub, Int.reduceToNat, reduceCtorEq, Int.reduceAdd, Int.reduceEq, Int.reduceLE, Int.reduceLT, Nat.reduceLT, Nat.reduceLeDiff]))⟩
  obtain ⟨ho, h1, h2, h3⟩ := givE_0 hg
  have e0 : provE lim l pr sc = if pr.length ≠ l.length then 3 else if (sc < 1 ∨ 1073741824 < sc) ∨ pr.any badP = true then 2 else if 10 < l.length then 6 else if sc < (bestS lim l pr).2 then 13 else 0 := if_neg (by omega)
  rw [hg]
  simp only [push_cast, ↓branch_true, ↓branch_false, Nat.reduceBEq, Nat.reduceAdd, Nat.reduceMul, Nat.reduceSub, Int.reduceToNat, reduceCtorEq, Int.reduceAdd, Int.reduceEq, Int.reduceLE, Int.reduceLT, Nat.reduceLT, Nat.reduceLeDiff]
  refine sp_c (rpriced_pu l c pr cp sc hl hl2) rfl [0, 1] ?_
  simp only [push_cast, ↓branch_true, ↓branch_false, Nat.reduceBEq, Nat.reduceAdd, Nat.reduceMul, Nat.reduceSub, Int.reduceToNat, reduceCtorEq, Int.reduceAdd, Int.reduceEq, Int.reduceLE, Int.reduceLT, Nat.reduceLT, Nat.reduceLeDiff]
  by_cases hp : priE l pr sc = 0
  rotate_left
  · exact ⟨fun h => absurd h hp, fun _ => bad _ [rPc l, rInt 3 pr] (by
      rw [e0]
      exact pri_prov _ hp) hp (by (simp only [push_cast, ↓branch_true, ↓branch_false, Nat.reduceBEq, Nat.reduceAdd, Nat.reduceMul, Nat.reduceSub, Int.reduceToNat, reduceCtorEq, Int.reduceAdd, Int.reduceEq, Int.reduceLE, Int.reduceLT, Nat.reduceLT, Nat.reduceLeDiff]))⟩
  obtain ⟨p1, p2, p3, p4⟩ := pri_0 hp
  have hb : pr.any badP = false := by cases h : pr.any badP with
    | false => rfl
    | true => exact absurd h p2
  rw [hp]
  have e1 : provE lim l pr sc = if sc < (bestS lim l pr).2 then 13 else 0 := by
    rw [e0, if_neg (by omega), if_neg (fun h => h.elim (fun h => by omega) fun h => p2 h), if_neg (by omega)]
  have hbe : bestE lim l pr = 0 := by
    unfold bestE
    have : givenE lim l pr.length = 0 := by
      unfold givenE
      rw [if_neg (by rw [ho]; decide), if_neg (by omega), if_pos (by omega)]
    rw [if_neg (by omega), if_neg p2, if_neg (by omega)]
  simp only [push_cast, ↓branch_true, ↓branch_false, Nat.reduceBEq, Nat.reduceAdd, Nat.reduceMul, Nat.reduceSub, Int.reduceToNat, reduceCtorEq, Int.reduceAdd, Int.reduceEq, Int.reduceLE, Int.reduceLT, Nat.reduceLT, Nat.reduceLeDiff]
  refine sp_at (rBest_sp lim l c pr cp hl hl2 hn) [0, 1] (by kernel_rfl) ?_ ?_ ?_
  · simp only [push_cast, ↓branch_true, ↓branch_false, Nat.reduceBEq, Nat.reduceAdd, Nat.reduceMul, Nat.reduceSub, Int.reduceToNat, reduceCtorEq, Int.reduceAdd, Int.reduceEq, Int.reduceLE, Int.reduceLT, Nat.reduceLT, Nat.reduceLeDiff]
  · simp only [push_cast, ↓branch_true, ↓branch_false, Nat.reduceBEq, Nat.reduceAdd, Nat.reduceMul, Nat.reduceSub, Int.reduceToNat, reduceCtorEq, Int.reduceAdd, Int.reduceEq, Int.reduceLE, Int.reduceLT, Nat.reduceLT, Nat.reduceLeDiff]
  rintro _ _ ⟨nb, bi, bl, bc, caps, bf, rfl, _, rfl⟩
  rw [hbe]
  have hcr := cost_range ho hb (by omega) l.length (Nat.le_refl _)
  simp only [push_cast, ↓branch_true, ↓branch_false, Nat.reduceBEq, Nat.reduceAdd, Nat.reduceMul, Nat.reduceSub, Int.reduceToNat, reduceCtorEq, Int.reduceAdd, Int.reduceEq, Int.reduceLE, Int.reduceLT, Nat.reduceLT, Nat.reduceLeDiff]
  refine ⟨fun c5 => bad 13 [rPc l, rInt 3 pr, rFam l.length nb bf] (by rw [e1, if_pos c5]) (by decide) (by (simp only [push_cast, ↓branch_true, ↓branch_false, Nat.reduceBEq, Nat.reduceAdd, Nat.reduceMul, Nat.reduceSub, Int.reduceToNat, reduceCtorEq, Int.reduceAdd, Int.reduceEq, Int.reduceLE, Int.reduceLT, Nat.reduceLT, Nat.reduceLeDiff])), fun c5 => ?_⟩
  rw [if_neg c5] at e1
  refine tr_loop0 mixed (by kernel_rfl) (fun (k : Nat) => [(16, .v (.int .i64 k)), (15, .v (.int .i64 (costT l pr k))), (1, .s 0 0 0 l.length c 2), (2, .s 1 0 0 pr.length cp 1), (3, .v (.int .i64 sc))]) (fun k => k ≤ l.length) (fun k => l.length - k) 0 (Nat.zero_le _) ?_ ?_
  · simp only [push_cast, ↓branch_true, ↓branch_false, Nat.reduceBEq, Nat.reduceAdd, Nat.reduceMul, Nat.reduceSub, Int.reduceToNat, reduceCtorEq, Int.reduceAdd, Int.reduceEq, Int.reduceLE, Int.reduceLT, Nat.reduceLT, Nat.reduceLeDiff]
    rfl
  intro k hk
  have hs : costT l pr (k + 1) = costT l pr k + (ix l k).cnt * ix pr k := rfl
  have ck := cost_range ho hb (by omega) k hk
  simp only [push_cast, ↓branch_true, ↓branch_false, Nat.reduceBEq, Nat.reduceAdd, Nat.reduceMul, Nat.reduceSub, Int.reduceToNat, reduceCtorEq, Int.reduceAdd, Int.reduceEq, Int.reduceLE, Int.reduceLT, Nat.reduceLT, Nat.reduceLeDiff]
  refine ⟨fun c6 => ?_, fun c6 => ?_⟩
  · have hkl : k < l.length := by omega
    have h2 := order_at ho hkl
    have h3 := price_at hb (k := k) (by omega)
    have hm := mul_le (show 0 ≤ (ix l k).cnt by omega) h2.2.2.2 h3.1 h3.2
    repeat (with_reducible refine And.intro (by omega) ?_)
    refine lp0_normal (k + 1) (by omega) (by omega) ?_
    simp only [push_cast, ↓branch_true, ↓branch_false, Nat.reduceBEq, Nat.reduceAdd, Nat.reduceMul, Nat.reduceSub, Int.reduceToNat, reduceCtorEq, Int.reduceAdd, Int.reduceEq, Int.reduceLE, Int.reduceLT, Nat.reduceLT, Nat.reduceLeDiff, hs]
  · obtain rfl : k = l.length := by omega
    refine sp_c (rup_pu (costT l pr l.length) sc (by omega) (by omega) (by omega) (by omega)) rfl [] ?_
    simp only [push_cast, ↓branch_true, ↓branch_false, Nat.reduceBEq, Nat.reduceAdd, Nat.reduceMul, Nat.reduceSub, Int.reduceToNat, reduceCtorEq, Int.reduceAdd, Int.reduceEq, Int.reduceLE, Int.reduceLT, Nat.reduceLT, Nat.reduceLeDiff]
    refine ⟨_, _, [0, 1], ?_, by kernel_rfl, ?_, rfl, rfl⟩
    · rw [e1, if_pos rfl]
      simp only [push_cast, ↓branch_true, ↓branch_false, Nat.reduceBEq, Nat.reduceAdd, Nat.reduceMul, Nat.reduceSub, Int.reduceToNat, reduceCtorEq, Int.reduceAdd, Int.reduceEq, Int.reduceLE, Int.reduceLT, Nat.reduceLT, Nat.reduceLeDiff]
    · simp only [push_cast, ↓branch_true, ↓branch_false, Nat.reduceBEq, Nat.reduceAdd, Nat.reduceMul, Nat.reduceSub, Int.reduceToNat, reduceCtorEq, Int.reduceAdd, Int.reduceEq, Int.reduceLE, Int.reduceLT, Nat.reduceLT, Nat.reduceLeDiff]
end Go.Proofs.Ytdeaaonppokgkaa.Pat
