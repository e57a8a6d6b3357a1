/- Contracts: the reference's greedy loads, walked. -/
import Derived.Test.YtdinkpefoljigaaR
set_option maxRecDepth 100000
set_option linter.unusedSimpArgs false
set_option linter.unusedVariables false
namespace Go.Proofs.Ytdinkpefoljigaa
open Go.RowKit
def oDn (l : List Bun) (n : Nat) : Ob := ⟨4, false, .row 1 1 (fun _ => l.length) (fun _ => l.length) (fun _ k => [.v (.bool (dn l n k))])⟩
attribute [push_cast] oDn
set_option maxHeartbeats 2000000 in
theorem rgreedy_sp (l : List Bun) (most : Int) (c : Nat) (he : errG l most = 0) : Sp Try.prog 17 [.s 0 0 0 l.length c 4, .v (.int .i64 most)] [rB l] (fun r H => ∃ oc cp, (greedyL l most).length ≤ oc ∧ r = .s 1 0 0 (greedyL l most).length oc 1 ∧ H = [rB l, oOut 2 (greedyL l most) cp oc, oFa (greedyL l most) cp]) := by
  obtain ⟨hv, hm1, hm2, hm3⟩ := errG_ok he
  have hlen := (vB_yes.1 hv).1
  have hbig := big_eq
  refine sp_weak ?_
  refine sp_of_ex true [] mixed Try.call17 Try.func17 rfl Try.ntmps17 Try.results17 (by decide +kernel) rfl ?_
  simp only [push_cast, ↓branch_true, ↓branch_false, Nat.reduceBEq, Nat.reduceAdd, Nat.reduceMul, Nat.reduceSub, Int.reduceToNat, reduceCtorEq, branch_decide, branch_not, branch_beq, branch_bne]
  repeat (with_reducible refine And.intro (by omega) ?_)
  refine tr_loop mixed (by kernel_rfl) (fun (x : Nat × Nat × (Nat → Nat)) => [(7, .v (.int .i64 x.1)), (6, .s 1 0 0 l.length l.length 1), (5, .s 2 0 0 (greedyT l most x.1).length x.2.1 1), (0, .s 0 0 0 l.length c 4), (1, .v (.int .i64 most))])
    (fun x => [rB l, oDn l x.1, oOut 3 (greedyT l most x.1) x.2.2 x.2.1, oFa (greedyT l most x.1) x.2.2])
    (fun x => x.1 ≤ l.length ∧ (greedyT l most x.1).length ≤ x.2.1 ∧ ∀ k, (greedyT l most x.1).length ≤ k → x.2.2 k = 0) (fun x => l.length - x.1) (0, 0, fun _ => 0) ⟨Nat.zero_le _, by simp [greedyT], fun _ _ => rfl⟩ (Mt.wk (rl := [0, 1, 2, 3]) ⟨by kernel_rfl, ?_, ?_⟩) ?_
  · simp only [push_cast, ↓branch_true, ↓branch_false, Nat.reduceBEq, Nat.reduceAdd, Nat.reduceMul, Nat.reduceSub, Int.reduceToNat, reduceCtorEq, branch_decide, branch_not, branch_beq, branch_bne]
    rfl
  · simp only [push_cast, ↓branch_true, ↓branch_false, Nat.reduceBEq, Nat.reduceAdd, Nat.reduceMul, Nat.reduceSub, Int.reduceToNat, reduceCtorEq, branch_decide, branch_not, branch_beq, branch_bne]
    exact ⟨fun _ _ k _ => by simp [dn], Or.inl rfl, by omega, Or.inr fun _ => rfl⟩
  rintro ⟨n, oc, cp⟩ ⟨h1, h2, h4⟩
  simp only at h1 h2 h4
  obtain ⟨hL, hLn⟩ := lds_T hv hm3 n h1
  have hML := mem_len (l := l) (most := most) n h1
  generalize hout : greedyT l most n = out at *
  simp only [push_cast, ↓branch_true, ↓branch_false, Nat.reduceBEq, Nat.reduceAdd, Nat.reduceMul, Nat.reduceSub, Int.reduceToNat, reduceCtorEq, branch_decide, branch_not, branch_beq, branch_bne]
  refine ⟨fun h => ?_, fun h => ?_⟩
  rotate_left
  · obtain rfl : n = l.length := by omega
    rw [← greedyT_all, hout]
    refine ⟨_, _, [0, 2, 3], ?_, by kernel_rfl, ?_, oc, cp, h2, rfl, rfl⟩
    · simp only [push_cast, ↓branch_true, ↓branch_false, Nat.reduceBEq, Nat.reduceAdd, Nat.reduceMul, Nat.reduceSub, Int.reduceToNat, reduceCtorEq, branch_decide, branch_not, branch_beq, branch_bne]
    · simp only [push_cast, ↓branch_true, ↓branch_false, Nat.reduceBEq, Nat.reduceAdd, Nat.reduceMul, Nat.reduceSub, Int.reduceToNat, reduceCtorEq, branch_decide, branch_not, branch_beq, branch_bne]
  have hk : n < (heavO l).length := by rw [heavO_len]; omega
  have hi := heavO_mem (ix_mem hk)
  have hT := greedyT_succ (most := most) hk
  refine tr_loop0 mixed (by kernel_rfl) (fun (x : Nat × Int) => [(9, .v (.int .i64 x.1)), (8, .v (.int .i64 x.2)), (7, .v (.int .i64 n)), (6, .s 1 0 0 l.length l.length 1), (5, .s 2 0 0 out.length oc 1), (0, .s 0 0 0 l.length c 4), (1, .v (.int .i64 most))])
    (fun x => x.1 ≤ l.length ∧ Bst l n x.1 x.2) (fun x => l.length - x.1) (0, -1) ⟨Nat.zero_le _, bst_0 l n⟩ ?_ ?_
  · simp only [push_cast, ↓branch_true, ↓branch_false, Nat.reduceBEq, Nat.reduceAdd, Nat.reduceMul, Nat.reduceSub, Int.reduceToNat, reduceCtorEq, branch_decide, branch_not, branch_beq, branch_bne]
  rintro ⟨q, b⟩ ⟨g1, g2⟩
  simp only at g1 g2
  simp only [push_cast, ↓branch_true, ↓branch_false, Nat.reduceBEq, Nat.reduceAdd, Nat.reduceMul, Nat.reduceSub, Int.reduceToNat, reduceCtorEq, branch_decide, branch_not, branch_beq, branch_bne]
  refine ⟨fun h5 => ?_, fun h5 => ?_⟩
  · have hq : q < l.length := by omega
    repeat (with_reducible refine And.intro (by omega) ?_)
    cases hd : dn l n q with
    | true =>
      simp only [push_cast, ↓branch_true, ↓branch_false, Nat.reduceBEq, Nat.reduceAdd, Nat.reduceMul, Nat.reduceSub, Int.reduceToNat, reduceCtorEq, branch_decide, branch_not, branch_beq, branch_bne]
      repeat (with_reducible refine And.intro (by omega) ?_)
      refine lp0_normal (q + 1, b) ⟨by simp only; omega, bst_no g2 (.inl hd)⟩ (by simp only; omega) ?_
      simp only [push_cast, ↓branch_true, ↓branch_false, Nat.reduceBEq, Nat.reduceAdd, Nat.reduceMul, Nat.reduceSub, Int.reduceToNat, reduceCtorEq, branch_decide, branch_not, branch_beq, branch_bne]
    | false =>
      simp only [push_cast, ↓branch_true, ↓branch_false, Nat.reduceBEq, Nat.reduceAdd, Nat.reduceMul, Nat.reduceSub, Int.reduceToNat, reduceCtorEq, branch_decide, branch_not, branch_beq, branch_bne]
      refine ⟨fun h6 => ?_, fun h6 => ?_⟩
      · repeat (with_reducible refine And.intro (by omega) ?_)
        refine lp0_normal (q + 1, (q : Int)) ⟨by simp only; omega, bst_yes g2 hd fun h7 => by omega⟩ (by simp only; omega) ?_
        simp only [push_cast, ↓branch_true, ↓branch_false, Nat.reduceBEq, Nat.reduceAdd, Nat.reduceMul, Nat.reduceSub, Int.reduceToNat, reduceCtorEq, branch_decide, branch_not, branch_beq, branch_bne]
      · obtain ⟨b1, b2, b3⟩ := g2.some (by omega)
        have hKH := KH_lt (l := l) (i := q) hlen (by omega) b1 (by omega)
        repeat (with_reducible refine And.intro (by omega) ?_)
        refine ⟨fun h7 => ?_, fun h7 => ?_⟩
        · repeat (with_reducible refine And.intro (by omega) ?_)
          refine lp0_normal (q + 1, (q : Int)) ⟨by simp only; omega, bst_yes g2 hd fun _ => hKH.2 (by simpa using h7)⟩ (by simp only; omega) ?_
          simp only [push_cast, ↓branch_true, ↓branch_false, Nat.reduceBEq, Nat.reduceAdd, Nat.reduceMul, Nat.reduceSub, Int.reduceToNat, reduceCtorEq, branch_decide, branch_not, branch_beq, branch_bne]
        · have h9 : ¬ KH l q ≤ KH l b := fun e => h7 (by simpa using hKH.1 e)
          have h9 : KH l b ≤ KH l q := Int.le_of_lt (Int.not_le.1 h9)
          repeat (with_reducible refine And.intro (by omega) ?_)
          refine lp0_normal (q + 1, b) ⟨by simp only; omega, bst_no g2 (.inr ⟨by omega, h9⟩)⟩ (by simp only; omega) ?_
          simp only [push_cast, ↓branch_true, ↓branch_false, Nat.reduceBEq, Nat.reduceAdd, Nat.reduceMul, Nat.reduceSub, Int.reduceToNat, reduceCtorEq, branch_decide, branch_not, branch_beq, branch_bne]
  · obtain rfl : q = l.length := by omega
    obtain rfl := bst_end hlen hk g2
    generalize hiv : ix (heavO l) n = i at *
    have hmi := hm3 i.toNat (by omega)
    have hm0 := okA_mass ((vB_yes.1 hv).2 i.toNat (by omega))
    repeat (with_reducible refine And.intro (by omega) ?_)
    have e2 : ∀ q, dn l (n + 1) q = bif q == i.toNat then true else dn l n q := fun q => by
      rw [dn_succ hk, hiv]
      by_cases e : (q : Int) = i
      · have h1 : ((q : Int) == i) = true := by simpa using e
        have h2 : (q == i.toNat) = true := by simp; omega
        rw [h1, h2]; rfl
      · have h1 : ((q : Int) == i) = false := by simpa using e
        have h2 : (q == i.toNat) = false := by simp; omega
        rw [h1, h2]; rfl
    refine tr_loop0 mixed (by kernel_rfl) (fun (a : Nat) => [(10, .v (.int .i64 a)), (8, .v (.int .i64 i)), (7, .v (.int .i64 n)), (6, .s 1 0 0 l.length l.length 1), (5, .s 2 0 0 out.length oc 1), (0, .s 0 0 0 l.length c 4), (1, .v (.int .i64 most))])
      (fun a => a ≤ out.length ∧ ∀ j, j < a → fitB l most i (massL l (ix out j)) = false) (fun a => out.length - a) 0 ⟨Nat.zero_le _, fun j hj => by omega⟩ ?_ ?_
    · simp only [push_cast, ↓branch_true, ↓branch_false, Nat.reduceBEq, Nat.reduceAdd, Nat.reduceMul, Nat.reduceSub, Int.reduceToNat, reduceCtorEq, branch_decide, branch_not, branch_beq, branch_bne]
    rintro a ⟨g3, g4⟩
    simp only [push_cast, ↓branch_true, ↓branch_false, Nat.reduceBEq, Nat.reduceAdd, Nat.reduceMul, Nat.reduceSub, Int.reduceToNat, reduceCtorEq, branch_decide, branch_not, branch_beq, branch_bne]
    refine ⟨fun h5 => ?_, fun h5 => ?_⟩
    · have ha : a < out.length := by omega
      have hxm := ix_mem ha
      have hmx := hL.mass _ hxm
      have hxl := hML _ hxm
      repeat (with_reducible refine And.intro (by omega) ?_)
      refine qc_call (rmass_pu l c (big + 2) a out (cp a) hv (by omega) (hL.mem _ hxm) (by omega)) rfl [0, 3] rfl (by simp only [push_cast, ↓branch_true, ↓branch_false, Nat.reduceBEq, Nat.reduceAdd, Nat.reduceMul, Nat.reduceSub, Int.reduceToNat, reduceCtorEq, branch_decide, branch_not, branch_beq, branch_bne]) (by simp only [push_cast, ↓branch_true, ↓branch_false, Nat.reduceBEq, Nat.reduceAdd, Nat.reduceMul, Nat.reduceSub, Int.reduceToNat, reduceCtorEq, branch_decide, branch_not, branch_beq, branch_bne]) ?_
      simp only [push_cast, ↓branch_true, ↓branch_false, Nat.reduceBEq, Nat.reduceAdd, Nat.reduceMul, Nat.reduceSub, Int.reduceToNat, reduceCtorEq, branch_decide, branch_not, branch_beq, branch_bne]
      repeat (with_reducible refine And.intro (by omega) ?_)
      refine ⟨fun h6 => ?_, fun h6 => ?_⟩
      · repeat (with_reducible refine And.intro (by omega) ?_)
        refine lp0_normal (a + 1) ⟨by omega, fun j hj => ?_⟩ (by omega) ?_
        · by_cases e : j = a
          · subst e; simp [fitB]; omega
          · exact g4 j (by omega)
        · simp only [push_cast, ↓branch_true, ↓branch_false, Nat.reduceBEq, Nat.reduceAdd, Nat.reduceMul, Nat.reduceSub, Int.reduceToNat, reduceCtorEq, branch_decide, branch_not, branch_beq, branch_bne]
      · have hf : fitAt l most i out = a := fitAt_eq g3 g4 fun _ => by simp [fitB]; omega
        rw [hout] at hT
        unfold gstep at hT
        rw [hf] at hT
        have e1 : greedyT l most (n + 1) = out.set a (ix out a ++ [i]) := by rw [hT, gput, if_pos ha]
        refine ⟨fun h => by omega, fun _ => ?_⟩
        repeat (with_reducible refine And.intro (by omega) ?_)
        refine Or.inr (Or.inr ?_)
        repeat (with_reducible refine And.intro (by omega) ?_)
        intro cap2 hcap2
        repeat (with_reducible refine And.intro (by omega) ?_)
        refine lpK_wk (n + 1, oc, fun q => bif q == a then cap2 else cp q) ⟨by simp only; omega, by simp only [e1, List.length_set]; omega, fun q hq => ?_⟩ (by simp only; omega) ((swk_place 3 a 6 (by omega) (by omega) (by omega) ?_).trans (Mt.wk (rl := [0, 1, 2, 3]) ⟨by kernel_rfl, ?_, ?_⟩))
        · simp only [e1, List.length_set] at hq ⊢
          have : (q == a) = false := by simp; omega
          rw [this]
          exact h4 q hq
        · simp only [push_cast, ↓branch_true, ↓branch_false, Nat.reduceBEq, Nat.reduceAdd, Nat.reduceMul, Nat.reduceSub, Int.reduceToNat, reduceCtorEq, branch_decide, branch_not, branch_beq, branch_bne]
          omega
        · simp only [push_cast, ↓branch_true, ↓branch_false, Nat.reduceBEq, Nat.reduceAdd, Nat.reduceMul, Nat.reduceSub, Int.reduceToNat, reduceCtorEq, branch_decide, branch_not, branch_beq, branch_bne, e1, List.length_set]
        · simp only [push_cast, ↓branch_true, ↓branch_false, Nat.reduceBEq, Nat.reduceAdd, Nat.reduceMul, Nat.reduceSub, Int.reduceToNat, reduceCtorEq, branch_decide, branch_not, branch_beq, branch_bne, e1, List.length_set]
          refine ⟨fun i1 hi1 q hq => ?_, fun i1 hi1 q hq => ?_, fun q hq => ?_⟩
          · obtain rfl : i1 = 0 := by omega
            rw [e2]
            by_cases eq : q = i.toNat
            · subst eq
              simp only [push_cast, ↓branch_true, ↓branch_false, Nat.reduceBEq, Nat.reduceAdd, Nat.reduceMul, Nat.reduceSub, Int.reduceToNat, reduceCtorEq, branch_decide, branch_not, branch_beq, branch_bne]
            · have hb : (q == i.toNat) = false := by simpa using eq
              simp only [push_cast, ↓branch_true, ↓branch_false, Nat.reduceBEq, Nat.reduceAdd, Nat.reduceMul, Nat.reduceSub, Int.reduceToNat, reduceCtorEq, branch_decide, branch_not, branch_beq, branch_bne, hb]
          · obtain rfl : i1 = 0 := by omega
            by_cases eq : q = a
            · subst eq
              simp only [push_cast, ↓branch_true, ↓branch_false, Nat.reduceBEq, Nat.reduceAdd, Nat.reduceMul, Nat.reduceSub, Int.reduceToNat, reduceCtorEq, branch_decide, branch_not, branch_beq, branch_bne, ix_set_self ha, List.length_append]
            · have hb : (q == a) = false := by simpa using eq
              simp only [push_cast, ↓branch_true, ↓branch_false, Nat.reduceBEq, Nat.reduceAdd, Nat.reduceMul, Nat.reduceSub, Int.reduceToNat, reduceCtorEq, branch_decide, branch_not, branch_beq, branch_bne, ix_set_ne eq, hb]
          · by_cases eq : q = a
            · subst eq
              simp only [push_cast, ↓branch_true, ↓branch_false, Nat.reduceBEq, Nat.reduceAdd, Nat.reduceMul, Nat.reduceSub, Int.reduceToNat, reduceCtorEq, branch_decide, branch_not, branch_beq, branch_bne, ix_set_self ha, List.length_append]
              intro k' hk'
              rw [ix_snoc hk']
              cases decide (k' < (ix out q).length) <;> (simp only [push_cast, ↓branch_true, ↓branch_false, Nat.reduceBEq, Nat.reduceAdd, Nat.reduceMul, Nat.reduceSub, Int.reduceToNat, reduceCtorEq, branch_decide, branch_not, branch_beq, branch_bne])
            · have hb : (q == a) = false := by simpa using eq
              simp only [push_cast, ↓branch_true, ↓branch_false, Nat.reduceBEq, Nat.reduceAdd, Nat.reduceMul, Nat.reduceSub, Int.reduceToNat, reduceCtorEq, branch_decide, branch_not, branch_beq, branch_bne, ix_set_ne eq, hb]
    · obtain rfl : a = out.length := by omega
      have hf : fitAt l most i out = out.length := fitAt_eq g3 g4 fun h => by omega
      rw [hout] at hT
      unfold gstep at hT
      rw [hf] at hT
      have e1 : greedyT l most (n + 1) = out ++ [[i]] := by rw [hT, gput, if_neg (by omega)]
      refine ⟨fun _ => ?_, fun h => absurd rfl h⟩
      repeat (with_reducible refine And.intro (by omega) ?_)
      refine Or.inr ?_
      repeat (with_reducible refine And.intro (by omega) ?_)
      intro oc2 hoc2
      have hd : decide (out.length < out.length) = false := by simp
      simp only [push_cast, ↓branch_true, ↓branch_false, Nat.reduceBEq, Nat.reduceAdd, Nat.reduceMul, Nat.reduceSub, Int.reduceToNat, reduceCtorEq, branch_decide, branch_not, branch_beq, branch_bne, hd]
      repeat (with_reducible refine And.intro (by omega) ?_)
      intro cap2 hcap2
      repeat (with_reducible refine And.intro (by omega) ?_)
      refine lpK_wk (n + 1, oc2, fun q => bif q == out.length then cap2 else cp q) ⟨by simp only; omega, by simp only [e1, List.length_append, List.length_cons, List.length_nil]; omega, fun q hq => ?_⟩ (by simp only; omega) ((swk_place 3 out.length 7 (by omega) (by omega) (by omega) ?_).trans (Mt.wk (rl := [0, 1, 5, 3]) ⟨by kernel_rfl, ?_, ?_⟩))
      · simp only [e1, List.length_append, List.length_cons, List.length_nil] at hq ⊢
        have : (q == out.length) = false := by simp; omega
        rw [this]
        exact h4 q (by omega)
      · simp only [push_cast, ↓branch_true, ↓branch_false, Nat.reduceBEq, Nat.reduceAdd, Nat.reduceMul, Nat.reduceSub, Int.reduceToNat, reduceCtorEq, branch_decide, branch_not, branch_beq, branch_bne]
        omega
      · simp only [push_cast, ↓branch_true, ↓branch_false, Nat.reduceBEq, Nat.reduceAdd, Nat.reduceMul, Nat.reduceSub, Int.reduceToNat, reduceCtorEq, branch_decide, branch_not, branch_beq, branch_bne, e1, List.length_append]
      · simp only [push_cast, ↓branch_true, ↓branch_false, Nat.reduceBEq, Nat.reduceAdd, Nat.reduceMul, Nat.reduceSub, Int.reduceToNat, reduceCtorEq, branch_decide, branch_not, branch_beq, branch_bne, e1, List.length_append]
        refine ⟨fun i1 hi1 q hq => ?_, fun i1 hi1 q hq => ?_, fun q hq => ?_⟩
        · obtain rfl : i1 = 0 := by omega
          rw [e2]
          by_cases eq : q = i.toNat
          · subst eq
            simp only [push_cast, ↓branch_true, ↓branch_false, Nat.reduceBEq, Nat.reduceAdd, Nat.reduceMul, Nat.reduceSub, Int.reduceToNat, reduceCtorEq, branch_decide, branch_not, branch_beq, branch_bne]
          · have hb : (q == i.toNat) = false := by simpa using eq
            simp only [push_cast, ↓branch_true, ↓branch_false, Nat.reduceBEq, Nat.reduceAdd, Nat.reduceMul, Nat.reduceSub, Int.reduceToNat, reduceCtorEq, branch_decide, branch_not, branch_beq, branch_bne, hb]
        · obtain rfl : i1 = 0 := by omega
          by_cases eq : q = out.length
          · subst eq
            simp only [push_cast, ↓branch_true, ↓branch_false, Nat.reduceBEq, Nat.reduceAdd, Nat.reduceMul, Nat.reduceSub, Int.reduceToNat, reduceCtorEq, branch_decide, branch_not, branch_beq, branch_bne, ix_app_last]
          · have hb : (q == out.length) = false := by simpa using eq
            have hb2 : decide (q < out.length) = true := by simp; omega
            simp only [push_cast, ↓branch_true, ↓branch_false, Nat.reduceBEq, Nat.reduceAdd, Nat.reduceMul, Nat.reduceSub, Int.reduceToNat, reduceCtorEq, branch_decide, branch_not, branch_beq, branch_bne, ix_app_ne eq, hb, hb2]
        · by_cases eq : q = out.length
          · subst eq
            simp only [push_cast, ↓branch_true, ↓branch_false, Nat.reduceBEq, Nat.reduceAdd, Nat.reduceMul, Nat.reduceSub, Int.reduceToNat, reduceCtorEq, branch_decide, branch_not, branch_beq, branch_bne, ix_app_last]
            intro k' hk'
            obtain rfl : k' = 0 := by omega
            (simp only [push_cast, ↓branch_true, ↓branch_false, Nat.reduceBEq, Nat.reduceAdd, Nat.reduceMul, Nat.reduceSub, Int.reduceToNat, reduceCtorEq, branch_decide, branch_not, branch_beq, branch_bne])
            rfl
          · have hb : (q == out.length) = false := by simpa using eq
            simp only [push_cast, ↓branch_true, ↓branch_false, Nat.reduceBEq, Nat.reduceAdd, Nat.reduceMul, Nat.reduceSub, Int.reduceToNat, reduceCtorEq, branch_decide, branch_not, branch_beq, branch_bne, ix_app_ne eq, hb]
end Go.Proofs.Ytdinkpefoljigaa
