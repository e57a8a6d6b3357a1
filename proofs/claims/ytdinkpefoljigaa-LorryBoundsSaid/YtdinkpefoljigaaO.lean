/- Contracts: greedy loads. -/
import Derived.Test.YtdinkpefoljigaaN
set_option maxRecDepth 100000
set_option linter.unusedSimpArgs false
set_option linter.unusedVariables false
namespace Go.Proofs.Ytdinkpefoljigaa
open Go.RowKit
/-- A list of loads, whose members are in a family. -/
def oOut (F : Nat) (out : List (List Int)) (cp : Nat → Nat) (oc : Nat) : Ob := ⟨36, false, .row 1 1 (fun _ => out.length) (fun _ => oc) (fun _ k => [.s F k 0 (ix out k).length (cp k) 1])⟩
def oFa (out : List (List Int)) (cp : Nat → Nat) : Ob := ⟨3, false, .row 1 (big + 2) (fun k => (ix out k).length) cp (fun k q => [.v (.int .i64 (ix (ix out k) q))])⟩
attribute [push_cast] oOut oFa
theorem ix_set_self {α : Type} [Inhabited α] {l : List α} {f : Nat} (h : f < l.length) (x : α) : ix (l.set f x) f = x := by
  rw [ix_eq (by simpa using h)]; simp
theorem ix_set_ne {α : Type} [Inhabited α] {l : List α} {f q : Nat} (h : q ≠ f) (x : α) : ix (l.set f x) q = ix l q := by
  unfold ix
  rw [List.getD_eq_getElem?_getD, List.getD_eq_getElem?_getD, List.getElem?_set_ne (Ne.symm h)]
theorem ix_app_last {α : Type} [Inhabited α] (l : List α) (x : α) : ix (l ++ [x]) l.length = x := by
  rw [ix_eq (by simp)]; simp
theorem ix_app_ne {α : Type} [Inhabited α] {l : List α} {q : Nat} (h : q ≠ l.length) (x : α) : ix (l ++ [x]) q = ix l q := by
  unfold ix
  rw [List.getD_eq_getElem?_getD, List.getD_eq_getElem?_getD]
  rcases Nat.lt_or_ge q l.length with h2 | h2
  · rw [List.getElem?_append_left h2]
  · rw [List.getElem?_eq_none (by simp; omega), List.getElem?_eq_none h2]
theorem ix_snoc {l : List Int} {v : Int} {k : Nat} (h : k < l.length + 1) : ix (l ++ [v]) k = bif decide (k < l.length) then ix l k else v := by
  rw [ix_eq (by simpa using h)]
  by_cases h2 : k < l.length
  · simp [h2, ix_eq h2, List.getElem_append_left h2]
  · obtain rfl : k = l.length := by omega
    simp
def gRes (l : List Bun) (most : Int) : List (List Int) := if errG l most = 0 then greedyL l most else []
set_option maxHeartbeats 2000000 in
theorem greedy_sp (l : List Bun) (most : Int) (c : Nat) (hs : strOk l) (hl : l.length ≤ 9223372036854775807) : Sp Try.prog 12 [.s 0 0 0 l.length c 4, .v (.int .i64 most)] [rB l] (fun r H => ∃ oc cp, (gRes l most).length ≤ oc ∧ r = .t [.s 1 0 0 (gRes l most).length oc 1, .v (.int .i64 (errG l most))] ∧ H = [rB l, oOut 2 (gRes l most) cp oc, oFa (gRes l most) cp]) := by
  refine sp_weak ?_
  refine sp_of_ex true [(13, .one 0 (.one 1 (.one 2 (.one 3 (.one 4 (.alt [(5, .one 6 (.one 7 (.one 8 (.one 9 (.one 10 .fin))))), (6, .alt [(5, .one 7 (.one 8 (.one 9 (.one 10 .fin)))), (7, .one 5 (.one 8 (.one 9 (.one 10 .fin))))])]))))))] mixed Try.call12 Try.func12 rfl Try.ntmps12 Try.results12 (by decide +kernel) rfl ?_
  simp only [push_cast, ↓branch_true, ↓branch_false, Nat.reduceBEq, Nat.reduceAdd, Nat.reduceMul, Nat.reduceSub, Int.reduceToNat, reduceCtorEq, branch_decide, branch_not, branch_beq, branch_bne]
  refine sp_call (given_pu l most c hs hl) rfl [0] rfl (by simp only [push_cast, ↓branch_true, ↓branch_false, Nat.reduceBEq, Nat.reduceAdd, Nat.reduceMul, Nat.reduceSub, Int.reduceToNat, reduceCtorEq, branch_decide, branch_not, branch_beq, branch_bne]) (by simp only [push_cast, ↓branch_true, ↓branch_false, Nat.reduceBEq, Nat.reduceAdd, Nat.reduceMul, Nat.reduceSub, Int.reduceToNat, reduceCtorEq, branch_decide, branch_not, branch_beq, branch_bne]) ?_
  simp only [push_cast, ↓branch_true, ↓branch_false, Nat.reduceBEq, Nat.reduceAdd, Nat.reduceMul, Nat.reduceSub, Int.reduceToNat, reduceCtorEq, branch_decide, branch_not, branch_beq, branch_bne]
  refine ⟨fun h => ?_, fun h => ?_⟩
  rotate_left
  · have e : gRes l most = [] := by simp [gRes, h]
    rw [e]
    refine ⟨_, _, [0, 3, 4], ?_, by kernel_rfl, ?_, 0, fun _ => 0, Nat.le_refl _, rfl, rfl⟩
    · simp only [push_cast, ↓branch_true, ↓branch_false, Nat.reduceBEq, Nat.reduceAdd, Nat.reduceMul, Nat.reduceSub, Int.reduceToNat, reduceCtorEq, branch_decide, branch_not, branch_beq, branch_bne]
    · simp only [push_cast, ↓branch_true, ↓branch_false, Nat.reduceBEq, Nat.reduceAdd, Nat.reduceMul, Nat.reduceSub, Int.reduceToNat, reduceCtorEq, branch_decide, branch_not, branch_beq, branch_bne]
      exact ⟨by omega, Or.inr fun _ => rfl⟩
  have he : errG l most = 0 := h
  obtain ⟨hv, hm1, hm2, hm3⟩ := errG_ok he
  have hlen := (vB_yes.1 hv).1
  refine sp_at (heaviest_sp l c hv) [0] rfl ?_ ?_ ?_
  · simp only [push_cast, ↓branch_true, ↓branch_false, Nat.reduceBEq, Nat.reduceAdd, Nat.reduceMul, Nat.reduceSub, Int.reduceToNat, reduceCtorEq, branch_decide, branch_not, branch_beq, branch_bne]
  · simp only [push_cast, ↓branch_true, ↓branch_false, Nat.reduceBEq, Nat.reduceAdd, Nat.reduceMul, Nat.reduceSub, Int.reduceToNat, reduceCtorEq, branch_decide, branch_not, branch_beq, branch_bne]
  rintro _ _ ⟨hcap, hh, rfl, rfl⟩
  simp only [push_cast, ↓branch_true, ↓branch_false, Nat.reduceBEq, Nat.reduceAdd, Nat.reduceMul, Nat.reduceSub, Int.reduceToNat, reduceCtorEq, branch_decide, branch_not, branch_beq, branch_bne]
  refine tr_loop mixed (by kernel_rfl) (fun (x : Nat × Nat × Nat × (Nat → Nat)) => [(21, .v (.int .i64 x.1)), (20, .v (.int .i64 l.length)), (19, .s 3 0 0 l.length hcap 1), (7, .s 4 0 0 (greedyT l most x.1).length x.2.1 1), (8, .s 5 0 0 ((greedyT l most x.1).map (massL l)).length x.2.2.1 1), (2, .p 1 0 0), (3, .p 2 0 0), (0, .s 0 0 0 l.length c 4), (1, .v (.int .i64 most))])
    (fun x => [rB l, rBoxB 0 l.length c, oI most, rOwn 3 l.length hcap (fun k => ix (heavO l) k), oOut 6 (greedyT l most x.1) x.2.2.2 x.2.1, rIO ((greedyT l most x.1).map (massL l)) x.2.2.1, oFa (greedyT l most x.1) x.2.2.2])
    (fun x => x.1 ≤ l.length ∧ (greedyT l most x.1).length ≤ x.2.1 ∧ (greedyT l most x.1).length ≤ x.2.2.1 ∧ ∀ k, (greedyT l most x.1).length ≤ k → x.2.2.2 k = 0) (fun x => l.length - x.1) (0, 0, 0, fun _ => 0) ⟨Nat.zero_le _, by simp [greedyT], by simp [greedyT], fun _ _ => rfl⟩ (Mt.wk (rl := [0, 1, 2, 3, 4, 5, 6]) ⟨by kernel_rfl, ?_, ?_⟩) ?_
  · simp only [push_cast, ↓branch_true, ↓branch_false, Nat.reduceBEq, Nat.reduceAdd, Nat.reduceMul, Nat.reduceSub, Int.reduceToNat, reduceCtorEq, branch_decide, branch_not, branch_beq, branch_bne]
    exact ⟨rfl, rfl⟩
  · simp only [push_cast, ↓branch_true, ↓branch_false, Nat.reduceBEq, Nat.reduceAdd, Nat.reduceMul, Nat.reduceSub, Int.reduceToNat, reduceCtorEq, branch_decide, branch_not, branch_beq, branch_bne]
    exact ⟨Or.inl rfl, ⟨by omega, Or.inl rfl⟩, by omega, Or.inr fun _ => rfl⟩
  rintro ⟨k, oc, mc, cp⟩ ⟨h1, h2, h3, h4⟩
  simp only at h1 h2 h3 h4
  obtain ⟨hL, hLn⟩ := lds_T hv hm3 k h1
  have hML := mem_len (l := l) (most := most) k h1
  generalize hout : greedyT l most k = out at *
  simp only [push_cast, ↓branch_true, ↓branch_false, Nat.reduceBEq, Nat.reduceAdd, Nat.reduceMul, Nat.reduceSub, Int.reduceToNat, reduceCtorEq, branch_decide, branch_not, branch_beq, branch_bne]
  refine ⟨fun h => ?_, fun h => ?_⟩
  · repeat (with_reducible refine And.intro (by omega) ?_)
    have hk : k < (heavO l).length := by rw [heavO_len]; omega
    have hi := heavO_mem (ix_mem hk)
    have hT := greedyT_succ (most := most) hk
    generalize hiv : ix (heavO l) k = i at *
    have hmi := hm3 i.toNat (by omega)
    have hm0 := okA_mass ((vB_yes.1 hv).2 i.toNat (by omega))
    refine sp_call (indexI_pu (out.map (massL l)) mc 44 [] [.p 1 0 0, .p 2 0 0, .p 3 0 0] [rBoxB 4 l.length c, oI i, oI most, rB l] (fitB l most i) rfl (by simp; omega) fun x hx => ?_) rfl [5, 1, 7, 2, 0] rfl ?_ ?_ ?_
    · obtain ⟨y, hy, rfl⟩ := List.mem_map.1 hx
      have := hL.mass y hy
      exact pu_at (gcl_pu l c most i (massL l y) hv hi (by omega)) rfl [1, 2, 3, 4] rfl (by (simp only [push_cast, ↓branch_true, ↓branch_false, Nat.reduceBEq, Nat.reduceAdd, Nat.reduceMul, Nat.reduceSub, Int.reduceToNat, reduceCtorEq, branch_decide, branch_not, branch_beq, branch_bne])) (by (simp only [push_cast, ↓branch_true, ↓branch_false, Nat.reduceBEq, Nat.reduceAdd, Nat.reduceMul, Nat.reduceSub, Int.reduceToNat, reduceCtorEq, branch_decide, branch_not, branch_beq, branch_bne]))
    · simp only [push_cast, ↓branch_true, ↓branch_false, Nat.reduceBEq, Nat.reduceAdd, Nat.reduceMul, Nat.reduceSub, Int.reduceToNat, reduceCtorEq, branch_decide, branch_not, branch_beq, branch_bne]
    · simp only [push_cast, ↓branch_true, ↓branch_false, Nat.reduceBEq, Nat.reduceAdd, Nat.reduceMul, Nat.reduceSub, Int.reduceToNat, reduceCtorEq, branch_decide, branch_not, branch_beq, branch_bne]
    rw [idx_fit]
    rw [hout] at hT
    unfold gstep at hT
    have hfl := fitAt_le l most i out
    have hff : fitAt l most i out < out.length → massL l (ix out (fitAt l most i out)) + (ix l i.toNat).mass ≤ most := fun h => fitAt_fits h
    generalize hf : fitAt l most i out = f at *
    have hlm : (out.map (massL l)).length = out.length := by simp
    by_cases hfo : f < out.length
    · rw [if_pos hfo]
      have hff := hff hfo
      have hmx := hL.mass _ (ix_mem hfo)
      have hix : ix (out.map (massL l)) f = massL l (ix out f) := by rw [ix_eq (by omega), ix_eq hfo, List.getElem_map]
      simp only [push_cast, ↓branch_true, ↓branch_false, Nat.reduceBEq, Nat.reduceAdd, Nat.reduceMul, Nat.reduceSub, Int.reduceToNat, reduceCtorEq, branch_decide, branch_not, branch_beq, branch_bne]
      refine ⟨fun h => by omega, fun _ => ?_⟩
      have hbig := big_eq
      have hxl := hML _ (ix_mem hfo)
      have e1 : greedyT l most (k + 1) = out.set f (ix out f ++ [i]) := by rw [hT, gput, if_pos hfo]
      repeat' first
        | with_reducible apply And.intro
        | (with_reducible refine Or.inr ?_)
        | (with_reducible intro _)
      all_goals first
        | omega
        | skip
      all_goals
        rename_i cap2 hcap2
        refine lpK_wk (k + 1, oc, mc, fun q => bif q == f then cap2 else cp q) ⟨by simp only; omega, by simp only [e1, List.length_set]; omega, by simp only [e1, List.length_set]; omega, fun q hq => ?_⟩ (by simp only; omega) ((swk_place 6 f 10 (by omega) (by omega) (by omega) ?_).trans (Mt.wk (rl := [0, 1, 2, 3, 4, 5, 6]) ⟨by kernel_rfl, ?_, ?_⟩))
        · simp only [e1, List.length_set] at hq ⊢
          have : (q == f) = false := by simp; omega
          rw [this]
          exact h4 q hq
        · simp only [push_cast, ↓branch_true, ↓branch_false, Nat.reduceBEq, Nat.reduceAdd, Nat.reduceMul, Nat.reduceSub, Int.reduceToNat, reduceCtorEq, branch_decide, branch_not, branch_beq, branch_bne]
          omega
        · simp only [push_cast, ↓branch_true, ↓branch_false, Nat.reduceBEq, Nat.reduceAdd, Nat.reduceMul, Nat.reduceSub, Int.reduceToNat, reduceCtorEq, branch_decide, branch_not, branch_beq, branch_bne, e1, List.length_set, List.length_map]
        · simp only [push_cast, ↓branch_true, ↓branch_false, Nat.reduceBEq, Nat.reduceAdd, Nat.reduceMul, Nat.reduceSub, Int.reduceToNat, reduceCtorEq, branch_decide, branch_not, branch_beq, branch_bne, e1, List.length_set, List.length_map]
          refine ⟨fun i1 hi1 q hq => ?_, fun i1 hi1 q hq => ?_, fun q hq => ?_⟩
          · obtain rfl : i1 = 0 := by omega
            by_cases eq : q = f
            · subst eq
              simp only [push_cast, ↓branch_true, ↓branch_false, Nat.reduceBEq, Nat.reduceAdd, Nat.reduceMul, Nat.reduceSub, Int.reduceToNat, reduceCtorEq, branch_decide, branch_not, branch_beq, branch_bne, ix_set_self hfo, List.length_append]
            · have hb : (q == f) = false := by simpa using eq
              simp only [push_cast, ↓branch_true, ↓branch_false, Nat.reduceBEq, Nat.reduceAdd, Nat.reduceMul, Nat.reduceSub, Int.reduceToNat, reduceCtorEq, branch_decide, branch_not, branch_beq, branch_bne, ix_set_ne eq, hb]
          · obtain rfl : i1 = 0 := by omega
            by_cases eq : q = f
            · subst eq
              have e3 : ix (List.map (massL l) (out.set q (ix out q ++ [i]))) q = ix (List.map (massL l) out) q + (ix l i.toNat).mass := by
                rw [hix, List.map_set, ix_set_self (by simpa using hfo), massL_app, massL_one]
              simp only [push_cast, ↓branch_true, ↓branch_false, Nat.reduceBEq, Nat.reduceAdd, Nat.reduceMul, Nat.reduceSub, Int.reduceToNat, reduceCtorEq, branch_decide, branch_not, branch_beq, branch_bne, e3]
            · have hb : (q == f) = false := by simpa using eq
              have e3 : ix (List.map (massL l) (out.set f (ix out f ++ [i]))) q = ix (List.map (massL l) out) q := by
                rw [List.map_set, ix_set_ne eq]
              simp only [push_cast, ↓branch_true, ↓branch_false, Nat.reduceBEq, Nat.reduceAdd, Nat.reduceMul, Nat.reduceSub, Int.reduceToNat, reduceCtorEq, branch_decide, branch_not, branch_beq, branch_bne, hb, e3]
          · by_cases eq : q = f
            · subst eq
              simp only [push_cast, ↓branch_true, ↓branch_false, Nat.reduceBEq, Nat.reduceAdd, Nat.reduceMul, Nat.reduceSub, Int.reduceToNat, reduceCtorEq, branch_decide, branch_not, branch_beq, branch_bne, ix_set_self hfo, List.length_append]
              intro k' hk'
              rw [ix_snoc hk']
              cases decide (k' < (ix out q).length) <;> (simp only [push_cast, ↓branch_true, ↓branch_false, Nat.reduceBEq, Nat.reduceAdd, Nat.reduceMul, Nat.reduceSub, Int.reduceToNat, reduceCtorEq, branch_decide, branch_not, branch_beq, branch_bne])
            · have hb : (q == f) = false := by simpa using eq
              simp only [push_cast, ↓branch_true, ↓branch_false, Nat.reduceBEq, Nat.reduceAdd, Nat.reduceMul, Nat.reduceSub, Int.reduceToNat, reduceCtorEq, branch_decide, branch_not, branch_beq, branch_bne, ix_set_ne eq, hb]
    · obtain rfl : f = out.length := by omega
      rw [if_neg hfo]
      simp only [push_cast, ↓branch_true, ↓branch_false, Nat.reduceBEq, Nat.reduceAdd, Nat.reduceMul, Nat.reduceSub, Int.reduceToNat, reduceCtorEq, branch_decide, branch_not, branch_beq, branch_bne]
      refine ⟨fun _ => ?_, fun h => absurd (by decide) h⟩
      repeat (with_reducible refine And.intro (by omega) ?_)
      refine Or.inr ?_
      repeat (with_reducible refine And.intro (by omega) ?_)
      intro oc2 hoc2
      repeat (with_reducible refine And.intro (by omega) ?_)
      refine Or.inr ?_
      repeat (with_reducible refine And.intro (by omega) ?_)
      intro mc2 hmc2
      have hd : decide (out.length < out.length) = false := by simp
      simp only [push_cast, ↓branch_true, ↓branch_false, Nat.reduceBEq, Nat.reduceAdd, Nat.reduceMul, Nat.reduceSub, Int.reduceToNat, reduceCtorEq, branch_decide, branch_not, branch_beq, branch_bne, hd, List.length_map]
      have hbig := big_eq
      have e1 : greedyT l most (k + 1) = out ++ [[i]] := by rw [hT, gput, if_neg hfo]
      repeat' first
        | with_reducible apply And.intro
        | (with_reducible intro _)
      all_goals first
        | omega
        | skip
      all_goals
        rename_i cap2 hcap2
        refine lpK_wk (k + 1, oc2, mc2, fun q => bif q == out.length then cap2 else cp q) ⟨by simp only; omega, by simp only [e1, List.length_append, List.length_cons, List.length_nil]; omega, by simp only [e1, List.length_append, List.length_cons, List.length_nil]; omega, fun q hq => ?_⟩ (by simp only; omega) ((swk_place 6 out.length 13 (by omega) (by omega) (by omega) ?_).trans (Mt.wk (rl := [0, 1, 2, 3, 9, 11, 6]) ⟨by kernel_rfl, ?_, ?_⟩))
        · simp only [e1, List.length_append, List.length_cons, List.length_nil] at hq ⊢
          have : (q == out.length) = false := by simp; omega
          rw [this]
          exact h4 q (by omega)
        · simp only [push_cast, ↓branch_true, ↓branch_false, Nat.reduceBEq, Nat.reduceAdd, Nat.reduceMul, Nat.reduceSub, Int.reduceToNat, reduceCtorEq, branch_decide, branch_not, branch_beq, branch_bne]
          omega
        · simp only [push_cast, ↓branch_true, ↓branch_false, Nat.reduceBEq, Nat.reduceAdd, Nat.reduceMul, Nat.reduceSub, Int.reduceToNat, reduceCtorEq, branch_decide, branch_not, branch_beq, branch_bne, e1, List.length_append, List.length_map]
        · simp only [push_cast, ↓branch_true, ↓branch_false, Nat.reduceBEq, Nat.reduceAdd, Nat.reduceMul, Nat.reduceSub, Int.reduceToNat, reduceCtorEq, branch_decide, branch_not, branch_beq, branch_bne, e1, List.length_append, List.length_map]
          refine ⟨fun i1 hi1 q hq => ?_, fun i1 hi1 q hq => ?_, fun q hq => ?_⟩
          · obtain rfl : i1 = 0 := by omega
            by_cases eq : q = out.length
            · subst eq
              simp only [push_cast, ↓branch_true, ↓branch_false, Nat.reduceBEq, Nat.reduceAdd, Nat.reduceMul, Nat.reduceSub, Int.reduceToNat, reduceCtorEq, branch_decide, branch_not, branch_beq, branch_bne, ix_app_last]
            · have hb : (q == out.length) = false := by simpa using eq
              have hb2 : decide (q < out.length) = true := by simp; omega
              simp only [push_cast, ↓branch_true, ↓branch_false, Nat.reduceBEq, Nat.reduceAdd, Nat.reduceMul, Nat.reduceSub, Int.reduceToNat, reduceCtorEq, branch_decide, branch_not, branch_beq, branch_bne, ix_app_ne eq, hb, hb2]
          · obtain rfl : i1 = 0 := by omega
            by_cases eq : q = out.length
            · subst eq
              have e3 : ix (List.map (massL l) (out ++ [[i]])) out.length = 0 + (ix l i.toNat).mass := by
                rw [List.map_append]
                have := ix_app_last (out.map (massL l)) (massL l [i])
                rw [hlm] at this
                rw [show List.map (massL l) [[i]] = [massL l [i]] from rfl, this, massL_one, Int.zero_add]
              simp only [push_cast, ↓branch_true, ↓branch_false, Nat.reduceBEq, Nat.reduceAdd, Nat.reduceMul, Nat.reduceSub, Int.reduceToNat, reduceCtorEq, branch_decide, branch_not, branch_beq, branch_bne, e3]
            · have hb : (q == out.length) = false := by simpa using eq
              have hb2 : decide (q < out.length) = true := by simp; omega
              have e3 : ix (List.map (massL l) (out ++ [[i]])) q = ix (List.map (massL l) out) q := by
                rw [List.map_append]
                exact ix_app_ne (by rw [hlm]; exact eq) _
              simp only [push_cast, ↓branch_true, ↓branch_false, Nat.reduceBEq, Nat.reduceAdd, Nat.reduceMul, Nat.reduceSub, Int.reduceToNat, reduceCtorEq, branch_decide, branch_not, branch_beq, branch_bne, hb, hb2, e3]
          · by_cases eq : q = out.length
            · subst eq
              simp only [push_cast, ↓branch_true, ↓branch_false, Nat.reduceBEq, Nat.reduceAdd, Nat.reduceMul, Nat.reduceSub, Int.reduceToNat, reduceCtorEq, branch_decide, branch_not, branch_beq, branch_bne, ix_app_last]
              intro k' hk'
              obtain rfl : k' = 0 := by omega
              (simp only [push_cast, ↓branch_true, ↓branch_false, Nat.reduceBEq, Nat.reduceAdd, Nat.reduceMul, Nat.reduceSub, Int.reduceToNat, reduceCtorEq, branch_decide, branch_not, branch_beq, branch_bne])
              rfl
            · have hb : (q == out.length) = false := by simpa using eq
              simp only [push_cast, ↓branch_true, ↓branch_false, Nat.reduceBEq, Nat.reduceAdd, Nat.reduceMul, Nat.reduceSub, Int.reduceToNat, reduceCtorEq, branch_decide, branch_not, branch_beq, branch_bne, ix_app_ne eq, hb]
  · obtain rfl : k = l.length := by omega
    have e : gRes l most = out := by rw [gRes, if_pos he, ← greedyT_all, hout]
    rw [e]
    refine ⟨_, _, [0, 4, 6], ?_, by kernel_rfl, ?_, oc, cp, h2, rfl, rfl⟩
    · simp only [push_cast, ↓branch_true, ↓branch_false, Nat.reduceBEq, Nat.reduceAdd, Nat.reduceMul, Nat.reduceSub, Int.reduceToNat, reduceCtorEq, branch_decide, branch_not, branch_beq, branch_bne]
      rw [he]
    · simp only [push_cast, ↓branch_true, ↓branch_false, Nat.reduceBEq, Nat.reduceAdd, Nat.reduceMul, Nat.reduceSub, Int.reduceToNat, reduceCtorEq, branch_decide, branch_not, branch_beq, branch_bne]
end Go.Proofs.Ytdinkpefoljigaa
