/- Contracts: the reference's search of the least number. -/
import Derived.Test.YthlpfjcjfhdmaaaW
import Derived.Test.YthlpfjcjfhdmaaaVA
set_option maxRecDepth 100000
set_option linter.unusedSimpArgs false
set_option linter.unusedVariables false
namespace Go.Proofs.Ythlpfjcjfhdmaaa
open Go.RowKit
def rR (room : List Int) : Ob := ⟨3, true, .row 1 1 (fun _ => room.length) (fun _ => 0) (fun _ k => [.v (.int .i64 (ix room k))])⟩
attribute [push_cast] rR
/-- What is left of the loads. -/
def usedR (lim : Int) (room : List Int) : List Int := room.map fun r => lim - r
theorem usedR_len (lim : Int) (room : List Int) : (usedR lim room).length = room.length := by simp [usedR]
theorem usedR_ix {lim : Int} {room : List Int} {j : Nat} (h : j < room.length) : ix (usedR lim room) j = lim - ix room j := by
  rw [ix_eq (by rw [usedR_len]; exact h), ix_eq h]; simp [usedR]
theorem usedR_set {lim w : Int} {room : List Int} {j : Nat} (h : j < room.length) : usedR lim (room.set j (ix room j - w)) = (usedR lim room).set j (ix (usedR lim room) j + w) := by
  rw [usedR_ix h]
  unfold usedR
  rw [List.map_set]
  congr 1
  omega
theorem usedR_app (lim w : Int) (room : List Int) : usedR lim (room ++ [lim - w]) = usedR lim room ++ [w] := by
  unfold usedR
  rw [List.map_append, List.map_cons, List.map_nil]
  congr 2
  omega
/-- The tries so far. -/
structure TrI (lim w : Int) (ws room : List Int) (mo i m : Nat) : Prop where
  le : m ≤ mo
  all : ∀ j, j < i → w ≤ ix room j → m ≤ optF lim ws (usedR lim (room.set j (ix room j - w)))
  one : m = mo ∨ ∃ j, j < i ∧ w ≤ ix room j ∧ m = optF lim ws (usedR lim (room.set j (ix room j - w)))
theorem bi_no {lim w : Int} {ws room : List Int} {mo i m : Nat} (h : TrI lim w ws room mo i m) (hw : ¬ w ≤ ix room i) : TrI lim w ws room mo (i + 1) m :=
  ⟨h.le, fun j hj hf => h.all j (by
    rcases Nat.lt_succ_iff_lt_or_eq.1 hj with h1 | rfl
    · exact h1
    · exact absurd hf hw) hf, h.one.imp id fun ⟨j, h1, h2⟩ => ⟨j, by omega, h2⟩⟩
theorem bi_yes {lim w : Int} {ws room : List Int} {mo i m : Nat} (h : TrI lim w ws room mo i m) (hw : w ≤ ix room i) : TrI lim w ws room mo (i + 1) (min m (optF lim ws (usedR lim (room.set i (ix room i - w))))) := by
  generalize ho : optF lim ws (usedR lim (room.set i (ix room i - w))) = o
  have h1 := h.le
  refine ⟨by omega, fun j hj hf => ?_, ?_⟩
  · rcases Nat.lt_succ_iff_lt_or_eq.1 hj with h2 | rfl
    · have := h.all j h2 hf; omega
    · rw [ho]; omega
  · rcases Nat.le_total m o with h2 | h2
    · rw [Nat.min_eq_left h2]
      exact h.one.imp id fun ⟨j, h1, h2⟩ => ⟨j, by omega, h2⟩
    · rw [Nat.min_eq_right h2]
      exact .inr ⟨i, by omega, hw, ho.symm⟩
theorem bi_end {lim w : Int} {ws room : List Int} {mo m : Nat} (h : TrI lim w ws room mo room.length m) : min m (optF lim ws (usedR lim (room ++ [lim - w]))) = min mo (optF lim (w :: ws) (usedR lim room)) := by
  obtain ⟨t1, t2, t3⟩ := optF_cons lim w ws (usedR lim room)
  rw [usedR_app]
  rw [usedR_len] at t2 t3
  have h1 := h.le
  have fit : ∀ j, j < room.length → (ix (usedR lim room) j + w ≤ lim ↔ w ≤ ix room j) := fun j hj => by rw [usedR_ix hj]; omega
  generalize optF lim (w :: ws) (usedR lim room) = t at *
  generalize optF lim ws (usedR lim room ++ [w]) = nw at *
  have u : m = mo ∨ t ≤ m := by
    rcases h.one with h2 | ⟨j, hj, hf, h2⟩
    · exact .inl h2
    · right
      have := t2 j hj ((fit j hj).2 hf)
      rw [h2, usedR_set hj]; exact this
  rcases t3 with h3 | ⟨j, hj, hf, h3⟩
  · omega
  · have h4 := h.all j hj ((fit j hj).1 hf)
    rw [usedR_set hj] at h4
    omega
set_option maxHeartbeats 2000000 in
theorem rbest_pu (ws : List Int) (lim : Int) (hl : ws.length ≤ 1000) (h1 : 1 ≤ lim) (h2 : lim ≤ 1099511627776) (hm : ∀ k, k < ws.length → 0 ≤ ix ws k ∧ ix ws k ≤ lim) :
    ∀ (n at_ : Nat) (room : List Int) (pc rc mo : Nat), at_ + n = ws.length → room.length + n ≤ 1000 → (∀ r ∈ room, 0 ≤ r ∧ r ≤ lim) → mo ≤ 1001 →
      Pu Try.prog 69 [.v (.int .i64 lim), .s 0 0 at_ n pc 1, .s 1 0 0 room.length rc 1, .v (.int .i64 mo)] [rR ws, rR room] (.v (.int .i64 (min mo (optF lim (ws.drop at_) (usedR lim room)) : Nat))) := by
  intro n
  induction n with
  | zero =>
    intro at_ room pc rc mo ha hr hx hmo
    obtain rfl : at_ = ws.length := by omega
    have hge := optF_ge lim (ws.drop ws.length) (usedR lim room)
    rw [usedR_len] at hge
    have e : optF lim (ws.drop ws.length) (usedR lim room) = room.length := by rw [List.drop_length, optF, usedR_len]
    refine pu_of_ex true [(10, .one 0 (.one 1 (.one 2 (.one 3 (.one 4 (.one 6 (.one 7 (.alt [(5, .one 8 (.one 9 (.one 10 (.one 11 .fin)))), (8, .one 5 (.one 9 (.one 10 (.one 11 .fin))))])))))))), (12, .one 0 (.one 1 (.one 2 (.one 4 (.one 6 (.one 7 (.one 8 (.one 13 (.alt [(3, .alt [(5, .one 9 (.one 10 (.one 11 (.one 12 (.one 14 (.one 15 .fin)))))), (9, .one 10 (.alt [(5, .one 11 (.one 12 (.one 14 (.one 15 .fin)))), (11, .one 5 (.one 12 (.one 14 (.one 15 .fin))))]))]), (9, .one 10 (.alt [(3, .alt [(5, .one 11 (.one 12 (.one 14 (.one 15 .fin)))), (11, .one 5 (.one 12 (.one 14 (.one 15 .fin))))]), (11, .one 3 (.one 5 (.one 12 (.one 14 (.one 15 .fin)))))]))])))))))))] mixed Try.call69 Try.func69 rfl Try.ntmps69 Try.results69 (by decide +kernel) rfl rfl rfl ?_
    simp only [push_cast, ↓branch_true, ↓branch_false, Nat.reduceBEq, Nat.reduceAdd, Nat.reduceMul, Nat.reduceSub, Int.reduceToNat, reduceCtorEq, branch_decide, branch_not, branch_beq, branch_bne]
    rw [e]
    refine ⟨fun h => ?_, fun h => ?_⟩
    · congr 2; omega
    · congr 2; omega
  | succ n ih =>
    intro at_ room pc rc mo ha hr hx hmo
    have hge := optF_ge lim (ws.drop at_) (usedR lim room)
    rw [usedR_len] at hge
    have hal : at_ < ws.length := by omega
    refine pu_of_ex true [(10, .one 0 (.one 1 (.one 2 (.one 3 (.one 4 (.one 6 (.one 7 (.alt [(5, .one 8 (.one 9 (.one 10 (.one 11 .fin)))), (8, .one 5 (.one 9 (.one 10 (.one 11 .fin))))])))))))), (12, .one 0 (.one 1 (.one 2 (.one 4 (.one 6 (.one 7 (.one 8 (.one 13 (.alt [(3, .alt [(5, .one 9 (.one 10 (.one 11 (.one 12 (.one 14 (.one 15 .fin)))))), (9, .one 10 (.alt [(5, .one 11 (.one 12 (.one 14 (.one 15 .fin)))), (11, .one 5 (.one 12 (.one 14 (.one 15 .fin))))]))]), (9, .one 10 (.alt [(3, .alt [(5, .one 11 (.one 12 (.one 14 (.one 15 .fin)))), (11, .one 5 (.one 12 (.one 14 (.one 15 .fin))))]), (11, .one 3 (.one 5 (.one 12 (.one 14 (.one 15 .fin)))))]))])))))))))] mixed Try.call69 Try.func69 rfl Try.ntmps69 Try.results69 (by decide +kernel) rfl rfl rfl ?_
    simp only [push_cast, ↓branch_true, ↓branch_false, Nat.reduceBEq, Nat.reduceAdd, Nat.reduceMul, Nat.reduceSub, Int.reduceToNat, reduceCtorEq, branch_decide, branch_not, branch_beq, branch_bne]
    refine ⟨fun h => by congr 2; omega, fun h => ⟨fun h => absurd h (by omega), fun _ => ?_⟩⟩
    obtain ⟨hw, hwl⟩ := hm at_ hal
    refine tr_loop mixed (by kernel_rfl) (fun (x : Nat × Nat) => [(9, .v (.int .i64 x.1)), (0, .v (.int .i64 lim)), (1, .s 0 0 at_ (n + 1) pc 1), (2, .s 1 0 0 room.length rc 1), (3, .v (.int .i64 x.2))])
      (fun _ => [rR ws, rR room]) (fun x => x.1 ≤ room.length ∧ TrI lim (ix ws at_) (ws.drop (at_ + 1)) room mo x.1 x.2) (fun x => room.length - x.1) (0, mo) ⟨Nat.zero_le _, Nat.le_refl _, fun j hj => by simp at hj, .inl rfl⟩ (Mt.wk (rl := [0, 1]) ⟨by kernel_rfl, ?_, ?_⟩) ?_
    · simp only [push_cast, ↓branch_true, ↓branch_false, Nat.reduceBEq, Nat.reduceAdd, Nat.reduceMul, Nat.reduceSub, Int.reduceToNat, reduceCtorEq, branch_decide, branch_not, branch_beq, branch_bne]
    · simp only [push_cast, ↓branch_true, ↓branch_false, Nat.reduceBEq, Nat.reduceAdd, Nat.reduceMul, Nat.reduceSub, Int.reduceToNat, reduceCtorEq, branch_decide, branch_not, branch_beq, branch_bne]
    rintro ⟨i, m⟩ ⟨g1, g2⟩
    simp only at g1 g2
    simp only [push_cast, ↓branch_true, ↓branch_false, Nat.reduceBEq, Nat.reduceAdd, Nat.reduceMul, Nat.reduceSub, Int.reduceToNat, reduceCtorEq, branch_decide, branch_not, branch_beq, branch_bne]
    refine ⟨fun h3 => ?_, fun h3 => ?_⟩
    · have hi : i < room.length := by omega
      have hri := hx _ (ix_mem hi)
      repeat (with_reducible refine And.intro (by omega) ?_)
      refine ⟨fun h4 => ?_, fun h4 => ?_⟩
      · refine ⟨by omega, by omega, src_ints _ _, appZ_of (fun h => by omega) fun _ => .inl ⟨by omega, by omega, fun cap hcap => ?_⟩⟩
        repeat' (with_reducible (first | apply And.intro | intro _))
        all_goals try omega
        all_goals
          refine sp_call (ih (at_ + 1) (room.set i (ix room i - (ix ws at_))) (pc - 1) cap m (by omega) (by rw [List.length_set]; omega) (fun r hr => by
            rcases List.mem_or_eq_of_mem_set hr with hr | rfl
            · exact hx r hr
            · exact ⟨by omega, by omega⟩) (by have := g2.le; omega)) rfl [0, 3] rfl ?_ ?_ ?_
          · simp only [push_cast, ↓branch_true, ↓branch_false, Nat.reduceBEq, Nat.reduceAdd, Nat.reduceMul, Nat.reduceSub, Int.reduceToNat, reduceCtorEq, branch_decide, branch_not, branch_beq, branch_bne, List.length_set, Nat.add_sub_cancel]
          · simp only [push_cast, ↓branch_true, ↓branch_false, Nat.reduceBEq, Nat.reduceAdd, Nat.reduceMul, Nat.reduceSub, Int.reduceToNat, reduceCtorEq, branch_decide, branch_not, branch_beq, branch_bne, List.length_set]
            intro i1 hi1 q hq
            obtain rfl : i1 = 0 := by omega
            by_cases e : q = i
            · subst e
              rw [ix_set_self hi]
              simp only [beq_self_eq_true, Bool.and_self, cond_true]
              simp only [push_cast, ↓branch_true, ↓branch_false, Nat.reduceBEq, Nat.reduceAdd, Nat.reduceMul, Nat.reduceSub, Int.reduceToNat, reduceCtorEq, branch_decide, branch_not, branch_beq, branch_bne]
            · have hb : (q == i) = false := by simpa using e
              rw [ix_set_ne e]
              simp only [hb, Bool.and_false, cond_false]
              simp only [push_cast, ↓branch_true, ↓branch_false, Nat.reduceBEq, Nat.reduceAdd, Nat.reduceMul, Nat.reduceSub, Int.reduceToNat, reduceCtorEq, branch_decide, branch_not, branch_beq, branch_bne]
          simp only [push_cast, ↓branch_true, ↓branch_false, Nat.reduceBEq, Nat.reduceAdd, Nat.reduceMul, Nat.reduceSub, Int.reduceToNat, reduceCtorEq, branch_decide, branch_not, branch_beq, branch_bne]
          repeat (with_reducible refine And.intro (by omega) ?_)
          refine lpK_normal (i + 1, _) [0, 1] ⟨by simp only; omega, bi_yes g2 h4⟩ (by simp only; omega) (by kernel_rfl) ?_ ?_
          · simp only [push_cast, ↓branch_true, ↓branch_false, Nat.reduceBEq, Nat.reduceAdd, Nat.reduceMul, Nat.reduceSub, Int.reduceToNat, reduceCtorEq, branch_decide, branch_not, branch_beq, branch_bne]
          · simp only [push_cast, ↓branch_true, ↓branch_false, Nat.reduceBEq, Nat.reduceAdd, Nat.reduceMul, Nat.reduceSub, Int.reduceToNat, reduceCtorEq, branch_decide, branch_not, branch_beq, branch_bne]
      · repeat (with_reducible refine And.intro (by omega) ?_)
        refine lpK_normal (i + 1, m) [0, 1] ⟨by simp only; omega, bi_no g2 h4⟩ (by simp only; omega) (by kernel_rfl) ?_ ?_
        · simp only [push_cast, ↓branch_true, ↓branch_false, Nat.reduceBEq, Nat.reduceAdd, Nat.reduceMul, Nat.reduceSub, Int.reduceToNat, reduceCtorEq, branch_decide, branch_not, branch_beq, branch_bne]
        · simp only [push_cast, ↓branch_true, ↓branch_false, Nat.reduceBEq, Nat.reduceAdd, Nat.reduceMul, Nat.reduceSub, Int.reduceToNat, reduceCtorEq, branch_decide, branch_not, branch_beq, branch_bne]
    · obtain rfl : i = room.length := by omega
      have hm13 : m ≤ 1001 := Nat.le_trans g2.le hmo
      have hl1 : (room ++ [lim - (ix ws at_)]).length = room.length + 1 := by simp
      have hih := fun cap => ih (at_ + 1) (room ++ [lim - (ix ws at_)]) (pc - 1) cap m (by omega) (by omega) (fun r hr => by
        rcases List.mem_append.1 hr with hr | hr
        · exact hx r hr
        · simp only [List.mem_singleton] at hr
          subst hr
          omega) hm13
      rw [drop_ix hal, ← bi_end g2]
      repeat' (with_reducible (first | apply And.intro | intro _))
      all_goals try omega
      all_goals try exact src_ints _ _
      all_goals
        refine appZ_of (fun hz => ?_) fun hz => ?_
        case' refine_1 =>
          obtain rfl : room = [] := List.length_eq_zero_iff.1 hz
          repeat' (with_reducible (first | apply And.intro | intro _))
        case' refine_2 =>
          refine Or.inl ⟨by omega, by omega, fun cap hcap => ?_⟩
          repeat' (with_reducible (first | apply And.intro | intro _))
      all_goals try omega
      all_goals first
        | (refine Or.inr ?_
           repeat (with_reducible refine And.intro (by omega) ?_)
           intro cap2 hcap2
           refine sp_call (hih cap2) rfl [0, 5] rfl ?_ ?_ ?_
           · simp only [push_cast, ↓branch_true, ↓branch_false, Nat.reduceBEq, Nat.reduceAdd, Nat.reduceMul, Nat.reduceSub, Int.reduceToNat, reduceCtorEq, branch_decide, branch_not, branch_beq, branch_bne, hl1, Nat.add_sub_cancel]
           · simp only [push_cast, ↓branch_true, ↓branch_false, Nat.reduceBEq, Nat.reduceAdd, Nat.reduceMul, Nat.reduceSub, Int.reduceToNat, reduceCtorEq, branch_decide, branch_not, branch_beq, branch_bne, hl1]
             intro i1 hi1 q hq
             by_cases e : q < room.length
             · have hb : decide (q < room.length) = true := by simpa using e
               rw [ix_app_ne (by omega), hb]
               simp only [push_cast, ↓branch_true, ↓branch_false, Nat.reduceBEq, Nat.reduceAdd, Nat.reduceMul, Nat.reduceSub, Int.reduceToNat, reduceCtorEq, branch_decide, branch_not, branch_beq, branch_bne]
             · obtain rfl : q = room.length := by omega
               have hb : decide (room.length < room.length) = false := by simp
               rw [ix_app_last, hb]
               simp only [push_cast, ↓branch_true, ↓branch_false, Nat.reduceBEq, Nat.reduceAdd, Nat.reduceMul, Nat.reduceSub, Int.reduceToNat, reduceCtorEq, branch_decide, branch_not, branch_beq, branch_bne]
           simp only [push_cast, ↓branch_true, ↓branch_false, Nat.reduceBEq, Nat.reduceAdd, Nat.reduceMul, Nat.reduceSub, Int.reduceToNat, reduceCtorEq, branch_decide, branch_not, branch_beq, branch_bne]
           )
        | (refine Or.inl ⟨by omega, by omega, fun cap2 hcap2 => ?_⟩
           refine sp_call (hih cap2) rfl [0, 4] rfl ?_ ?_ ?_
           · simp only [push_cast, ↓branch_true, ↓branch_false, Nat.reduceBEq, Nat.reduceAdd, Nat.reduceMul, Nat.reduceSub, Int.reduceToNat, reduceCtorEq, branch_decide, branch_not, branch_beq, branch_bne, Nat.add_sub_cancel]
           · simp only [push_cast, ↓branch_true, ↓branch_false, Nat.reduceBEq, Nat.reduceAdd, Nat.reduceMul, Nat.reduceSub, Int.reduceToNat, reduceCtorEq, branch_decide, branch_not, branch_beq, branch_bne]
             intro i1 hi1 q hq
             obtain rfl : q = 0 := by omega
             simp only [push_cast, ↓branch_true, ↓branch_false, Nat.reduceBEq, Nat.reduceAdd, Nat.reduceMul, Nat.reduceSub, Int.reduceToNat, reduceCtorEq, branch_decide, branch_not, branch_beq, branch_bne]
             rfl
           simp only [push_cast, ↓branch_true, ↓branch_false, Nat.reduceBEq, Nat.reduceAdd, Nat.reduceMul, Nat.reduceSub, Int.reduceToNat, reduceCtorEq, branch_decide, branch_not, branch_beq, branch_bne]
           )
end Go.Proofs.Ythlpfjcjfhdmaaa
