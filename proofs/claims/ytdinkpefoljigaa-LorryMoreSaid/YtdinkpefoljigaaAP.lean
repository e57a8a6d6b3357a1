/- Contracts: the reference's search of the least number. -/
import Derived.Test.YtdinkpefoljigaaAO
set_option maxRecDepth 100000
set_option linter.unusedSimpArgs false
set_option linter.unusedVariables false
namespace Go.Proofs.Ytdinkpefoljigaa
open Go.RowKit
def rR (room : List Int) : Ob := ⟨3, true, .row 1 1 (fun _ => room.length) (fun _ => 0) (fun _ k => [.v (.int .i64 (ix room k))])⟩
attribute [push_cast] rR
def mL (l : List Bun) (at_ : Nat) : List Int := (l.drop at_).map (·.mass)
theorem mL_cons {l : List Bun} {at_ : Nat} (h : at_ < l.length) : mL l at_ = (ix l at_).mass :: mL l (at_ + 1) := by
  unfold mL
  rw [drop_ix h]; rfl
theorem mL_nil (l : List Bun) : mL l l.length = [] := by simp [mL]
/-- What is left of the loads. -/
def used (lim : Int) (room : List Int) : List Int := room.map fun r => lim - r
theorem used_len (lim : Int) (room : List Int) : (used lim room).length = room.length := by simp [used]
theorem used_ix {lim : Int} {room : List Int} {j : Nat} (h : j < room.length) : ix (used lim room) j = lim - ix room j := by
  rw [ix_eq (by rw [used_len]; exact h), ix_eq h]; simp [used]
theorem used_set {lim w : Int} {room : List Int} {j : Nat} (h : j < room.length) : used lim (room.set j (ix room j - w)) = (used lim room).set j (ix (used lim room) j + w) := by
  rw [used_ix h]
  unfold used
  rw [List.map_set]
  congr 1
  omega
theorem used_app (lim w : Int) (room : List Int) : used lim (room ++ [lim - w]) = used lim room ++ [w] := by
  unfold used
  rw [List.map_append, List.map_cons, List.map_nil]
  congr 2
  omega
/-- The tries so far. -/
structure TrI (lim w : Int) (ws room : List Int) (mo i m : Nat) : Prop where
  le : m ≤ mo
  all : ∀ j, j < i → w ≤ ix room j → m ≤ optF lim ws (used lim (room.set j (ix room j - w)))
  one : m = mo ∨ ∃ j, j < i ∧ w ≤ ix room j ∧ m = optF lim ws (used lim (room.set j (ix room j - w)))
theorem bi_no {lim w : Int} {ws room : List Int} {mo i m : Nat} (h : TrI lim w ws room mo i m) (hw : ¬ w ≤ ix room i) : TrI lim w ws room mo (i + 1) m :=
  ⟨h.le, fun j hj hf => h.all j (by
    rcases Nat.lt_succ_iff_lt_or_eq.1 hj with h1 | rfl
    · exact h1
    · exact absurd hf hw) hf, h.one.imp id fun ⟨j, h1, h2⟩ => ⟨j, by omega, h2⟩⟩
theorem bi_yes {lim w : Int} {ws room : List Int} {mo i m : Nat} (h : TrI lim w ws room mo i m) (hw : w ≤ ix room i) : TrI lim w ws room mo (i + 1) (min m (optF lim ws (used lim (room.set i (ix room i - w))))) := by
  generalize ho : optF lim ws (used lim (room.set i (ix room i - w))) = o
  have h1 := h.le
  refine ⟨by omega, fun j hj hf => ?_, ?_⟩
  · rcases Nat.lt_succ_iff_lt_or_eq.1 hj with h2 | rfl
    · have := h.all j h2 hf; omega
    · rw [ho]; omega
  · rcases Nat.le_total m o with h2 | h2
    · rw [Nat.min_eq_left h2]
      exact h.one.imp id fun ⟨j, h1, h2⟩ => ⟨j, by omega, h2⟩
    · rw [Nat.min_eq_right h2]
      exact .inr ⟨i, by omega, hw, ho.symm⟩
theorem bi_end {lim w : Int} {ws room : List Int} {mo m : Nat} (h : TrI lim w ws room mo room.length m) : min m (optF lim ws (used lim (room ++ [lim - w]))) = min mo (optF lim (w :: ws) (used lim room)) := by
  obtain ⟨t1, t2, t3⟩ := optF_cons lim w ws (used lim room)
  rw [used_app]
  rw [used_len] at t2 t3
  have h1 := h.le
  have fit : ∀ j, j < room.length → (ix (used lim room) j + w ≤ lim ↔ w ≤ ix room j) := fun j hj => by rw [used_ix hj]; omega
  generalize optF lim (w :: ws) (used lim room) = t at *
  generalize optF lim ws (used lim room ++ [w]) = nw at *
  have u : m = mo ∨ t ≤ m := by
    rcases h.one with h2 | ⟨j, hj, hf, h2⟩
    · exact .inl h2
    · right
      have := t2 j hj ((fit j hj).2 hf)
      rw [h2, used_set hj]; exact this
  rcases t3 with h3 | ⟨j, hj, hf, h3⟩
  · omega
  · have h4 := h.all j hj ((fit j hj).1 hf)
    rw [used_set hj] at h4
    omega
theorem src_ints (f : Nat → Int) (n : Nat) : srcOk (fun k => [.v (.int .i64 (f k))]) 1 n := by
  unfold srcOk
  split <;> simp [lenP, lenIs, ones, one1]
set_option maxHeartbeats 2000000 in
theorem rbest_pu (l : List Bun) (lim : Int) (c : Nat) (hv : vB l = true) (hl : l.length ≤ 12) (h1 : 1 ≤ lim) (h2 : lim ≤ 1099511627776) (hm : ∀ k, k < l.length → (ix l k).mass ≤ lim) :
    ∀ (n at_ : Nat) (room : List Int) (rc mo : Nat), at_ + n = l.length → room.length + n ≤ 12 → (∀ r ∈ room, 0 ≤ r ∧ r ≤ lim) → mo ≤ 13 →
      Pu Try.prog 47 [.s 0 0 0 l.length c 4, .v (.int .i64 at_), .s 1 0 0 room.length rc 1, .v (.int .i64 lim), .v (.int .i64 mo)] [rB l, rR room] (.v (.int .i64 (min mo (optF lim (mL l at_) (used lim room)) : Nat))) := by
  intro n
  induction n with
  | zero =>
    intro at_ room rc mo ha hr hx hmo
    obtain rfl : at_ = l.length := by omega
    have hge := optF_ge lim (mL l l.length) (used lim room)
    rw [used_len] at hge
    have e : optF lim (mL l l.length) (used lim room) = room.length := by rw [mL_nil, optF, used_len]
    refine pu_of_ex true [(10, .one 0 (.one 1 (.one 2 (.one 3 (.one 4 (.one 6 (.one 7 (.one 8 (.one 9 (.alt [(5, .one 10 (.one 11 (.one 12 (.one 13 .fin)))), (10, .one 5 (.one 11 (.one 12 (.one 13 .fin))))])))))))))), (12, .one 0 (.one 1 (.one 2 (.one 4 (.one 6 (.one 7 (.one 8 (.one 9 (.one 10 (.one 15 (.one 16 (.alt [(3, .alt [(5, .one 11 (.one 12 (.one 13 (.one 14 (.one 17 (.one 18 .fin)))))), (11, .one 12 (.alt [(5, .one 13 (.one 14 (.one 17 (.one 18 .fin)))), (13, .one 5 (.one 14 (.one 17 (.one 18 .fin))))]))]), (11, .one 12 (.alt [(3, .alt [(5, .one 13 (.one 14 (.one 17 (.one 18 .fin)))), (13, .one 5 (.one 14 (.one 17 (.one 18 .fin))))]), (13, .one 3 (.one 5 (.one 14 (.one 17 (.one 18 .fin)))))]))]))))))))))))] mixed Try.call47 Try.func47 rfl Try.ntmps47 Try.results47 (by decide +kernel) rfl rfl rfl ?_
    simp only [push_cast, ↓branch_true, ↓branch_false, Nat.reduceBEq, Nat.reduceAdd, Nat.reduceMul, Nat.reduceSub, Int.reduceToNat, reduceCtorEq, branch_decide, branch_not, branch_beq, branch_bne]
    rw [e]
    refine ⟨fun h => ?_, fun h => ?_⟩
    · congr 2; omega
    · congr 2; omega
  | succ n ih =>
    intro at_ room rc mo ha hr hx hmo
    have hge := optF_ge lim (mL l at_) (used lim room)
    rw [used_len] at hge
    have hal : at_ < l.length := by omega
    refine pu_of_ex true [(10, .one 0 (.one 1 (.one 2 (.one 3 (.one 4 (.one 6 (.one 7 (.one 8 (.one 9 (.alt [(5, .one 10 (.one 11 (.one 12 (.one 13 .fin)))), (10, .one 5 (.one 11 (.one 12 (.one 13 .fin))))])))))))))), (12, .one 0 (.one 1 (.one 2 (.one 4 (.one 6 (.one 7 (.one 8 (.one 9 (.one 10 (.one 15 (.one 16 (.alt [(3, .alt [(5, .one 11 (.one 12 (.one 13 (.one 14 (.one 17 (.one 18 .fin)))))), (11, .one 12 (.alt [(5, .one 13 (.one 14 (.one 17 (.one 18 .fin)))), (13, .one 5 (.one 14 (.one 17 (.one 18 .fin))))]))]), (11, .one 12 (.alt [(3, .alt [(5, .one 13 (.one 14 (.one 17 (.one 18 .fin)))), (13, .one 5 (.one 14 (.one 17 (.one 18 .fin))))]), (13, .one 3 (.one 5 (.one 14 (.one 17 (.one 18 .fin)))))]))]))))))))))))] mixed Try.call47 Try.func47 rfl Try.ntmps47 Try.results47 (by decide +kernel) rfl rfl rfl ?_
    simp only [push_cast, ↓branch_true, ↓branch_false, Nat.reduceBEq, Nat.reduceAdd, Nat.reduceMul, Nat.reduceSub, Int.reduceToNat, reduceCtorEq, branch_decide, branch_not, branch_beq, branch_bne]
    refine ⟨fun h => by congr 2; omega, fun h => ⟨fun h => absurd h (by omega), fun _ => ?_⟩⟩
    have hw := okA_mass ((vB_yes.1 hv).2 at_ hal)
    have hwl := hm at_ hal
    refine tr_loop mixed (by kernel_rfl) (fun (x : Nat × Nat) => [(11, .v (.int .i64 x.1)), (0, .s 0 0 0 l.length c 4), (1, .v (.int .i64 at_)), (2, .s 1 0 0 room.length rc 1), (3, .v (.int .i64 lim)), (4, .v (.int .i64 x.2))])
      (fun _ => [rB l, rR room]) (fun x => x.1 ≤ room.length ∧ TrI lim (ix l at_).mass (mL l (at_ + 1)) room mo x.1 x.2) (fun x => room.length - x.1) (0, mo) ⟨Nat.zero_le _, Nat.le_refl _, fun j hj => by simp at hj, .inl rfl⟩ (Mt.wk (rl := [0, 1]) ⟨by kernel_rfl, ?_, ?_⟩) ?_
    · simp only [push_cast, ↓branch_true, ↓branch_false, Nat.reduceBEq, Nat.reduceAdd, Nat.reduceMul, Nat.reduceSub, Int.reduceToNat, reduceCtorEq, branch_decide, branch_not, branch_beq, branch_bne]
    · simp only [push_cast, ↓branch_true, ↓branch_false, Nat.reduceBEq, Nat.reduceAdd, Nat.reduceMul, Nat.reduceSub, Int.reduceToNat, reduceCtorEq, branch_decide, branch_not, branch_beq, branch_bne]
    rintro ⟨i, m⟩ ⟨g1, g2⟩
    simp only at g1 g2
    simp only [push_cast, ↓branch_true, ↓branch_false, Nat.reduceBEq, Nat.reduceAdd, Nat.reduceMul, Nat.reduceSub, Int.reduceToNat, reduceCtorEq, branch_decide, branch_not, branch_beq, branch_bne]
    refine ⟨fun h3 => ?_, fun h3 => ?_⟩
    · have hi : i < room.length := by omega
      have hri := hx _ (ix_mem hi)
      repeat (with_reducible refine And.intro (by omega) ?_)
      refine ⟨fun h4 => ?_, fun h4 => ?_⟩
      · refine ⟨by omega, by omega, src_ints _ _, appZ_of (fun h => by omega) fun _ => .inl ⟨by omega, by omega, fun cap hcap => ?_⟩⟩
        repeat' (with_reducible (first | apply And.intro | intro _))
        all_goals try omega
        all_goals
          refine sp_call (ih (at_ + 1) (room.set i (ix room i - (ix l at_).mass)) cap m (by omega) (by rw [List.length_set]; omega) (fun r hr => by
            rcases List.mem_or_eq_of_mem_set hr with hr | rfl
            · exact hx r hr
            · exact ⟨by omega, by omega⟩) (by have := g2.le; omega)) rfl [0, 3] rfl ?_ ?_ ?_
          · simp only [push_cast, ↓branch_true, ↓branch_false, Nat.reduceBEq, Nat.reduceAdd, Nat.reduceMul, Nat.reduceSub, Int.reduceToNat, reduceCtorEq, branch_decide, branch_not, branch_beq, branch_bne, List.length_set]
          · simp only [push_cast, ↓branch_true, ↓branch_false, Nat.reduceBEq, Nat.reduceAdd, Nat.reduceMul, Nat.reduceSub, Int.reduceToNat, reduceCtorEq, branch_decide, branch_not, branch_beq, branch_bne, List.length_set]
            intro i1 hi1 q hq
            obtain rfl : i1 = 0 := by omega
            by_cases e : q = i
            · subst e
              rw [ix_set_self hi]
              simp only [beq_self_eq_true, Bool.and_self, cond_true]
              simp only [push_cast, ↓branch_true, ↓branch_false, Nat.reduceBEq, Nat.reduceAdd, Nat.reduceMul, Nat.reduceSub, Int.reduceToNat, reduceCtorEq, branch_decide, branch_not, branch_beq, branch_bne]
            · have hb : (q == i) = false := by simpa using e
              rw [ix_set_ne e]
              simp only [hb, Bool.and_false, cond_false]
              simp only [push_cast, ↓branch_true, ↓branch_false, Nat.reduceBEq, Nat.reduceAdd, Nat.reduceMul, Nat.reduceSub, Int.reduceToNat, reduceCtorEq, branch_decide, branch_not, branch_beq, branch_bne]
          simp only [push_cast, ↓branch_true, ↓branch_false, Nat.reduceBEq, Nat.reduceAdd, Nat.reduceMul, Nat.reduceSub, Int.reduceToNat, reduceCtorEq, branch_decide, branch_not, branch_beq, branch_bne]
          repeat (with_reducible refine And.intro (by omega) ?_)
          refine lpK_normal (i + 1, _) [0, 1] ⟨by simp only; omega, bi_yes g2 h4⟩ (by simp only; omega) (by kernel_rfl) ?_ ?_
          · simp only [push_cast, ↓branch_true, ↓branch_false, Nat.reduceBEq, Nat.reduceAdd, Nat.reduceMul, Nat.reduceSub, Int.reduceToNat, reduceCtorEq, branch_decide, branch_not, branch_beq, branch_bne]
          · simp only [push_cast, ↓branch_true, ↓branch_false, Nat.reduceBEq, Nat.reduceAdd, Nat.reduceMul, Nat.reduceSub, Int.reduceToNat, reduceCtorEq, branch_decide, branch_not, branch_beq, branch_bne]
      · repeat (with_reducible refine And.intro (by omega) ?_)
        refine lpK_normal (i + 1, m) [0, 1] ⟨by simp only; omega, bi_no g2 h4⟩ (by simp only; omega) (by kernel_rfl) ?_ ?_
        · simp only [push_cast, ↓branch_true, ↓branch_false, Nat.reduceBEq, Nat.reduceAdd, Nat.reduceMul, Nat.reduceSub, Int.reduceToNat, reduceCtorEq, branch_decide, branch_not, branch_beq, branch_bne]
        · simp only [push_cast, ↓branch_true, ↓branch_false, Nat.reduceBEq, Nat.reduceAdd, Nat.reduceMul, Nat.reduceSub, Int.reduceToNat, reduceCtorEq, branch_decide, branch_not, branch_beq, branch_bne]
    · obtain rfl : i = room.length := by omega
      have hm13 : m ≤ 13 := Nat.le_trans g2.le hmo
      have hl1 : (room ++ [lim - (ix l at_).mass]).length = room.length + 1 := by simp
      have hih := fun cap => ih (at_ + 1) (room ++ [lim - (ix l at_).mass]) cap m (by omega) (by omega) (fun r hr => by
        rcases List.mem_append.1 hr with hr | hr
        · exact hx r hr
        · simp only [List.mem_singleton] at hr
          subst hr
          omega) hm13
      rw [mL_cons hal, ← bi_end g2]
      repeat' (with_reducible (first | apply And.intro | intro _))
      all_goals try omega
      all_goals try exact src_ints _ _
      all_goals
        refine appZ_of (fun hz => ?_) fun hz => ?_
        case' refine_1 =>
          obtain rfl : room = [] := List.length_eq_zero_iff.1 hz
          repeat' (with_reducible (first | apply And.intro | intro _))
        case' refine_2 =>
          refine Or.inl ⟨by omega, by omega, fun cap hcap => ?_⟩
          repeat' (with_reducible (first | apply And.intro | intro _))
      all_goals try omega
      all_goals first
        | (refine Or.inr ?_
           repeat (with_reducible refine And.intro (by omega) ?_)
           intro cap2 hcap2
           refine sp_call (hih cap2) rfl [0, 5] rfl ?_ ?_ ?_
           · simp only [push_cast, ↓branch_true, ↓branch_false, Nat.reduceBEq, Nat.reduceAdd, Nat.reduceMul, Nat.reduceSub, Int.reduceToNat, reduceCtorEq, branch_decide, branch_not, branch_beq, branch_bne, hl1]
           · simp only [push_cast, ↓branch_true, ↓branch_false, Nat.reduceBEq, Nat.reduceAdd, Nat.reduceMul, Nat.reduceSub, Int.reduceToNat, reduceCtorEq, branch_decide, branch_not, branch_beq, branch_bne, hl1]
             intro i1 hi1 q hq
             by_cases e : q < room.length
             · have hb : decide (q < room.length) = true := by simpa using e
               rw [ix_app_ne (by omega), hb]
               simp only [push_cast, ↓branch_true, ↓branch_false, Nat.reduceBEq, Nat.reduceAdd, Nat.reduceMul, Nat.reduceSub, Int.reduceToNat, reduceCtorEq, branch_decide, branch_not, branch_beq, branch_bne]
             · obtain rfl : q = room.length := by omega
               have hb : decide (room.length < room.length) = false := by simp
               rw [ix_app_last, hb]
               simp only [push_cast, ↓branch_true, ↓branch_false, Nat.reduceBEq, Nat.reduceAdd, Nat.reduceMul, Nat.reduceSub, Int.reduceToNat, reduceCtorEq, branch_decide, branch_not, branch_beq, branch_bne]
           simp only [push_cast, ↓branch_true, ↓branch_false, Nat.reduceBEq, Nat.reduceAdd, Nat.reduceMul, Nat.reduceSub, Int.reduceToNat, reduceCtorEq, branch_decide, branch_not, branch_beq, branch_bne]
           )
        | (refine Or.inl ⟨by omega, by omega, fun cap2 hcap2 => ?_⟩
           refine sp_call (hih cap2) rfl [0, 4] rfl ?_ ?_ ?_
           · simp only [push_cast, ↓branch_true, ↓branch_false, Nat.reduceBEq, Nat.reduceAdd, Nat.reduceMul, Nat.reduceSub, Int.reduceToNat, reduceCtorEq, branch_decide, branch_not, branch_beq, branch_bne]
           · simp only [push_cast, ↓branch_true, ↓branch_false, Nat.reduceBEq, Nat.reduceAdd, Nat.reduceMul, Nat.reduceSub, Int.reduceToNat, reduceCtorEq, branch_decide, branch_not, branch_beq, branch_bne]
             intro i1 hi1 q hq
             obtain rfl : q = 0 := by omega
             simp only [push_cast, ↓branch_true, ↓branch_false, Nat.reduceBEq, Nat.reduceAdd, Nat.reduceMul, Nat.reduceSub, Int.reduceToNat, reduceCtorEq, branch_decide, branch_not, branch_beq, branch_bne]
             rfl
           simp only [push_cast, ↓branch_true, ↓branch_false, Nat.reduceBEq, Nat.reduceAdd, Nat.reduceMul, Nat.reduceSub, Int.reduceToNat, reduceCtorEq, branch_decide, branch_not, branch_beq, branch_bne]
           )
theorem ws_rng (l : List Bun) : wsL l (rng l.length) = mL l 0 := by
  unfold wsL rng mL
  rw [List.drop_zero, List.map_map]
  refine List.ext_getElem (by simp) fun k h1 h2 => ?_
  have hk : k < l.length := by simpa using h2
  simp [ix_eq hk]
/-- The least number. -/
def optL (l : List Bun) (lim : Int) : Nat := optF lim (mL l 0) []
theorem mL_range {l : List Bun} {lim : Int} (hv : vB l = true) (hm : ∀ k, k < l.length → (ix l k).mass ≤ lim) : ∀ w ∈ mL l 0, 0 ≤ w ∧ w ≤ lim := fun w hw => by
  unfold mL at hw
  rw [List.drop_zero] at hw
  obtain ⟨b, hb, rfl⟩ := List.mem_map.1 hw
  obtain ⟨k, hk, rfl⟩ := List.mem_iff_getElem.1 hb
  rw [← ix_eq hk]
  exact ⟨(okA_mass ((vB_yes.1 hv).2 k hk)).1, hm k hk⟩
theorem opt_any {l : List Bun} {lim : Int} {x : List Int} (hv : vB l = true) (hm : ∀ k, k < l.length → (ix l k).mass ≤ lim) (hx : x.Perm (rng l.length)) : optF lim (wsL l x) [] = optL l lim := by
  have hp : (wsL l x).Perm (mL l 0) := by
    rw [← ws_rng]
    exact hx.map _
  exact optF_perm hp (.refl _) (fun w hw => mL_range hv hm w (hp.mem_iff.1 hw)) (fun m hm => by cases hm)
theorem rleast_pu (l : List Bun) (lim : Int) (c : Nat) (hv : vB l = true) (hl : l.length ≤ 12) (h1 : 1 ≤ lim) (h2 : lim ≤ 1099511627776) (hm : ∀ k, k < l.length → (ix l k).mass ≤ lim) : Pu Try.prog 23 [.s 0 0 0 l.length c 4, .v (.int .i64 lim)] [rB l] (.v (.int .i64 (optL l lim))) := by
  have hle : optL l lim ≤ l.length := by
    have := optF_le_len (mL_range hv hm)
    simpa [mL, optL] using this
  have hb := rbest_pu l lim c hv hl h1 h2 hm l.length 0 [] 0 (l.length + 1) (by omega) (by simpa using hl) (fun r hr => by cases hr) (by omega)
  rw [show min (l.length + 1) (optF lim (mL l 0) (used lim [])) = optL l lim by show min _ (optL l lim) = _; omega] at hb
  refine pu_of_ex true [] mixed Try.call23 Try.func23 rfl Try.ntmps23 Try.results23 (by decide +kernel) rfl rfl rfl ?_
  simp only [push_cast, ↓branch_true, ↓branch_false, Nat.reduceBEq, Nat.reduceAdd, Nat.reduceMul, Nat.reduceSub, Int.reduceToNat, reduceCtorEq, branch_decide, branch_not, branch_beq, branch_bne]
  repeat (with_reducible refine And.intro (by omega) ?_)
  refine sp_call hb rfl [0, 1] rfl ?_ ?_ ?_
  · simp only [push_cast, ↓branch_true, ↓branch_false, Nat.reduceBEq, Nat.reduceAdd, Nat.reduceMul, Nat.reduceSub, Int.reduceToNat, reduceCtorEq, branch_decide, branch_not, branch_beq, branch_bne]
  · simp only [push_cast, ↓branch_true, ↓branch_false, Nat.reduceBEq, Nat.reduceAdd, Nat.reduceMul, Nat.reduceSub, Int.reduceToNat, reduceCtorEq, branch_decide, branch_not, branch_beq, branch_bne]
  simp only [push_cast, ↓branch_true, ↓branch_false, Nat.reduceBEq, Nat.reduceAdd, Nat.reduceMul, Nat.reduceSub, Int.reduceToNat, reduceCtorEq, branch_decide, branch_not, branch_beq, branch_bne]
end Go.Proofs.Ytdinkpefoljigaa
