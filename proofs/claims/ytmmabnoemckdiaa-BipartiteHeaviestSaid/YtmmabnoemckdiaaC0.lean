/- Contract: Compact. -/
import Derived.Test.YtmmabnoemckdiaaB

set_option maxRecDepth 100000
set_option linter.unusedSimpArgs false
set_option linter.unusedVariables false
namespace Go.Proofs.Ytmmabnoemckdiaa
open Go.RowKit
/-- Without repetitions, of the first p numbers. -/
def cmpT (l : List Int) : Nat → List Int
  | 0 => []
  | p + 1 => if p = 0 ∨ ix l p ≠ ix l (p - 1) then cmpT l p ++ [ix l p] else cmpT l p
def cmpL (l : List Int) : List Int := cmpT l l.length
theorem cmpT_len (l : List Int) : ∀ p, (cmpT l p).length ≤ p
  | 0 => Nat.le_refl _
  | p + 1 => by
    have := cmpT_len l p
    unfold cmpT
    split
    · simp; omega
    · omega
/-- The row while it is compacted. -/
def conT (l : List Int) (a : Nat) : Nat → List Int
  | 0 => l
  | p + 1 => if a < p ∧ ix l p ≠ ix l (p - 1) then (conT l a p).set (cmpT l p).length (ix l p) else conT l a p
theorem conT_len (l : List Int) (a : Nat) : ∀ p, (conT l a p).length = l.length
  | 0 => rfl
  | p + 1 => by
    unfold conT
    split
    · rw [List.length_set, conT_len l a p]
    · exact conT_len l a p
theorem ix_set_self {l : List Int} {f : Nat} (h : f < l.length) (x : Int) : ix (l.set f x) f = x := by
  rw [ix_eq (by simpa using h)]; simp
theorem ix_set_ne {l : List Int} {f q : Nat} (h : q ≠ f) (x : Int) : ix (l.set f x) q = ix l q := by
  unfold ix
  rw [List.getD_eq_getElem?_getD, List.getD_eq_getElem?_getD, List.getElem?_set_ne (Ne.symm h)]
theorem set_up {C : List Int} {f k i : Nat} {v : Int} {rl : List Nat} (hf : f < C.length) (hi : i < 1) : Value.int IntKind.i64 (ix (C.set f v) k) = Value.int IntKind.i64 (bif i == 0 && k == f then v else ix C k) ∧ mtL rl [] (bif i == 0 && k == f then [] else []) := by
  obtain rfl : i = 0 := by omega
  by_cases e : k = f
  · subst e
    have hb : (k == k) = true := by simp
    rw [ix_set_self hf, hb]
    exact ⟨rfl, trivial⟩
  · have hb : (k == f) = false := by simpa using e
    rw [ix_set_ne e, hb]
    exact ⟨rfl, trivial⟩
structure ConOk (l : List Int) (a p : Nat) : Prop where
  low : (cmpT l p).length < p
  old : ∀ q, p ≤ q + 1 → ix (conT l a p) q = ix l q
  out : ∀ q, q < (cmpT l p).length → ix (conT l a p) q = ix (cmpT l p) q
theorem conT_a (l : List Int) (a : Nat) : ∀ p, p ≤ a + 1 → conT l a p = l
  | 0, _ => rfl
  | p + 1, h => by
    unfold conT
    rw [if_neg (fun h2 => by omega), conT_a l a p (by omega)]
theorem conOk_0 {l : List Int} {a : Nat} (ha : 0 < a) (hal : a < l.length) (h : ∀ k, 0 < k → k < a → ix l k ≠ ix l (k - 1)) (he : ix l a = ix l (a - 1)) : cmpT l a = l.take a ∧ ConOk l a (a + 1) := by
  have key : ∀ p, p ≤ a → cmpT l p = l.take p := by
    intro p
    induction p with
    | zero => intro _; simp [cmpT]
    | succ p ih =>
      intro hp
      unfold cmpT
      rw [if_pos, ih (by omega), take_snoc (by omega)]
      rcases Nat.eq_zero_or_pos p with h0 | h0
      · exact .inl h0
      · exact .inr (h p h0 (by omega))
  have h1 := key a (Nat.le_refl _)
  have h2 : cmpT l (a + 1) = l.take a := by
    unfold cmpT
    rw [if_neg (by rintro (h | h); omega; exact h he), h1]
  have h3 : (l.take a).length = a := by simp; omega
  refine ⟨h1, ⟨by rw [h2, h3]; omega, fun q _ => by rw [conT_a l a (a + 1) (by omega)], fun q hq => ?_⟩⟩
  rw [h2, h3] at hq
  rw [h2, conT_a l a (a + 1) (by omega), ix_eq (l := l.take a) (by omega), ix_eq (l := l) (by omega), List.getElem_take]
theorem conOk_step {l : List Int} {a p : Nat} (h : ConOk l a p) (ha : a < p) (hp : p < l.length) : ConOk l a (p + 1) := by
  obtain ⟨h1, h2, h3⟩ := h
  have hcl := conT_len l a p
  by_cases e : ix l p = ix l (p - 1)
  · have e1 : cmpT l (p + 1) = cmpT l p := if_neg (by rintro (h | h); omega; exact h e)
    have e2 : conT l a (p + 1) = conT l a p := if_neg (fun h => h.2 e)
    exact ⟨by rw [e1]; omega, fun q hq => by rw [e2]; exact h2 q (by omega), fun q hq => by rw [e1] at hq ⊢; rw [e2]; exact h3 q hq⟩
  · have e1 : cmpT l (p + 1) = cmpT l p ++ [ix l p] := if_pos (.inr e)
    have e2 : conT l a (p + 1) = (conT l a p).set (cmpT l p).length (ix l p) := if_pos ⟨ha, e⟩
    refine ⟨by rw [e1]; simp; omega, fun q hq => ?_, fun q hq => ?_⟩
    · rw [e2, ix_set_ne (by omega)]; exact h2 q (by omega)
    · rw [e1] at hq ⊢
      rw [e2]
      by_cases eq : q = (cmpT l p).length
      · subst eq; rw [ix_set_self (by omega), ix_app_last]
      · rw [ix_set_ne eq, ix_app_ne eq]
        exact h3 q (by simp at hq; omega)
theorem cmp_all {l : List Int} (h : ∀ k, 0 < k → k < l.length → ix l k ≠ ix l (k - 1)) : cmpL l = l := by
  have key : ∀ p, p ≤ l.length → cmpT l p = l.take p := by
    intro p
    induction p with
    | zero => intro _; simp [cmpT]
    | succ p ih =>
      intro hp
      unfold cmpT
      rw [if_pos, ih (by omega), take_snoc (by omega)]
      rcases Nat.eq_zero_or_pos p with h0 | h0
      · exact .inl h0
      · exact .inr (h p h0 (by omega))
  have := key l.length (Nat.le_refl _)
  rwa [List.take_length] at this
set_option maxHeartbeats 2000000 in
theorem compact_sp (l : List Int) (cap : Nat) (hl : l.length ≤ 1000000) (hc : l.length ≤ cap) : Sp Try.prog 33 [.s 0 0 0 l.length cap 1] [rIO l cap] (fun r H => r = .s 0 0 0 (cmpL l).length cap 1 ∧ H = [rIO (cmpL l) cap]) := by
  refine sp_weak ?_
  refine sp_of_ex true [(6, .one 0 (.one 1 (.one 2 (.one 4 (.one 5 (.one 6 (.one 7 (.alt [(3, .one 8 (.one 9 .fin)), (8, .one 3 (.one 9 .fin))])))))))), (11, .one 0 (.one 1 (.one 2 (.one 4 (.one 5 (.one 6 (.one 7 (.alt [(3, .one 8 (.one 9 .fin)), (8, .one 3 (.one 9 .fin))]))))))))] mixed Try.call33 Try.func33 rfl Try.ntmps33 Try.results33 (by decide +kernel) rfl ?_
  simp only [push_cast, ↓branch_true, ↓branch_false, Nat.reduceBEq, Nat.reduceAdd, Nat.reduceMul, Nat.reduceSub, Int.reduceToNat, reduceCtorEq, branch_decide, branch_not, branch_beq, branch_bne]
  refine ⟨fun h2 => ?_, fun h2 => ?_⟩
  · rw [cmp_all (fun k h3 h4 => by omega)]
    refine ⟨_, _, [0], ?_, by kernel_rfl, ?_, rfl, rfl⟩
    · simp only [push_cast, ↓branch_true, ↓branch_false, Nat.reduceBEq, Nat.reduceAdd, Nat.reduceMul, Nat.reduceSub, Int.reduceToNat, reduceCtorEq, branch_decide, branch_not, branch_beq, branch_bne]
    · simp only [push_cast, ↓branch_true, ↓branch_false, Nat.reduceBEq, Nat.reduceAdd, Nat.reduceMul, Nat.reduceSub, Int.reduceToNat, reduceCtorEq, branch_decide, branch_not, branch_beq, branch_bne]
  refine tr_loop mixed (by kernel_rfl) (fun (k : Nat) => [(3, .v (.int .i64 k)), (0, .s 0 0 0 l.length cap 1)]) (fun _ => [rIO l cap]) (fun k => 1 ≤ k ∧ k ≤ l.length ∧ ∀ j, 0 < j → j < k → ix l j ≠ ix l (j - 1)) (fun k => l.length - k) 1 ⟨Nat.le_refl _, by omega, fun j h3 h4 => by omega⟩ (Mt.wk (rl := [0]) ⟨by kernel_rfl, ?_, ?_⟩) ?_
  · simp only [push_cast, ↓branch_true, ↓branch_false, Nat.reduceBEq, Nat.reduceAdd, Nat.reduceMul, Nat.reduceSub, Int.reduceToNat, reduceCtorEq, branch_decide, branch_not, branch_beq, branch_bne]
    rfl
  · simp only [push_cast, ↓branch_true, ↓branch_false, Nat.reduceBEq, Nat.reduceAdd, Nat.reduceMul, Nat.reduceSub, Int.reduceToNat, reduceCtorEq, branch_decide, branch_not, branch_beq, branch_bne]
  rintro a ⟨ha1, ha2, hn⟩
  simp only [push_cast, ↓branch_true, ↓branch_false, Nat.reduceBEq, Nat.reduceAdd, Nat.reduceMul, Nat.reduceSub, Int.reduceToNat, reduceCtorEq, branch_decide, branch_not, branch_beq, branch_bne]
  refine ⟨fun h => ?_, fun h => ?_⟩
  rotate_left
  · rw [cmp_all (fun k h3 h4 => hn k h3 (by omega))]
    refine ⟨_, _, [0], ?_, by kernel_rfl, ?_, rfl, rfl⟩
    · simp only [push_cast, ↓branch_true, ↓branch_false, Nat.reduceBEq, Nat.reduceAdd, Nat.reduceMul, Nat.reduceSub, Int.reduceToNat, reduceCtorEq, branch_decide, branch_not, branch_beq, branch_bne]
    · simp only [push_cast, ↓branch_true, ↓branch_false, Nat.reduceBEq, Nat.reduceAdd, Nat.reduceMul, Nat.reduceSub, Int.reduceToNat, reduceCtorEq, branch_decide, branch_not, branch_beq, branch_bne]
  have hal : a < l.length := by omega
  have e1 : ((a : Int) - 1).toNat = a - 1 := by omega
  repeat (with_reducible refine And.intro (by omega) ?_)
  rw [e1]
  have hcl := conT_len l a
  refine ⟨⟨by omega, by omega, by omega, by omega, ?_⟩, ⟨by omega, by omega, by omega, by omega, ?_⟩⟩
  all_goals
    refine ⟨fun he => ?_, fun he => ?_⟩
    rotate_left
    · repeat (with_reducible refine And.intro (by omega) ?_)
      refine lpK_normal (a + 1) [0] ⟨by omega, by omega, fun j h3 h4 => ?_⟩ (by omega) (by kernel_rfl) ?_ ?_
      · by_cases ej : j = a
        · rw [ej]; exact he
        · exact hn j h3 (by omega)
      · simp only [push_cast, ↓branch_true, ↓branch_false, Nat.reduceBEq, Nat.reduceAdd, Nat.reduceMul, Nat.reduceSub, Int.reduceToNat, reduceCtorEq, branch_decide, branch_not, branch_beq, branch_bne]
      · simp only [push_cast, ↓branch_true, ↓branch_false, Nat.reduceBEq, Nat.reduceAdd, Nat.reduceMul, Nat.reduceSub, Int.reduceToNat, reduceCtorEq, branch_decide, branch_not, branch_beq, branch_bne]
    obtain ⟨c1, c2⟩ := conOk_0 (by omega) hal hn he
    have c3 : cmpT l (a + 1) = l.take a := by
      rw [← c1]
      exact if_neg (by rintro (h | h); omega; exact h he)
    repeat (with_reducible refine And.intro (by omega) ?_)
    refine tr_loop mixed (by kernel_rfl) (fun (p : Nat) => [(5, .v (.int .i64 (p - a : Nat))), (4, .s 0 0 a (l.length - a) (cap - a) 1), (3, .v (.int .i64 (cmpT l p).length)), (0, .s 0 0 0 l.length cap 1)]) (fun p => [rIO (conT l a p) cap]) (fun p => a + 1 ≤ p ∧ p ≤ l.length ∧ ConOk l a p) (fun p => l.length - p) (a + 1) ⟨Nat.le_refl _, by omega, c2⟩ (Mt.wk (rl := [0]) ⟨by kernel_rfl, ?_, ?_⟩) ?_
    · simp only [push_cast, ↓branch_true, ↓branch_false, Nat.reduceBEq, Nat.reduceAdd, Nat.reduceMul, Nat.reduceSub, Int.reduceToNat, reduceCtorEq, branch_decide, branch_not, branch_beq, branch_bne]
      rw [c3, show a + 1 - a = 1 by omega]
      simp
      omega
    · simp only [push_cast, ↓branch_true, ↓branch_false, Nat.reduceBEq, Nat.reduceAdd, Nat.reduceMul, Nat.reduceSub, Int.reduceToNat, reduceCtorEq, branch_decide, branch_not, branch_beq, branch_bne]
      rw [conT_a l a (a + 1) (by omega)]
      exact fun _ _ => ⟨Nat.le_refl _, fun _ _ => rfl⟩
    rintro p ⟨p1, p2, p3⟩
    have hlow := p3.low
    simp only [push_cast, ↓branch_true, ↓branch_false, Nat.reduceBEq, Nat.reduceAdd, Nat.reduceMul, Nat.reduceSub, Int.reduceToNat, reduceCtorEq, branch_decide, branch_not, branch_beq, branch_bne, hcl]
    have f1 : a + (p - a) = p := by omega
    have f2 : a + (((p - a : Nat) : Int) - 1).toNat = p - 1 := by omega
    rw [f1, f2, p3.old p (by omega), p3.old (p - 1) (by omega)]
    refine ⟨fun h3 => ?_, fun h3 => ?_⟩
    · have hp : p < l.length := by omega
      have hst := conOk_step p3 (by omega) hp
      have i5 : ((p + 1 - a : Nat) : Int) = ((p - a : Nat) : Int) + 1 := by omega
      refine ⟨by omega, by omega, by omega, by omega, by omega, ⟨by omega, by omega, by omega, by omega, ?_⟩, ⟨by omega, by omega, by omega, by omega, ?_⟩⟩
      all_goals
        refine ⟨fun h4 => ?_, fun h4 => ?_⟩
        · have g1 : cmpT l (p + 1) = cmpT l p := if_neg (by rintro (h | h); omega; exact h h4)
          have g2 : conT l a (p + 1) = conT l a p := if_neg (fun h => h.2 h4)
          repeat (with_reducible refine And.intro (by omega) ?_)
          refine lpK_normal (p + 1) [0] ⟨by omega, by omega, hst⟩ (by omega) (by kernel_rfl) ?_ ?_
          · simp only [push_cast, ↓branch_true, ↓branch_false, Nat.reduceBEq, Nat.reduceAdd, Nat.reduceMul, Nat.reduceSub, Int.reduceToNat, reduceCtorEq, branch_decide, branch_not, branch_beq, branch_bne, g1, i5]
          · simp only [push_cast, ↓branch_true, ↓branch_false, Nat.reduceBEq, Nat.reduceAdd, Nat.reduceMul, Nat.reduceSub, Int.reduceToNat, reduceCtorEq, branch_decide, branch_not, branch_beq, branch_bne, g2, hcl]
        · have g1 : cmpT l (p + 1) = cmpT l p ++ [ix l p] := if_pos (.inr h4)
          have g2 : conT l a (p + 1) = (conT l a p).set (cmpT l p).length (ix l p) := if_pos ⟨by omega, h4⟩
          repeat (with_reducible refine And.intro (by omega) ?_)
          repeat' (with_reducible (first | apply And.intro | intro _))
          all_goals try omega
          all_goals
            refine lpK_normal (p + 1) [0] ⟨by omega, by omega, hst⟩ (by omega) (by kernel_rfl) ?_ ?_
            · simp only [push_cast, ↓branch_true, ↓branch_false, Nat.reduceBEq, Nat.reduceAdd, Nat.reduceMul, Nat.reduceSub, Int.reduceToNat, reduceCtorEq, branch_decide, branch_not, branch_beq, branch_bne, g1, List.length_append, i5]
            · simp only [push_cast, ↓branch_true, ↓branch_false, Nat.reduceBEq, Nat.reduceAdd, Nat.reduceMul, Nat.reduceSub, Int.reduceToNat, reduceCtorEq, branch_decide, branch_not, branch_beq, branch_bne, g2, hcl, List.length_set]
              exact fun i hi k _ => set_up (by rw [hcl]; omega) hi
    · obtain rfl : p = l.length := by omega
      repeat (with_reducible refine And.intro (by omega) ?_)
      refine ⟨_, _, [0], ?_, by kernel_rfl, ?_, rfl, rfl⟩
      · simp only [push_cast, ↓branch_true, ↓branch_false, Nat.reduceBEq, Nat.reduceAdd, Nat.reduceMul, Nat.reduceSub, Int.reduceToNat, reduceCtorEq, branch_decide, branch_not, branch_beq, branch_bne, cmpL]
        exact ⟨by omega, by omega⟩
      · simp only [push_cast, ↓branch_true, ↓branch_false, Nat.reduceBEq, Nat.reduceAdd, Nat.reduceMul, Nat.reduceSub, Int.reduceToNat, reduceCtorEq, branch_decide, branch_not, branch_beq, branch_bne, cmpL]
        refine fun i hi => ⟨by omega, fun k hk => ?_⟩
        have hb : (decide ((cmpT l l.length).length ≤ k) && decide (k < (cmpT l l.length).length + (l.length - (cmpT l l.length).length))) = false := by simp; omega
        rw [hb, Bool.and_false, p3.out k hk]
        exact ⟨rfl, trivial⟩
theorem cmpT_le (l : List Int) : (cmpL l).length ≤ l.length := cmpT_len l l.length
end Go.Proofs.Ytmmabnoemckdiaa
