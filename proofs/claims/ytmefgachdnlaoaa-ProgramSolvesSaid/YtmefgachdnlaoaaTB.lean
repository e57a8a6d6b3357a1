/- Contracts: feasible, below. -/
import Derived.Test.YtmefgachdnlaoaaTA
set_option maxRecDepth 100000
set_option linter.unusedSimpArgs false
set_option linter.unusedVariables false
namespace Go.Proofs.Ytmefgachdnlaoaa
open Go.RowKit Lp
def okO (f : Int × Nat → Bool) : Option (Int × Nat) → Bool
  | some s => f s
  | none => true
/-- What a test of some sums says: right, if no sum is too large. -/
def AllR (S : Nat → Option (Int × Nat)) (ok : Nat → Int × Nat → Bool) (m : Nat) (b0 : Bool) (e : Int) (b : Bool) (e' : Int) : Prop :=
  ((∀ t, t < m → S t ≠ none) ∧ e' = e ∧ b = (b0 && decide (∀ t, t < m → okO (ok t) (S t) = true))) ∨ ((∃ t, t < m ∧ S t = none) ∧ e' = 5)
theorem AllR.zero (S : Nat → Option (Int × Nat)) (ok : Nat → Int × Nat → Bool) (b : Bool) (e : Int) : AllR S ok 0 b e b e :=
  .inl ⟨fun t h => absurd h (Nat.not_lt_zero _), rfl, by rw [decide_eq_true fun t h => absurd h (Nat.not_lt_zero _), Bool.and_true]⟩
theorem AllR.some {S : Nat → Option (Int × Nat)} {ok : Nat → Int × Nat → Bool} {m : Nat} {b0 b b' : Bool} {e e' : Int} {s : Int × Nat} (h : AllR S ok m b0 e b e') (hs : S m = some s) (hb : b' = (b && ok m s)) : AllR S ok (m + 1) b0 e b' e' := by
  rcases h with ⟨h1, h2, h3⟩ | ⟨⟨t, h1, h2⟩, h3⟩
  · refine .inl ⟨fun t ht => ?_, h2, ?_⟩
    · by_cases e : t = m
      · rw [e, hs]; exact fun h => by cases h
      · exact h1 t (by omega)
    · rw [hb, h3, Bool.and_assoc]
      congr 1
      rw [Bool.eq_iff_iff, Bool.and_eq_true, decide_eq_true_eq, decide_eq_true_eq]
      constructor
      · rintro ⟨h4, h5⟩ t ht
        by_cases e : t = m
        · rw [e, hs]; exact h5
        · exact h4 t (by omega)
      · intro h4
        refine ⟨fun t ht => h4 t (by omega), ?_⟩
        have := h4 m (by omega)
        rw [hs] at this
        exact this
  · exact .inr ⟨⟨t, by omega, h2⟩, h3⟩
theorem AllR.none {S : Nat → Option (Int × Nat)} {ok : Nat → Int × Nat → Bool} {m : Nat} {b0 b : Bool} {e : Int} (hs : S m = none) : AllR S ok (m + 1) b0 e b 5 := .inr ⟨⟨m, by omega, hs⟩, rfl⟩
theorem of_step {S : Nat → Option (Int × Nat)} {ok : Nat → Int × Nat → Bool} {m : Nat} {b0 b : Bool} {e e1 e2 : Int} {r : SV} (h : AllR S ok m b0 e b e1) (hR : OfR (S m) e1 r e2) :
    ∃ (fn : Int) (fd : Nat), Frc fn fd ∧ r = frV fn (fd : Nat) ∧ ∀ b', b' = (b && ok m (fn, fd)) → AllR S ok (m + 1) b0 e b' e2 := by
  cases hs : S m with
  | none =>
    rw [hs] at hR
    obtain ⟨h1, h2⟩ := hR
    refine ⟨0, 1, frc_one (by decide), h1, fun b' _ => ?_⟩
    rw [h2]
    exact AllR.none hs
  | some s =>
    rw [hs] at hR
    obtain ⟨h1, h2, h3⟩ := hR
    refine ⟨s.1, s.2, h3, h1, fun b' hb => ?_⟩
    rw [h2]
    exact AllR.some h hs hb
/-- The sum of a row. -/
def rowS (p : Pm) (N : Nat → Int) (D : Nat → Nat) (t : Nat) : Option (Int × Nat) := ofS (p.a t) N D p.n
def rOk (p : Pm) (t : Nat) (s : Int × Nat) : Bool := (decide (p.kd t ≠ 1) || decide (s.1 ≤ p.b t * (s.2 : Nat))) && ((decide (p.kd t ≠ 2) || decide (p.b t * (s.2 : Nat) ≤ s.1)) && (decide (p.kd t ≠ 3) || decide (s.1 = p.b t * (s.2 : Nat))))
def nnB (n : Nat) (N : Nat → Int) : Bool := decide (∀ k, k < n → 0 ≤ N k)
theorem rOk_cmp (p : Pm) (t : Nat) (s : Int × Nat) (c : Int) (h : c = cmpS s.1 (p.b t * (s.2 : Nat))) : rOk p t s = ((decide (p.kd t ≠ 1) || decide (c ≤ 0)) && ((decide (p.kd t ≠ 2) || decide (0 ≤ c)) && (decide (p.kd t ≠ 3) || decide (c = 0)))) := by
  unfold rOk
  rw [h]
  have h1 : decide (s.1 ≤ p.b t * (s.2 : Nat)) = decide (cmpS s.1 (p.b t * (s.2 : Nat)) ≤ 0) := by
    rw [decide_eq_decide]; unfold cmpS; (repeat' split) <;> omega
  have h2 : decide (p.b t * (s.2 : Nat) ≤ s.1) = decide (0 ≤ cmpS s.1 (p.b t * (s.2 : Nat))) := by
    rw [decide_eq_decide]; unfold cmpS; (repeat' split) <;> omega
  have h3 : decide (s.1 = p.b t * (s.2 : Nat)) = decide (cmpS s.1 (p.b t * (s.2 : Nat)) = 0) := by
    rw [decide_eq_decide]; unfold cmpS; (repeat' split) <;> omega
  rw [h1, h2, h3]
set_option maxHeartbeats 8000000 in
theorem feasible_sp (p : Pm) (hp : PmOk p) (cap : Nat) (N : Nat → Int) (D : Nat → Nat) (e : Int) (hf : ∀ k, k < p.n → Frc (N k) (D k)) :
    Sp Try.prog 47 [.p 3 0 0, svP p, .s 4 0 0 p.n cap 2] (obP p ++ [oEr e, rFx p.n cap N D]) (fun r H => ∃ b e', r = .v (.bool b) ∧ AllR (rowS p N D) (rOk p) p.m (nnB p.n N) e b e' ∧ H = obP p ++ [oEr e', rFx p.n cap N D]) := by
  have hn := hp.n
  have hm := hp.m
  have hmc := hp.mc
  have hfz := p.fzm
  have hcn := containsQ_pu p.n cap N (fun k => (D k : Nat)) 97 [] [] [] (fun k => decide (N k < 0)) rfl (by omega) fun k hk => pu_at (neg_pu (N k) (D k : Nat)) rfl [] rfl (by (simp only [push_cast, ↓branch_true, ↓branch_false, Nat.reduceBEq, Nat.reduceAdd, Nat.reduceMul, Nat.reduceSub, Int.reduceToNat, reduceCtorEq, Int.reduceAdd, Int.reduceEq, Int.reduceLE, Int.reduceLT, Nat.reduceLT, Nat.reduceLeDiff])) (by (simp only [push_cast, ↓branch_true, ↓branch_false, Nat.reduceBEq, Nat.reduceAdd, Nat.reduceMul, Nat.reduceSub, Int.reduceToNat, reduceCtorEq, Int.reduceAdd, Int.reduceEq, Int.reduceLE, Int.reduceLT, Nat.reduceLT, Nat.reduceLeDiff]))
  have hnn : nnB p.n N = !decide (0 ≤ ent (fun k => decide (N k < 0)) p.n) := by
    rw [ent_all, Bool.not_not]
    unfold nnB
    rw [decide_eq_decide]
    exact ⟨fun h k hk => by have := h k hk; simpa using this, fun h k hk => by have := h k hk; simpa using this⟩
  generalize ent (fun k => decide (N k < 0)) p.n = E at *
  refine sp_weak ?_
  refine sp_of_ex true [(5, .pre [6] [0, 1, 2, 3, 5, 6] (.one 4 (.one 7 (.one 8 .fin))))] mixed Try.call47 Try.func47 rfl Try.ntmps47 Try.results47 (by decide +kernel) rfl ?_
  simp only [push_cast, ↓branch_true, ↓branch_false, Nat.reduceBEq, Nat.reduceAdd, Nat.reduceMul, Nat.reduceSub, Int.reduceToNat, reduceCtorEq, Int.reduceAdd, Int.reduceEq, Int.reduceLE, Int.reduceLT, Nat.reduceLT, Nat.reduceLeDiff]
  refine sp_c (hcn) rfl [4] ?_
  simp only [push_cast, ↓branch_true, ↓branch_false, Nat.reduceBEq, Nat.reduceAdd, Nat.reduceMul, Nat.reduceSub, Int.reduceToNat, reduceCtorEq, Int.reduceAdd, Int.reduceEq, Int.reduceLE, Int.reduceLT, Nat.reduceLT, Nat.reduceLeDiff]
  rw [← hnn]
  refine tr_loop mixed (by kernel_rfl) (fun (x : Nat × Bool × Int) => [(17, .v (.int .i64 x.1)), (16, .v (.int .i64 p.m)), (15, .s 1 0 0 p.m p.mc 3), (7, .v (.bool x.2.1)), (2, .s 4 0 0 p.n cap 2), (0, .p 3 0 0)])
    (fun x => obP p ++ [oEr x.2.2, rFx p.n cap N D, oBx p]) (fun x => x.1 ≤ p.m ∧ AllR (rowS p N D) (rOk p) x.1 (nnB p.n N) e x.2.1 x.2.2) (fun x => p.m - x.1) (0, nnB p.n N, e) ⟨Nat.zero_le _, AllR.zero _ _ _ _⟩ (Mt.wk (rl := [0, 1, 2, 3, 4, 5]) ⟨by kernel_rfl, ?_, ?_⟩) ?_
  · simp only [push_cast, ↓branch_true, ↓branch_false, Nat.reduceBEq, Nat.reduceAdd, Nat.reduceMul, Nat.reduceSub, Int.reduceToNat, reduceCtorEq, Int.reduceAdd, Int.reduceEq, Int.reduceLE, Int.reduceLT, Nat.reduceLT, Nat.reduceLeDiff]
    try trivial
  · simp only [push_cast, ↓branch_true, ↓branch_false, Nat.reduceBEq, Nat.reduceAdd, Nat.reduceMul, Nat.reduceSub, Int.reduceToNat, reduceCtorEq, Int.reduceAdd, Int.reduceEq, Int.reduceLE, Int.reduceLT, Nat.reduceLT, Nat.reduceLeDiff]
  rintro ⟨t, b, e1⟩ ⟨h1, h2⟩
  simp only at h1 h2
  simp only [push_cast, ↓branch_true, ↓branch_false, Nat.reduceBEq, Nat.reduceAdd, Nat.reduceMul, Nat.reduceSub, Int.reduceToNat, reduceCtorEq, Int.reduceAdd, Int.reduceEq, Int.reduceLE, Int.reduceLT, Nat.reduceLT, Nat.reduceLeDiff]
  refine ⟨fun h3 => ?_, fun h3 => ?_⟩
  · have htm : t < p.m := by omega
    have hln := hp.ln t htm
    have hof := of_sp p.fz t p.ln p.cp p.a p.n cap N D e1 (by omega) (by omega) (by omega) (fun k hk => by have := hp.a t k htm (by omega); omega) hf
    repeat (with_reducible refine And.intro (by omega) ?_)
    refine sp_at hof [3, 2, 4] (by kernel_rfl) ?_ ?_ ?_
    · simp only [push_cast, ↓branch_true, ↓branch_false, Nat.reduceBEq, Nat.reduceAdd, Nat.reduceMul, Nat.reduceSub, Int.reduceToNat, reduceCtorEq, Int.reduceAdd, Int.reduceEq, Int.reduceLE, Int.reduceLT, Nat.reduceLT, Nat.reduceLeDiff]
    · simp only [push_cast, ↓branch_true, ↓branch_false, Nat.reduceBEq, Nat.reduceAdd, Nat.reduceMul, Nat.reduceSub, Int.reduceToNat, reduceCtorEq, Int.reduceAdd, Int.reduceEq, Int.reduceLE, Int.reduceLT, Nat.reduceLT, Nat.reduceLeDiff]
    rintro r _ ⟨e2, hR, rfl⟩
    rw [hln] at hR
    obtain ⟨fn, fd, hfr, rfl, hst⟩ := of_step h2 hR
    have hbt := hp.b t htm
    have hcm := cmpN_pu (p.b t) hfr (by omega)
    have hrk := rOk_cmp p t (fn, fd) _ rfl
    change rOk p t (fn, fd) = ((decide (p.kd t ≠ 1) || decide (cmpS fn (p.b t * (fd : Nat)) ≤ 0)) && ((decide (p.kd t ≠ 2) || decide (0 ≤ cmpS fn (p.b t * (fd : Nat)))) && (decide (p.kd t ≠ 3) || decide (cmpS fn (p.b t * (fd : Nat)) = 0)))) at hrk
    generalize cmpS fn (p.b t * (fd : Nat)) = c at *
    generalize rOk p t (fn, fd) = R at *
    simp only [push_cast, ↓branch_true, ↓branch_false, Nat.reduceBEq, Nat.reduceAdd, Nat.reduceMul, Nat.reduceSub, Int.reduceToNat, reduceCtorEq, Int.reduceAdd, Int.reduceEq, Int.reduceLE, Int.reduceLT, Nat.reduceLT, Nat.reduceLeDiff]
    refine sp_c hcm rfl [] ?_
    simp only [push_cast, ↓branch_true, ↓branch_false, Nat.reduceBEq, Nat.reduceAdd, Nat.reduceMul, Nat.reduceSub, Int.reduceToNat, reduceCtorEq, Int.reduceAdd, Int.reduceEq, Int.reduceLE, Int.reduceLT, Nat.reduceLT, Nat.reduceLeDiff]
    have hkd := hp.kd t htm
    simp only [branch]
    cases b with
    | false =>
      refine ⟨fun h => absurd h (by decide), fun _ => ?_⟩
      repeat (with_reducible refine And.intro (by omega) ?_)
      refine lpK_normal (t + 1, false, e2) [0, 1, 2, 3, 4, 5] ⟨by simp only; omega, hst _ rfl⟩ (by simp only; omega) (by kernel_rfl) ?_ ?_
      · simp only [push_cast, ↓branch_true, ↓branch_false, Nat.reduceBEq, Nat.reduceAdd, Nat.reduceMul, Nat.reduceSub, Int.reduceToNat, reduceCtorEq, Int.reduceAdd, Int.reduceEq, Int.reduceLE, Int.reduceLT, Nat.reduceLT, Nat.reduceLeDiff]
      · simp only [push_cast, ↓branch_true, ↓branch_false, Nat.reduceBEq, Nat.reduceAdd, Nat.reduceMul, Nat.reduceSub, Int.reduceToNat, reduceCtorEq, Int.reduceAdd, Int.reduceEq, Int.reduceLE, Int.reduceLT, Nat.reduceLT, Nat.reduceLeDiff]
    | true =>
      refine ⟨fun _ => ?_, fun h => absurd h (by decide)⟩
      repeat' (first
        | (with_reducible apply And.intro)
        | (with_reducible intro _)
        | omega)
      all_goals
        refine lpK_normal (t + 1, R, e2) [0, 1, 2, 3, 4, 5] ⟨by simp only; omega, hst _ (by simp)⟩ (by simp only; omega) (by kernel_rfl) ?_ ?_
        · simp only [push_cast, ↓branch_true, ↓branch_false, Nat.reduceBEq, Nat.reduceAdd, Nat.reduceMul, Nat.reduceSub, Int.reduceToNat, reduceCtorEq, Int.reduceAdd, Int.reduceEq, Int.reduceLE, Int.reduceLT, Nat.reduceLT, Nat.reduceLeDiff]
          refine congrArg Value.bool ?_
          rw [hrk, Bool.eq_iff_iff]
          simp only [Bool.and_eq_true, Bool.or_eq_true, decide_eq_true_eq, beq_iff_eq, Bool.false_eq_true, iff_true, iff_false, ne_eq]
          omega
        · simp only [push_cast, ↓branch_true, ↓branch_false, Nat.reduceBEq, Nat.reduceAdd, Nat.reduceMul, Nat.reduceSub, Int.reduceToNat, reduceCtorEq, Int.reduceAdd, Int.reduceEq, Int.reduceLE, Int.reduceLT, Nat.reduceLT, Nat.reduceLeDiff]
  · obtain rfl : t = p.m := by omega
    repeat (with_reducible refine And.intro (by omega) ?_)
    refine ⟨_, _, [0, 1, 2, 3, 4], ?_, by kernel_rfl, ?_, b, e1, rfl, h2, rfl⟩
    · simp only [push_cast, ↓branch_true, ↓branch_false, Nat.reduceBEq, Nat.reduceAdd, Nat.reduceMul, Nat.reduceSub, Int.reduceToNat, reduceCtorEq, Int.reduceAdd, Int.reduceEq, Int.reduceLE, Int.reduceLT, Nat.reduceLT, Nat.reduceLeDiff]
    · simp only [push_cast, ↓branch_true, ↓branch_false, Nat.reduceBEq, Nat.reduceAdd, Nat.reduceMul, Nat.reduceSub, Int.reduceToNat, reduceCtorEq, Int.reduceAdd, Int.reduceEq, Int.reduceLE, Int.reduceLT, Nat.reduceLT, Nat.reduceLeDiff]
end Go.Proofs.Ytmefgachdnlaoaa
