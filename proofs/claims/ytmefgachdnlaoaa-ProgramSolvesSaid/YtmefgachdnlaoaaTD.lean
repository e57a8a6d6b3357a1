/- Contract: Refutes. -/
import Derived.Test.YtmefgachdnlaoaaTC
set_option maxRecDepth 100000
set_option linter.unusedSimpArgs false
set_option linter.unusedVariables false
namespace Go.Proofs.Ytmefgachdnlaoaa
open Go.RowKit Lp
theorem AllR.res {S : Nat → Option (Int × Nat)} {ok : Nat → Int × Nat → Bool} {m : Nat} {b0 b : Bool} {e e' : Int} (h : AllR S ok m b0 e b e') :
    ((∀ t, t < m → S t ≠ Option.none) → e' = e ∧ b = (b0 && decide (∀ t, t < m → okO (ok t) (S t) = true))) ∧ ((¬ ∀ t, t < m → S t ≠ Option.none) → e' = 5) := by
  rcases h with ⟨h1, h2, h3⟩ | ⟨⟨t, h1, h2⟩, h3⟩
  · exact ⟨fun _ => ⟨h2, h3⟩, fun h => absurd h1 h⟩
  · exact ⟨fun h => absurd h2 (h t h1), fun _ => h3⟩
theorem td_ne : TD.int IntKind.i64 ≠ TD.other := nofun
def errQ (c : Bool) : Int := bif c then 0 else 5
/-- All sums of multipliers are small enough. -/
def yAll (p : Pm) (N : Nat → Int) (D : Nat → Nat) : Bool := decide (∀ j, j < p.n → colS p N D j ≠ none) && (ofS p.b N D p.m).isSome
def refB (p : Pm) (N : Nat → Int) (D : Nat → Nat) : Bool := decide (∀ j, j < p.n → okO (cOk (fun _ => 0) j) (colS p N D j) = true) && (okO (fun s => decide (0 < s.1)) (ofS p.b N D p.m) && sgB p N)
theorem vF_cast {n d : Int} (h : vF n d = true) : d = (d.toNat : Nat) ∧ Frc n d.toNat := by
  obtain ⟨D, rfl, h2⟩ := fr_of h
  exact ⟨by omega, by rwa [Int.toNat_natCast]⟩
inductive RefR (p : Pm) (n : Nat) (N D : Nat → Int) : Bool → Int → Prop
  | arg (h : vPm p = false ∨ rgt n N D = false) : RefR p n N D false 1
  | size (hv : vPm p = true) (hr : rgt n N D = true) (h : n ≠ p.m) : RefR p n N D false 3
  | ok (hv : vPm p = true) (hr : rgt n N D = true) (h : n = p.m) : RefR p n N D (yAll p N (fun k => (D k).toNat) && refB p N (fun k => (D k).toNat)) (errQ (yAll p N fun k => (D k).toNat))
set_option maxHeartbeats 8000000 in
theorem refutes_sp (p : Pm) (hin : vPm p = true → PmOk p) (hl : ∀ t, t < p.m → p.ln t ≤ 1000000) (hn : p.n ≤ 1000000) (hm : p.m ≤ 1000000) (n cap : Nat) (N D : Nat → Int) (hnn : n ≤ 1000000) (hb : ∀ k, k < n → (-9223372036854775808 ≤ N k ∧ N k ≤ 9223372036854775807) ∧ -9223372036854775808 ≤ D k ∧ D k ≤ 9223372036854775807) :
    Sp Try.prog 15 [svP p, .s 3 0 0 n cap 2] (obP p ++ [rFi n cap N D]) (fun r H => ∃ b e, r = .t [.v (.bool b), .v (.int .i64 e)] ∧ RefR p n N D b e ∧ H = obP p ++ [rFi n cap N D]) := by
  have hva := valid_pu p hl hn hm
  have hri := right_pu n cap N D hnn hb
  refine sp_weak ?_
  refine sp_of_ex true [] mixed Try.call15 Try.func15 rfl Try.ntmps15 Try.results15 (by decide +kernel) rfl ?_
  simp only [push_cast, ↓branch_true, ↓branch_false, Nat.reduceBEq, Nat.reduceAdd, Nat.reduceMul, Nat.reduceSub, Int.reduceToNat, reduceCtorEq, Int.reduceAdd, Int.reduceEq, Int.reduceLE, Int.reduceLT, Nat.reduceLT, Nat.reduceLeDiff]
  refine sp_c hva rfl [0, 1, 2] ?_
  simp only [push_cast, ↓branch_true, ↓branch_false, Nat.reduceBEq, Nat.reduceAdd, Nat.reduceMul, Nat.reduceSub, Int.reduceToNat, reduceCtorEq, Int.reduceAdd, Int.reduceEq, Int.reduceLE, Int.reduceLT, Nat.reduceLT, Nat.reduceLeDiff]
  simp only [branch]
  cases hv : vPm p with
  | false =>
    simp only [push_cast, ↓branch_true, ↓branch_false, Nat.reduceBEq, Nat.reduceAdd, Nat.reduceMul, Nat.reduceSub, Int.reduceToNat, reduceCtorEq, Int.reduceAdd, Int.reduceEq, Int.reduceLE, Int.reduceLT, Nat.reduceLT, Nat.reduceLeDiff]
    refine ⟨_, _, [0, 1, 2, 3], ?_, by kernel_rfl, ?_, _, _, rfl, .arg (.inl hv), rfl⟩
    · simp only [push_cast, ↓branch_true, ↓branch_false, Nat.reduceBEq, Nat.reduceAdd, Nat.reduceMul, Nat.reduceSub, Int.reduceToNat, reduceCtorEq, Int.reduceAdd, Int.reduceEq, Int.reduceLE, Int.reduceLT, Nat.reduceLT, Nat.reduceLeDiff]
    · simp only [push_cast, ↓branch_true, ↓branch_false, Nat.reduceBEq, Nat.reduceAdd, Nat.reduceMul, Nat.reduceSub, Int.reduceToNat, reduceCtorEq, Int.reduceAdd, Int.reduceEq, Int.reduceLE, Int.reduceLT, Nat.reduceLT, Nat.reduceLeDiff]
  | true =>
  have hp := hin hv
  simp only [push_cast, ↓branch_true, ↓branch_false, Nat.reduceBEq, Nat.reduceAdd, Nat.reduceMul, Nat.reduceSub, Int.reduceToNat, reduceCtorEq, Int.reduceAdd, Int.reduceEq, Int.reduceLE, Int.reduceLT, Nat.reduceLT, Nat.reduceLeDiff]
  refine sp_c hri rfl [3] ?_
  simp only [push_cast, ↓branch_true, ↓branch_false, Nat.reduceBEq, Nat.reduceAdd, Nat.reduceMul, Nat.reduceSub, Int.reduceToNat, reduceCtorEq, Int.reduceAdd, Int.reduceEq, Int.reduceLE, Int.reduceLT, Nat.reduceLT, Nat.reduceLeDiff]
  cases hr : rgt n N D with
  | false =>
    simp only [push_cast, ↓branch_true, ↓branch_false, Nat.reduceBEq, Nat.reduceAdd, Nat.reduceMul, Nat.reduceSub, Int.reduceToNat, reduceCtorEq, Int.reduceAdd, Int.reduceEq, Int.reduceLE, Int.reduceLT, Nat.reduceLT, Nat.reduceLeDiff]
    refine ⟨_, _, [0, 1, 2, 3], ?_, by kernel_rfl, ?_, _, _, rfl, .arg (.inr hr), rfl⟩
    · simp only [push_cast, ↓branch_true, ↓branch_false, Nat.reduceBEq, Nat.reduceAdd, Nat.reduceMul, Nat.reduceSub, Int.reduceToNat, reduceCtorEq, Int.reduceAdd, Int.reduceEq, Int.reduceLE, Int.reduceLT, Nat.reduceLT, Nat.reduceLeDiff]
    · simp only [push_cast, ↓branch_true, ↓branch_false, Nat.reduceBEq, Nat.reduceAdd, Nat.reduceMul, Nat.reduceSub, Int.reduceToNat, reduceCtorEq, Int.reduceAdd, Int.reduceEq, Int.reduceLE, Int.reduceLT, Nat.reduceLT, Nat.reduceLeDiff]
  | true =>
  simp only [push_cast, ↓branch_true, ↓branch_false, Nat.reduceBEq, Nat.reduceAdd, Nat.reduceMul, Nat.reduceSub, Int.reduceToNat, reduceCtorEq, Int.reduceAdd, Int.reduceEq, Int.reduceLE, Int.reduceLT, Nat.reduceLT, Nat.reduceLeDiff]
  refine ⟨fun h1 => ?_, fun h1 => ?_⟩
  rotate_left
  · refine ⟨_, _, [0, 1, 2, 3], ?_, by kernel_rfl, ?_, _, _, rfl, .size hv hr (by omega), rfl⟩
    · simp only [push_cast, ↓branch_true, ↓branch_false, Nat.reduceBEq, Nat.reduceAdd, Nat.reduceMul, Nat.reduceSub, Int.reduceToNat, reduceCtorEq, Int.reduceAdd, Int.reduceEq, Int.reduceLE, Int.reduceLT, Nat.reduceLT, Nat.reduceLeDiff]
    · simp only [push_cast, ↓branch_true, ↓branch_false, Nat.reduceBEq, Nat.reduceAdd, Nat.reduceMul, Nat.reduceSub, Int.reduceToNat, reduceCtorEq, Int.reduceAdd, Int.reduceEq, Int.reduceLE, Int.reduceLT, Nat.reduceLT, Nat.reduceLeDiff]
  obtain rfl : n = p.m := by omega
  have hcast : ∀ k, k < p.m → D k = ((D k).toNat : Nat) ∧ Frc (N k) (D k).toNat := fun k hk => vF_cast (by unfold rgt at hr; exact of_decide_eq_true hr k hk)
  have hk0 := RefR.ok hv hr rfl
  obtain ⟨D', hD'⟩ : ∃ D' : Nat → Nat, D' = fun k => (D k).toNat := ⟨_, rfl⟩
  rw [← hD'] at hk0
  have hcast : ∀ k, k < p.m → D k = (D' k : Nat) ∧ Frc (N k) (D' k) := by rw [hD']; exact hcast
  clear hD'
  refine sp_at (below0_sp p hp cap N D' 0 (fun k hk => (hcast k hk).2) (fun _ => 0) (fun _ _ => by decide) (fun _ => rfl)) [0, 1, 2, 5, 3] (by kernel_rfl) ?_ ?_ ?_
  · simp only [push_cast, ↓branch_true, ↓branch_false, Nat.reduceBEq, Nat.reduceAdd, Nat.reduceMul, Nat.reduceSub, Int.reduceToNat, reduceCtorEq, Int.reduceAdd, Int.reduceEq, Int.reduceLE, Int.reduceLT, Nat.reduceLT, Nat.reduceLeDiff]
  · simp only [push_cast, ↓branch_true, ↓branch_false, Nat.reduceBEq, Nat.reduceAdd, Nat.reduceMul, Nat.reduceSub, Int.reduceToNat, reduceCtorEq, Int.reduceAdd, Int.reduceEq, Int.reduceLE, Int.reduceLT, Nat.reduceLT, Nat.reduceLeDiff]
    exact fun _ _ k hk => congrArg (Value.int .i64) (hcast k hk).1.symm
  rintro _ _ ⟨b1, e1, rfl, hA, rfl⟩
  have hbb := hp.b
  obtain ⟨hA1, hA2⟩ := hA.res
  simp only [push_cast, ↓branch_true, ↓branch_false, Nat.reduceBEq, Nat.reduceAdd, Nat.reduceMul, Nat.reduceSub, Int.reduceToNat, reduceCtorEq, Int.reduceAdd, Int.reduceEq, Int.reduceLE, Int.reduceLT, Nat.reduceLT, Nat.reduceLeDiff]
  refine sp_at (rights_sp p (by omega) (by omega)) [0, 1, 2] (by kernel_rfl) ?_ ?_ ?_
  · simp only [push_cast, ↓branch_true, ↓branch_false, Nat.reduceBEq, Nat.reduceAdd, Nat.reduceMul, Nat.reduceSub, Int.reduceToNat, reduceCtorEq, Int.reduceAdd, Int.reduceEq, Int.reduceLE, Int.reduceLT, Nat.reduceLT, Nat.reduceLeDiff]
  · simp only [push_cast, ↓branch_true, ↓branch_false, Nat.reduceBEq, Nat.reduceAdd, Nat.reduceMul, Nat.reduceSub, Int.reduceToNat, reduceCtorEq, Int.reduceAdd, Int.reduceEq, Int.reduceLE, Int.reduceLT, Nat.reduceLT, Nat.reduceLeDiff]
  rintro _ _ ⟨cb, hcb, rfl, rfl⟩
  simp only [push_cast, ↓branch_true, ↓branch_false, Nat.reduceBEq, Nat.reduceAdd, Nat.reduceMul, Nat.reduceSub, Int.reduceToNat, reduceCtorEq, Int.reduceAdd, Int.reduceEq, Int.reduceLE, Int.reduceLT, Nat.reduceLT, Nat.reduceLeDiff]
  refine sp_at (of_sp 1 0 (fun _ => p.m) (fun _ => cb) (fun _ => p.b) p.m cap N D' e1 (by decide) (by show p.m ≤ p.m; omega) (by omega) (fun t ht => by have := hbb t ht; omega) fun k hk => (hcast k hk).2) [5, 6, 3] (by kernel_rfl) ?_ ?_ ?_
  · simp only [push_cast, ↓branch_true, ↓branch_false, Nat.reduceBEq, Nat.reduceAdd, Nat.reduceMul, Nat.reduceSub, Int.reduceToNat, reduceCtorEq, Int.reduceAdd, Int.reduceEq, Int.reduceLE, Int.reduceLT, Nat.reduceLT, Nat.reduceLeDiff]
  · simp only [push_cast, ↓branch_true, ↓branch_false, Nat.reduceBEq, Nat.reduceAdd, Nat.reduceMul, Nat.reduceSub, Int.reduceToNat, reduceCtorEq, Int.reduceAdd, Int.reduceEq, Int.reduceLE, Int.reduceLT, Nat.reduceLT, Nat.reduceLeDiff]
  rintro r0 _ ⟨e2, hR, rfl⟩
  have hsg := signed2_pu p cap N D' (by omega)
  have hy : yAll p N D' = (decide (∀ j, j < p.n → colS p N D' j ≠ none) && (ofS p.b N D' p.m).isSome) := rfl
  have hre : refB p N D' = (decide (∀ j, j < p.n → okO (cOk (fun _ => 0) j) (colS p N D' j) = true) && (okO (fun s => decide (0 < s.1)) (ofS p.b N D' p.m) && sgB p N)) := rfl
  have hal : (∀ j, j < p.n → colS p N D' j ≠ none) → decide (∀ j, j < p.n → colS p N D' j ≠ none) = true := decide_eq_true
  have hnal : (¬ ∀ j, j < p.n → colS p N D' j ≠ none) → decide (∀ j, j < p.n → colS p N D' j ≠ none) = false := decide_eq_false
  generalize decide (∀ j, j < p.n → okO (cOk (fun _ => 0) j) (colS p N D' j) = true) = B1 at *
  generalize sgB p N = B2 at *
  generalize yAll p N D' = Y at *
  generalize refB p N D' = R at *
  change OfR (ofS p.b N D' p.m) e1 _ e2 at hR
  obtain ⟨fn, fd, hr1, hcase⟩ : ∃ (fn : Int) (fd : Nat), r0 = frV fn fd ∧ ((Y = true ∧ e2 = 0 ∧ R = (b1 && (decide (0 < fn) && B2))) ∨ (Y = false ∧ e2 = 5)) := by
    by_cases hall : ∀ j, j < p.n → colS p N D' j ≠ none
    · obtain ⟨q1, q2⟩ := hA1 hall
      rw [hal hall] at hy
      cases hs : ofS p.b N D' p.m with
      | none =>
        rw [hs] at hR hy hre
        exact ⟨0, 1, hR.1, .inr ⟨hy, hR.2⟩⟩
      | some s =>
        rw [hs] at hR hy hre
        exact ⟨s.1, s.2, hR.1, .inl ⟨hy, by rw [hR.2.1]; exact q1, by rw [hre, q2, Bool.true_and]; rfl⟩⟩
    · have q1 := hA2 hall
      rw [hnal hall] at hy
      cases hs : ofS p.b N D' p.m with
      | none =>
        rw [hs] at hR hy hre
        exact ⟨0, 1, hR.1, .inr ⟨hy, hR.2⟩⟩
      | some s =>
        rw [hs] at hR hy hre
        exact ⟨s.1, s.2, hR.1, .inr ⟨hy, by rw [hR.2.1]; exact q1⟩⟩
  subst hr1
  simp only [push_cast, ↓branch_true, ↓branch_false, Nat.reduceBEq, Nat.reduceAdd, Nat.reduceMul, Nat.reduceSub, Int.reduceToNat, reduceCtorEq, Int.reduceAdd, Int.reduceEq, Int.reduceLE, Int.reduceLT, Nat.reduceLT, Nat.reduceLeDiff]
  repeat' (first
    | (with_reducible apply And.intro)
    | (with_reducible intro _)
    | exact td_ne
    | (refine sp_c hsg rfl [0, 1, 2, 3] ?_
       simp only [push_cast, ↓branch_true, ↓branch_false, Nat.reduceBEq, Nat.reduceAdd, Nat.reduceMul, Nat.reduceSub, Int.reduceToNat, reduceCtorEq, Int.reduceAdd, Int.reduceEq, Int.reduceLE, Int.reduceLT, Nat.reduceLT, Nat.reduceLeDiff]
       simp only [branch]
       ))
  all_goals
    refine ⟨_, _, [0, 1, 2, 3], ?_, by kernel_rfl, ?_, _, _, rfl, hk0, rfl⟩
    · simp only [push_cast, ↓branch_true, ↓branch_false, Nat.reduceBEq, Nat.reduceAdd, Nat.reduceMul, Nat.reduceSub, Int.reduceToNat, reduceCtorEq, Int.reduceAdd, Int.reduceEq, Int.reduceLE, Int.reduceLT, Nat.reduceLT, Nat.reduceLeDiff]
      rcases hcase with ⟨c1, c2, c3⟩ | ⟨c1, c2⟩
      · refine ⟨congrArg Value.bool ?_, congrArg (Value.int .i64) (by rw [c1, c2]; rfl)⟩
        rw [c1, c3]
        simp [*]
      · refine ⟨congrArg Value.bool ?_, congrArg (Value.int .i64) (by rw [c1, c2]; rfl)⟩
        rw [c1]
        try rw [c2]
        rfl
    · simp only [push_cast, ↓branch_true, ↓branch_false, Nat.reduceBEq, Nat.reduceAdd, Nat.reduceMul, Nat.reduceSub, Int.reduceToNat, reduceCtorEq, Int.reduceAdd, Int.reduceEq, Int.reduceLE, Int.reduceLT, Nat.reduceLT, Nat.reduceLeDiff]
      exact fun _ _ k hk => congrArg (Value.int .i64) (hcast k hk).1
end Go.Proofs.Ytmefgachdnlaoaa
