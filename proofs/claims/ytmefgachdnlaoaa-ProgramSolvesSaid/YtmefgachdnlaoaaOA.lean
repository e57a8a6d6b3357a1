/- Contract of package ratio: Add. -/
import Derived.Test.YtmefgachdnlaoaaO
set_option maxRecDepth 100000
set_option linter.unusedSimpArgs false
set_option linter.unusedVariables false
namespace Go.Proofs.Ytmefgachdnlaoaa
open Go.RowKit Lp
theorem agg_two {P : Program} {t : TypeId} (k : IntKind) (f0 f1 : Field) (h1 : P.eqGuardType P.depth t = false) (h2 : P.underlying t = some (.struct (P.fieldsOf t))) (h3 : P.stoodInHeld t = false)
    (h4 : (P.fieldsOf t).toList = [f0, f1]) (n0 : (f0.name == "_") = false) (n1 : (f1.name == "_") = false) (o0 : f0.offset = 0) (o1 : f1.offset = 1) (t0 : P.underlying f0.type = some (.int k)) (t1 : P.underlying f1.type = some (.int k)) (c0 : P.cellsOf f0.type = 1) (c1 : P.cellsOf f1.type = 1)
    (a b c d : Int) : AggEq P t [.int k a, .int k b] [.int k c, .int k d] := by
  intro op x y w
  refine ⟨run_eqGuard_agg w op t x y _ _ h1, ?_⟩
  simp only [Op.equal, Op.maxDepth]
  rw [run_equalIn_agg w 9999 t _ _ h2 h3, h4]
  have n0 : f0.name ≠ "_" := by simpa using n0
  have n1 : f1.name ≠ "_" := by simpa using n1
  simp only [Op.eqFields, n0, n1, ne_eq, not_false_eq_true, if_true, Sem.run_bind, o0, o1]
  have p : ∀ (f : TypeId) (xs : Array Value) (off : Nat) (v : Value), P.underlying f = some (.int k) → xs[off]? = some v → (part f xs off).run P w = .ok v w := fun f xs off v hu hx => by
    simp [part, isAgg, Sem.run_bind, run_underlying hu, hx, Result.andThen, Sem.run_pure]
  rw [p _ _ _ (.int k a) t0 rfl]
  simp only [Result.andThen_ok]
  rw [p _ _ _ (.int k c) t0 rfl]
  simp only [Result.andThen_ok, run_equalIn_int w 9998 _ _ _ a c t0]
  by_cases e : a = c
  · subst e
    simp only [beq_self_eq_true, Bool.not_true, Bool.false_eq_true, if_false, Sem.run_bind]
    rw [p _ _ _ (.int k b) t1 rfl]
    simp only [Result.andThen_ok]
    rw [p _ _ _ (.int k d) t1 rfl]
    simp only [Result.andThen_ok, run_equalIn_int w 9998 _ _ _ b d t1]
    by_cases e : b = d
    · subst e
      simp [Sem.run_pure, eqLB]
    · have : (b == d) = false := by simpa using e
      simp [Sem.run_pure, eqLB, this]
  · have : (a == c) = false := by simpa using e
    simp [Sem.run_pure, eqLB, this]
theorem agg96 (a b c d : Int) : AggEq Try.prog 96 [.int .u64 a, .int .u64 b] [.int .u64 c, .int .u64 d] :=
  agg_two .u64 (Try.prog.fieldsOf 96)[0]! (Try.prog.fieldsOf 96)[1]! (by kernel_rfl) (by kernel_rfl) (by kernel_rfl) (by kernel_rfl) (by kernel_rfl) (by kernel_rfl) (by kernel_rfl) (by kernel_rfl) (by kernel_rfl) (by kernel_rfl) (by kernel_rfl) (by kernel_rfl) a b c d
theorem agg27 (a b c d : Int) : AggEq Try.prog 27 [.int .i64 a, .int .i64 b] [.int .i64 c, .int .i64 d] :=
  agg_two .i64 (Try.prog.fieldsOf 27)[0]! (Try.prog.fieldsOf 27)[1]! (by kernel_rfl) (by kernel_rfl) (by kernel_rfl) (by kernel_rfl) (by kernel_rfl) (by kernel_rfl) (by kernel_rfl) (by kernel_rfl) (by kernel_rfl) (by kernel_rfl) (by kernel_rfl) (by kernel_rfl) a b c d
/-- The size of a sum's numerator, by the sizes of its parts. -/
theorem addT_size (an bn : Int) (ad bd : Nat) : ((decide (an < 0) == decide (bn < 0)) = true → (addT an bn ad bd).natAbs = an.natAbs * (bd / Nat.gcd ad bd) + bn.natAbs * (ad / Nat.gcd ad bd) ∧ (0 < (addT an bn ad bd).natAbs → (decide (addT an bn ad bd < 0) = decide (an < 0)))) ∧
    ((decide (an < 0) == decide (bn < 0)) = false → (an.natAbs * (bd / Nat.gcd ad bd) < bn.natAbs * (ad / Nat.gcd ad bd) → (addT an bn ad bd).natAbs = bn.natAbs * (ad / Nat.gcd ad bd) - an.natAbs * (bd / Nat.gcd ad bd) ∧ decide (addT an bn ad bd < 0) = !decide (an < 0)) ∧
      (¬ an.natAbs * (bd / Nat.gcd ad bd) < bn.natAbs * (ad / Nat.gcd ad bd) → (addT an bn ad bd).natAbs = an.natAbs * (bd / Nat.gcd ad bd) - bn.natAbs * (ad / Nat.gcd ad bd) ∧ (0 < (addT an bn ad bd).natAbs → decide (addT an bn ad bd < 0) = decide (an < 0)))) := by
  unfold addT
  generalize bd / Nat.gcd ad bd = Q
  generalize ad / Nat.gcd ad bd = P
  have e1 : ∀ (a : Int) (q : Nat), a < 0 → a * (q : Int) = -((a.natAbs * q : Nat) : Int) := fun a q h => by
    rw [Int.natCast_mul, show ((a.natAbs : Nat) : Int) = -a by omega, Int.neg_mul, Int.neg_neg]
  have e2 : ∀ (a : Int) (q : Nat), ¬ a < 0 → a * (q : Int) = ((a.natAbs * q : Nat) : Int) := fun a q h => by
    rw [Int.natCast_mul, show ((a.natAbs : Nat) : Int) = a by omega]
  by_cases h1 : an < 0 <;> by_cases h2 : bn < 0
  · rw [e1 an Q h1, e1 bn P h2]
    generalize an.natAbs * Q = X
    generalize bn.natAbs * P = Y
    simp only [h1, h2, decide_true, beq_self_eq_true, true_imp_iff, Bool.true_eq_false, false_imp_iff, and_true]
    exact ⟨by omega, fun h => by simp; omega⟩
  · rw [e1 an Q h1, e2 bn P h2]
    generalize an.natAbs * Q = X
    generalize bn.natAbs * P = Y
    simp only [h1, h2, decide_true, decide_false, show (true == false) = false from rfl, true_imp_iff, Bool.false_eq_true, false_imp_iff, true_and, Bool.not_true, decide_eq_false_iff_not, decide_eq_true_eq]
    exact ⟨fun h => by omega, fun h => by omega⟩
  · rw [e2 an Q h1, e1 bn P h2]
    generalize an.natAbs * Q = X
    generalize bn.natAbs * P = Y
    simp only [h1, h2, decide_true, decide_false, show (false == true) = false from rfl, true_imp_iff, Bool.false_eq_true, false_imp_iff, true_and, Bool.not_false, decide_eq_false_iff_not, decide_eq_true_eq]
    exact ⟨fun h => by omega, fun h => by omega⟩
  · rw [e2 an Q h1, e2 bn P h2]
    generalize an.natAbs * Q = X
    generalize bn.natAbs * P = Y
    simp only [h1, h2, decide_false, beq_self_eq_true, true_imp_iff, Bool.true_eq_false, false_imp_iff, and_true]
    exact ⟨by omega, fun h => by simp; omega⟩
end Go.Proofs.Ytmefgachdnlaoaa
