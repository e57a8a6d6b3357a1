/- Contract: Equal of lists of steps. -/
import Derived.Test.YtekokeiajgcfkaaL
set_option maxRecDepth 100000
set_option linter.unusedSimpArgs false
set_option linter.unusedVariables false
namespace Go.Proofs.Ytekokeiajgcfkaa
open Go.RowKit
theorem agg_two {P : Program} {t : TypeId} (f0 f1 : Field) (h1 : P.eqGuardType P.depth t = false) (h2 : P.underlying t = some (.struct (P.fieldsOf t))) (h3 : P.stoodInHeld t = false)
    (h4 : (P.fieldsOf t).toList = [f0, f1]) (n0 : (f0.name == "_") = false) (n1 : (f1.name == "_") = false) (o0 : f0.offset = 0) (o1 : f1.offset = 1) (t0 : P.underlying f0.type = some (.int .i64)) (t1 : P.underlying f1.type = some (.int .i64)) (c0 : P.cellsOf f0.type = 1) (c1 : P.cellsOf f1.type = 1)
    (a b c d : Int) : AggEq P t [.int .i64 a, .int .i64 b] [.int .i64 c, .int .i64 d] := by
  intro op x y w
  refine ⟨run_eqGuard_agg w op t x y _ _ h1, ?_⟩
  simp only [Op.equal, Op.maxDepth]
  rw [run_equalIn_agg w 9999 t _ _ h2 h3, h4]
  have n0 : f0.name ≠ "_" := by simpa using n0
  have n1 : f1.name ≠ "_" := by simpa using n1
  simp only [Op.eqFields, n0, n1, ne_eq, not_false_eq_true, if_true, Sem.run_bind, o0, o1]
  have p : ∀ (f : TypeId) (xs : Array Value) (off : Nat) (v : Value), P.underlying f = some (.int .i64) → xs[off]? = some v → (part f xs off).run P w = .ok v w := fun f xs off v hu hx => by
    simp [part, isAgg, Sem.run_bind, run_underlying hu, hx, Result.andThen, Sem.run_pure]
  rw [p _ _ _ (.int .i64 a) t0 rfl]
  simp only [Result.andThen_ok]
  rw [p _ _ _ (.int .i64 c) t0 rfl]
  simp only [Result.andThen_ok, run_equalIn_int w 9998 _ _ _ a c t0]
  by_cases e : a = c
  · subst e
    simp only [beq_self_eq_true, Bool.not_true, Bool.false_eq_true, if_false, Sem.run_bind]
    rw [p _ _ _ (.int .i64 b) t1 rfl]
    simp only [Result.andThen_ok]
    rw [p _ _ _ (.int .i64 d) t1 rfl]
    simp only [Result.andThen_ok, run_equalIn_int w 9998 _ _ _ b d t1]
    by_cases e : b = d
    · subst e
      simp [Sem.run_pure, eqLB]
    · have : (b == d) = false := by simpa using e
      simp [Sem.run_pure, eqLB, this]
  · have : (a == c) = false := by simpa using e
    simp [Sem.run_pure, eqLB, this]
theorem agg33 (a b c d : Int) : AggEq Try.prog 33 [.int .i64 a, .int .i64 b] [.int .i64 c, .int .i64 d] :=
  agg_two (Try.prog.fieldsOf 33)[0]! (Try.prog.fieldsOf 33)[1]! (by kernel_rfl) (by kernel_rfl) (by kernel_rfl) (by kernel_rfl) (by kernel_rfl) (by kernel_rfl) (by kernel_rfl) (by kernel_rfl) (by kernel_rfl) (by kernel_rfl) (by kernel_rfl) (by kernel_rfl) a b c d
theorem Stp.ext' {p q : Stp} (h : p.x = q.x) (h2 : p.v = q.v) : p = q := by
  obtain ⟨a, b⟩ := p
  obtain ⟨c, d⟩ := q
  simp only at h h2
  rw [h, h2]
instance : DecidableEq Stp := fun p q => if h : p.x = q.x ∧ p.v = q.v then .isTrue (Stp.ext' h.1 h.2) else .isFalse fun e => h (by subst e; exact ⟨rfl, rfl⟩)
theorem lists_eq {α : Type} [Inhabited α] {p q : List α} (hl : p.length = q.length) (h : ∀ j, j < p.length → ix p j = ix q j) : p = q :=
  List.ext_getElem hl fun j h1 h2 => by rw [← ix_eq h1, ← ix_eq h2]; exact h j h1
theorem equalSt_pu (p q : List Stp) (c d : Nat) (hp : p.length ≤ 1000000) (hq : q.length ≤ 1000000) : Pu Try.prog 18 [.s 0 0 0 p.length c 2, .s 1 0 0 q.length d 2] [rSt p, rSt q] (.v (.bool (decide (p = q)))) := by
  refine pu_of_ex true [] mixed Try.call18 Try.func18 rfl Try.ntmps18 Try.results18 (by decide +kernel) rfl rfl rfl ?_
  simp only [push_cast, ↓branch_true, ↓branch_false, Nat.reduceBEq, Nat.reduceAdd, Nat.reduceMul, Nat.reduceSub, Int.reduceToNat, reduceCtorEq, branch_decide, branch_not, branch_beq, branch_bne]
  refine ⟨fun h => ?_, fun h => ?_⟩
  · refine tr_loop0 mixed (by kernel_rfl) (fun (k : Nat) => [(13, .v (.int .i64 k)), (12, .v (.int .i64 p.length)), (0, .s 0 0 0 p.length c 2), (1, .s 1 0 0 q.length d 2)]) (fun k => k ≤ p.length ∧ ∀ j, j < k → ix p j = ix q j) (fun k => p.length - k) 0 ⟨Nat.zero_le _, fun j h => by omega⟩ ?_ ?_
    · simp only [push_cast, ↓branch_true, ↓branch_false, Nat.reduceBEq, Nat.reduceAdd, Nat.reduceMul, Nat.reduceSub, Int.reduceToNat, reduceCtorEq, branch_decide, branch_not, branch_beq, branch_bne]
    · rintro k ⟨hk, hn⟩
      simp only [push_cast, ↓branch_true, ↓branch_false, Nat.reduceBEq, Nat.reduceAdd, Nat.reduceMul, Nat.reduceSub, Int.reduceToNat, reduceCtorEq, branch_decide, branch_not, branch_beq, branch_bne]
      refine ⟨fun h1 => ?_, fun h1 => ?_⟩
      · repeat (with_reducible refine And.intro (by omega) ?_)
        refine ⟨agg33 _ _ _ _, ?_⟩
        simp only [branch]
        refine ⟨fun h2 => ?_, fun h2 => ?_⟩
        · repeat (with_reducible refine And.intro (by omega) ?_)
          simp only [Bool.and_eq_true, beq_iff_eq] at h2
          refine lp0_normal (k + 1) ⟨by omega, fun j hj => ?_⟩ (by omega) ?_
          · by_cases e : j = k
            · subst e; exact Stp.ext' h2.1 h2.2
            · exact hn j (by omega)
          · simp only [push_cast, ↓branch_true, ↓branch_false, Nat.reduceBEq, Nat.reduceAdd, Nat.reduceMul, Nat.reduceSub, Int.reduceToNat, reduceCtorEq, branch_decide, branch_not, branch_beq, branch_bne]
        · have : ¬ p = q := fun e => by
            subst e
            simp at h2
          simp [this]
      · have : p = q := lists_eq (by omega) fun j hj => hn j (by omega)
        simp [this]
  · have : ¬ p = q := fun e => by
      subst e
      omega
    simp [this]
end Go.Proofs.Ytekokeiajgcfkaa
