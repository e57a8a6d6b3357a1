/- Contract: the reference's Valid. -/
import Derived.Test.YtmmabnoemckdiaaP
set_option maxRecDepth 100000
set_option linter.unusedSimpArgs false
set_option linter.unusedVariables false
namespace Go.Proofs.Ytmmabnoemckdiaa
open Go.RowKit Bip
set_option maxHeartbeats 4000000 in
theorem rvalid_pu (l : List Ed) (n m : Int) (c : Nat) (hl : l.length ≤ 9223372036854775807) : Pu Try.prog 22 [.v (.int .i64 n), .v (.int .i64 m), .s 0 0 0 l.length c 2] [rEd l] (.v (.bool (validE n m l))) := by
  refine pu_of_ex true [] mixed Try.call22 Try.func22 rfl Try.ntmps22 Try.results22 (by decide +kernel) rfl rfl rfl ?_
  simp only [push_cast, ↓branch_true, ↓branch_false, Nat.reduceBEq, Nat.reduceAdd, Nat.reduceMul, Nat.reduceSub, Int.reduceToNat, reduceCtorEq, branch_decide, branch_not, branch_beq, branch_bne, Int.reduceAdd, Int.reduceEq, Int.reduceLE, Int.reduceLT, Nat.reduceLT, Nat.reduceLeDiff, false_imp_iff, true_imp_iff]
  refine ⟨fun h => vb (by simp [validE]; omega), fun h1 => ⟨fun h => vb (by simp [validE]; omega), fun h2 => ⟨fun h => vb (by simp [validE]; omega), fun h3 => ⟨fun h => vb (by simp [validE]; omega), fun h4 => ⟨fun h => vb (by simp [validE]; omega), fun h5 => ?_⟩⟩⟩⟩⟩
  have v5 : validE n m l = l.all (inE n m) := by
    unfold validE
    rw [decide_eq_true (by omega : 0 ≤ n), decide_eq_true (by omega : n ≤ 60), decide_eq_true (by omega : 0 ≤ m), decide_eq_true (by omega : m ≤ 60), decide_eq_true (by omega : l.length ≤ 1000)]
    rfl
  refine tr_loop mixed (by kernel_rfl) (fun (q : Nat) => [(7, .v (.int .i64 q)), (0, .v (.int .i64 n)), (1, .v (.int .i64 m)), (2, .s 0 0 0 l.length c 2)])
    (fun _ => [rEd l]) (fun q => q ≤ l.length ∧ ∀ p, p < q → inE n m (ix l p) = true) (fun q => l.length - q) 0 ⟨Nat.zero_le _, fun _ h => absurd h (by omega)⟩ (Mt.wk (rl := [0]) ⟨by kernel_rfl, ?_, ?_⟩) ?_
  · simp only [push_cast, ↓branch_true, ↓branch_false, Nat.reduceBEq, Nat.reduceAdd, Nat.reduceMul, Nat.reduceSub, Int.reduceToNat, reduceCtorEq, branch_decide, branch_not, branch_beq, branch_bne, Int.reduceAdd, Int.reduceEq, Int.reduceLE, Int.reduceLT, Nat.reduceLT, Nat.reduceLeDiff, false_imp_iff, true_imp_iff]
    try trivial
  · simp only [push_cast, ↓branch_true, ↓branch_false, Nat.reduceBEq, Nat.reduceAdd, Nat.reduceMul, Nat.reduceSub, Int.reduceToNat, reduceCtorEq, branch_decide, branch_not, branch_beq, branch_bne, Int.reduceAdd, Int.reduceEq, Int.reduceLE, Int.reduceLT, Nat.reduceLT, Nat.reduceLeDiff, false_imp_iff, true_imp_iff]
    try trivial
  rintro q ⟨hq, hall⟩
  simp only [push_cast, ↓branch_true, ↓branch_false, Nat.reduceBEq, Nat.reduceAdd, Nat.reduceMul, Nat.reduceSub, Int.reduceToNat, reduceCtorEq, branch_decide, branch_not, branch_beq, branch_bne, Int.reduceAdd, Int.reduceEq, Int.reduceLE, Int.reduceLT, Nat.reduceLT, Nat.reduceLeDiff, false_imp_iff, true_imp_iff]
  refine ⟨fun h6 => ?_, fun h6 => ?_⟩
  · have hq2 : q < l.length := by omega
    have bad : inE n m (ix l q) = false → validE n m l = false := fun e => by
      rw [v5, List.all_eq_false]
      exact ⟨_, ix_mem hq2, by rw [e]; decide⟩
    have good : inE n m (ix l q) = true → ∀ p, p < q + 1 → inE n m (ix l p) = true := fun e p hp => by
      by_cases e2 : p = q
      · subst e2; exact e
      · exact hall p (by omega)
    have bd : (¬ (0 ≤ (ix l q).x ∧ (ix l q).x < n ∧ 0 ≤ (ix l q).y ∧ (ix l q).y < m)) → SV.v (.bool false) = SV.v (.bool (validE n m l)) := fun e => by
      rw [bad (by
        cases h : inE n m (ix l q) with
        | false => rfl
        | true =>
          simp only [inE, Bool.and_eq_true, decide_eq_true_eq] at h
          exact absurd h e)]
    refine ⟨by omega, by omega, by omega, fun a => bd (by omega), fun a1 => ⟨by omega, by omega, by omega, fun a => bd (by omega), fun a2 => ⟨by omega, by omega, by omega, fun a => bd (by omega), fun a3 => ⟨by omega, by omega, by omega, fun a => bd (by omega), fun a4 => ⟨⟨by omega, by omega⟩, ?_⟩⟩⟩⟩⟩
    have hx : inE n m (ix l q) = true := by
      simp only [inE, Bool.and_eq_true, decide_eq_true_eq]
      omega
    refine lpK_normal (q + 1) [0] ⟨by omega, good hx⟩ (by omega) (by kernel_rfl) ?_ ?_
    · simp only [push_cast, ↓branch_true, ↓branch_false, Nat.reduceBEq, Nat.reduceAdd, Nat.reduceMul, Nat.reduceSub, Int.reduceToNat, reduceCtorEq, branch_decide, branch_not, branch_beq, branch_bne, Int.reduceAdd, Int.reduceEq, Int.reduceLE, Int.reduceLT, Nat.reduceLT, Nat.reduceLeDiff, false_imp_iff, true_imp_iff]
      try trivial
    · simp only [push_cast, ↓branch_true, ↓branch_false, Nat.reduceBEq, Nat.reduceAdd, Nat.reduceMul, Nat.reduceSub, Int.reduceToNat, reduceCtorEq, branch_decide, branch_not, branch_beq, branch_bne, Int.reduceAdd, Int.reduceEq, Int.reduceLE, Int.reduceLT, Nat.reduceLT, Nat.reduceLeDiff, false_imp_iff, true_imp_iff]
      try trivial
  · have hv : validE n m l = true := by
      rw [v5, List.all_eq_true]
      intro x hx
      obtain ⟨i, hi, rfl⟩ := List.mem_iff_getElem.1 hx
      have := hall i (by omega)
      rw [ix_eq hi] at this
      exact this
    rw [hv]
end Go.Proofs.Ytmmabnoemckdiaa
