/- Contracts: IndexFunc and ContainsFunc of lists; closures of Heaviest. -/
import Derived.Test.YtmmabnoemckdiaaR
set_option maxRecDepth 100000
set_option linter.unusedSimpArgs false
set_option linter.unusedVariables false
namespace Go.Proofs.Ytmmabnoemckdiaa
open Go.RowKit
theorem ix_rng {N k : Nat} (h : k < N) : ix (List.range N) k = k := by
  rw [ix_eq (by simpa using h)]; simp
theorem indexL_pu (N c : Nat) (near : Nat → List Int) (cp : Nat → Nat) (g : FuncId) (fs cs : List SV) (H : List Ob) (p : Nat → Bool) (hro : roB H = true) (hN : N ≤ 9223372036854775807)
    (hp : ∀ k, k < N → Pu Try.prog g (fs ++ [.s 1 k 0 (near k).length (cp k) 1] ++ cs) (oNe 1 N near cp :: oNf N near :: H) (.v (.bool (p k)))) :
    Pu Try.prog 43 [.s 0 0 0 N c 1, .f (.func g) fs cs] (oNe 1 N near cp :: oNf N near :: H) (.v (.int .i64 (idxB p (List.range N) 0))) := by
  have hpp : ∀ k, k < N → p (ix (List.range N) k) = p k := fun k hk => by rw [ix_rng hk]
  refine pu_of_ex true [] mixed Try.call43 Try.func43 rfl Try.ntmps43 Try.results43 (by decide +kernel) rfl (by simp [roB, hro, oNe, oNf]) rfl ?_
  simp only [push_cast, ↓branch_true, ↓branch_false, Nat.reduceBEq, Nat.reduceAdd, Nat.reduceMul, Nat.reduceSub, Int.reduceToNat, reduceCtorEq, branch_decide, branch_not, branch_beq, branch_bne, Int.reduceAdd, Int.reduceEq, Int.reduceLE, Int.reduceLT, Nat.reduceLT, Nat.reduceLeDiff, false_imp_iff, true_imp_iff]
  refine tr_loop0 mixed (by kernel_rfl) (fun (k : Nat) => [(8, .v (.int .i64 k)), (7, .v (.int .i64 N)), (0, .s 0 0 0 N c 1), (1, .f (.func g) fs cs)]) (fun k => k ≤ N ∧ ∀ j, j < k → p j = false) (fun k => N - k) 0 ⟨Nat.zero_le _, fun j h => by omega⟩ ?_ ?_
  · simp only [push_cast, ↓branch_true, ↓branch_false, Nat.reduceBEq, Nat.reduceAdd, Nat.reduceMul, Nat.reduceSub, Int.reduceToNat, reduceCtorEq, branch_decide, branch_not, branch_beq, branch_bne, Int.reduceAdd, Int.reduceEq, Int.reduceLE, Int.reduceLT, Nat.reduceLT, Nat.reduceLeDiff, false_imp_iff, true_imp_iff]
  · rintro k ⟨hk, hn⟩
    simp only [push_cast, ↓branch_true, ↓branch_false, Nat.reduceBEq, Nat.reduceAdd, Nat.reduceMul, Nat.reduceSub, Int.reduceToNat, reduceCtorEq, branch_decide, branch_not, branch_beq, branch_bne, Int.reduceAdd, Int.reduceEq, Int.reduceLE, Int.reduceLT, Nat.reduceLT, Nat.reduceLeDiff, false_imp_iff, true_imp_iff]
    refine ⟨fun h1 => ?_, fun h1 => ?_⟩
    · repeat (with_reducible refine And.intro (by omega) ?_)
      have hp1 := hp k (by omega)
      refine sp_pu (by simpa only [push_cast] using hp1) ?_
      simp only [push_cast, ↓branch_true, ↓branch_false, Nat.reduceBEq, Nat.reduceAdd, Nat.reduceMul, Nat.reduceSub, Int.reduceToNat, reduceCtorEq, branch_decide, branch_not, branch_beq, branch_bne, Int.reduceAdd, Int.reduceEq, Int.reduceLE, Int.reduceLT, Nat.reduceLT, Nat.reduceLeDiff, false_imp_iff, true_imp_iff]
      simp only [branch]
      refine ⟨fun h2 => ?_, fun h2 => ?_⟩
      · rw [idxB_at p (List.range N) 0 k (by simp; omega) (fun j hj => by rw [hpp j (by omega)]; exact hn j hj) (by rw [hpp k (by omega)]; exact h2)]; simp
      · repeat (with_reducible refine And.intro (by omega) ?_)
        refine lp0_normal (k + 1) ⟨by omega, fun j hj => ?_⟩ (by omega) ?_
        · by_cases e : j = k
          · rw [e]; exact h2
          · exact hn j (by omega)
        · simp only [push_cast, ↓branch_true, ↓branch_false, Nat.reduceBEq, Nat.reduceAdd, Nat.reduceMul, Nat.reduceSub, Int.reduceToNat, reduceCtorEq, branch_decide, branch_not, branch_beq, branch_bne, Int.reduceAdd, Int.reduceEq, Int.reduceLE, Int.reduceLT, Nat.reduceLT, Nat.reduceLeDiff, false_imp_iff, true_imp_iff]
    · rw [idxB_none p (List.range N) 0 fun j hj => by
        simp at hj
        rw [hpp j hj]; exact hn j (by omega)]
theorem containsL_pu (N c : Nat) (near : Nat → List Int) (cp : Nat → Nat) (g : FuncId) (fs cs : List SV) (H : List Ob) (p : Nat → Bool) (hro : roB H = true) (hN : N ≤ 9223372036854775807)
    (hp : ∀ k, k < N → Pu Try.prog g (fs ++ [.s 1 k 0 (near k).length (cp k) 1] ++ cs) (oNe 1 N near cp :: oNf N near :: H) (.v (.bool (p k)))) :
    Pu Try.prog 11 [.s 0 0 0 N c 1, .f (.func g) fs cs] (oNe 1 N near cp :: oNf N near :: H) (.v (.bool ((List.range N).any p))) := by
  refine pu_of_ex true [] mixed Try.call11 Try.func11 rfl Try.ntmps11 Try.results11 (by decide +kernel) rfl (by simp [roB, hro, oNe, oNf]) rfl ?_
  simp only [push_cast, ↓branch_true, ↓branch_false, Nat.reduceBEq, Nat.reduceAdd, Nat.reduceMul, Nat.reduceSub, Int.reduceToNat, reduceCtorEq, branch_decide, branch_not, branch_beq, branch_bne, Int.reduceAdd, Int.reduceEq, Int.reduceLE, Int.reduceLT, Nat.reduceLT, Nat.reduceLeDiff, false_imp_iff, true_imp_iff]
  refine sp_pu (indexL_pu N c near cp g fs cs H p hro hN hp) ?_
  simp only [push_cast, ↓branch_true, ↓branch_false, Nat.reduceBEq, Nat.reduceAdd, Nat.reduceMul, Nat.reduceSub, Int.reduceToNat, reduceCtorEq, branch_decide, branch_not, branch_beq, branch_bne, Int.reduceAdd, Int.reduceEq, Int.reduceLE, Int.reduceLT, Nat.reduceLT, Nat.reduceLeDiff, false_imp_iff, true_imp_iff]
  rw [idxB_any p _ 0 (Int.le_refl 0)]
theorem indexM_pu (N a c : Nat) (near : Nat → List Int) (g : FuncId) (fs cs : List SV) (H : List Ob) (p : Int → Bool) (hro : roB H = true) (ha : a < N) (hN : (near a).length ≤ 9223372036854775807)
    (hp : ∀ x ∈ near a, Pu Try.prog g (fs ++ [.v (.int .i64 x)] ++ cs) (oNf N near :: H) (.v (.bool (p x)))) :
    Pu Try.prog 69 [.s 0 a 0 (near a).length c 1, .f (.func g) fs cs] (oNf N near :: H) (.v (.int .i64 (idxB p (near a) 0))) := by
  refine pu_of_ex true [] mixed Try.call69 Try.func69 rfl Try.ntmps69 Try.results69 (by decide +kernel) rfl (by simp [roB, hro, oNf]) rfl ?_
  simp only [push_cast, ↓branch_true, ↓branch_false, Nat.reduceBEq, Nat.reduceAdd, Nat.reduceMul, Nat.reduceSub, Int.reduceToNat, reduceCtorEq, branch_decide, branch_not, branch_beq, branch_bne, Int.reduceAdd, Int.reduceEq, Int.reduceLE, Int.reduceLT, Nat.reduceLT, Nat.reduceLeDiff, false_imp_iff, true_imp_iff]
  refine tr_loop0 mixed (by kernel_rfl) (fun (k : Nat) => [(8, .v (.int .i64 k)), (7, .v (.int .i64 (near a).length)), (0, .s 0 a 0 (near a).length c 1), (1, .f (.func g) fs cs)]) (fun k => k ≤ (near a).length ∧ ∀ j, j < k → p (ix (near a) j) = false) (fun k => (near a).length - k) 0 ⟨Nat.zero_le _, fun j h => by omega⟩ ?_ ?_
  · simp only [push_cast, ↓branch_true, ↓branch_false, Nat.reduceBEq, Nat.reduceAdd, Nat.reduceMul, Nat.reduceSub, Int.reduceToNat, reduceCtorEq, branch_decide, branch_not, branch_beq, branch_bne, Int.reduceAdd, Int.reduceEq, Int.reduceLE, Int.reduceLT, Nat.reduceLT, Nat.reduceLeDiff, false_imp_iff, true_imp_iff]
  · rintro k ⟨hk, hn⟩
    simp only [push_cast, ↓branch_true, ↓branch_false, Nat.reduceBEq, Nat.reduceAdd, Nat.reduceMul, Nat.reduceSub, Int.reduceToNat, reduceCtorEq, branch_decide, branch_not, branch_beq, branch_bne, Int.reduceAdd, Int.reduceEq, Int.reduceLE, Int.reduceLT, Nat.reduceLT, Nat.reduceLeDiff, false_imp_iff, true_imp_iff]
    refine ⟨fun h1 => ?_, fun h1 => ?_⟩
    · repeat (with_reducible refine And.intro (by omega) ?_)
      have hp1 := hp _ (ix_mem (l := near a) (k := k) (by omega))
      refine sp_pu (by simpa only [push_cast] using hp1) ?_
      simp only [push_cast, ↓branch_true, ↓branch_false, Nat.reduceBEq, Nat.reduceAdd, Nat.reduceMul, Nat.reduceSub, Int.reduceToNat, reduceCtorEq, branch_decide, branch_not, branch_beq, branch_bne, Int.reduceAdd, Int.reduceEq, Int.reduceLE, Int.reduceLT, Nat.reduceLT, Nat.reduceLeDiff, false_imp_iff, true_imp_iff]
      simp only [branch]
      refine ⟨fun h2 => ?_, fun h2 => ?_⟩
      · rw [idxB_at p (near a) 0 k (by omega) hn h2]; simp
      · repeat (with_reducible refine And.intro (by omega) ?_)
        refine lp0_normal (k + 1) ⟨by omega, fun j hj => ?_⟩ (by omega) ?_
        · by_cases e : j = k
          · rw [e]; exact h2
          · exact hn j (by omega)
        · simp only [push_cast, ↓branch_true, ↓branch_false, Nat.reduceBEq, Nat.reduceAdd, Nat.reduceMul, Nat.reduceSub, Int.reduceToNat, reduceCtorEq, branch_decide, branch_not, branch_beq, branch_bne, Int.reduceAdd, Int.reduceEq, Int.reduceLE, Int.reduceLT, Nat.reduceLT, Nat.reduceLeDiff, false_imp_iff, true_imp_iff]
    · rw [idxB_none p (near a) 0 fun j hj => hn j (by omega)]
theorem containsM_pu (N a c : Nat) (near : Nat → List Int) (g : FuncId) (fs cs : List SV) (H : List Ob) (p : Int → Bool) (hro : roB H = true) (ha : a < N) (hN : (near a).length ≤ 9223372036854775807)
    (hp : ∀ x ∈ near a, Pu Try.prog g (fs ++ [.v (.int .i64 x)] ++ cs) (oNf N near :: H) (.v (.bool (p x)))) :
    Pu Try.prog 46 [.s 0 a 0 (near a).length c 1, .f (.func g) fs cs] (oNf N near :: H) (.v (.bool ((near a).any p))) := by
  refine pu_of_ex true [] mixed Try.call46 Try.func46 rfl Try.ntmps46 Try.results46 (by decide +kernel) rfl (by simp [roB, hro, oNf]) rfl ?_
  simp only [push_cast, ↓branch_true, ↓branch_false, Nat.reduceBEq, Nat.reduceAdd, Nat.reduceMul, Nat.reduceSub, Int.reduceToNat, reduceCtorEq, branch_decide, branch_not, branch_beq, branch_bne, Int.reduceAdd, Int.reduceEq, Int.reduceLE, Int.reduceLT, Nat.reduceLT, Nat.reduceLeDiff, false_imp_iff, true_imp_iff]
  refine sp_pu (indexM_pu N a c near g fs cs H p hro ha hN hp) ?_
  simp only [push_cast, ↓branch_true, ↓branch_false, Nat.reduceBEq, Nat.reduceAdd, Nat.reduceMul, Nat.reduceSub, Int.reduceToNat, reduceCtorEq, branch_decide, branch_not, branch_beq, branch_bne, Int.reduceAdd, Int.reduceEq, Int.reduceLE, Int.reduceLT, Nat.reduceLT, Nat.reduceLeDiff, false_imp_iff, true_imp_iff]
  rw [idxB_any p _ 0 (Int.le_refl 0)]
theorem any_rng (W : List (List Int)) (q : List Int → Bool) : ((List.range W.length).any fun k => q (ix W k)) = W.any q := by
  rw [Bool.eq_iff_iff, List.any_eq_true, List.any_eq_true]
  constructor
  · rintro ⟨k, h1, h2⟩
    exact ⟨_, ix_mem (by simpa using h1), h2⟩
  · rintro ⟨x, h1, h2⟩
    obtain ⟨k, hk, e⟩ := List.getElem_of_mem h1
    exact ⟨k, by simpa using hk, by rw [ix_eq hk, e]; exact h2⟩
theorem heavy1_pu (N : Nat) (near : Nat → List Int) (cp : Nat → Nat) (k : Nat) (hk : k < N) : Pu Try.prog 44 [.s 1 k 0 (near k).length (cp k) 1] [oNe 1 N near cp, oNf N near] (.v (.bool (decide ((near k).length > 8)))) := by
  refine pu_of_ex true [] mixed Try.call44 Try.func44 rfl Try.ntmps44 Try.results44 (by decide +kernel) rfl rfl rfl ?_
  simp only [push_cast, ↓branch_true, ↓branch_false, Nat.reduceBEq, Nat.reduceAdd, Nat.reduceMul, Nat.reduceSub, Int.reduceToNat, reduceCtorEq, branch_decide, branch_not, branch_beq, branch_bne, Int.reduceAdd, Int.reduceEq, Int.reduceLE, Int.reduceLT, Nat.reduceLT, Nat.reduceLeDiff, false_imp_iff, true_imp_iff]
  try exact vb (by rw [decide_eq_decide]; omega)
theorem heavy2_pu (N c : Nat) (near : Nat → List Int) (cp : Nat → Nat) (k : Nat) (hk : k < N) : Pu Try.prog 45 [.s 1 k 0 (near k).length (cp k) 1, .p 2 0 0] [oNe 1 N near cp, oNf N near, ⟨22, true, .st [.s 0 0 0 N c 1]⟩] (.v (.bool (decide ((near k).length ≠ (near 0).length)))) := by
  refine pu_of_ex true [] mixed Try.call45 Try.func45 rfl Try.ntmps45 Try.results45 (by decide +kernel) rfl rfl rfl ?_
  simp only [push_cast, ↓branch_true, ↓branch_false, Nat.reduceBEq, Nat.reduceAdd, Nat.reduceMul, Nat.reduceSub, Int.reduceToNat, reduceCtorEq, branch_decide, branch_not, branch_beq, branch_bne, Int.reduceAdd, Int.reduceEq, Int.reduceLE, Int.reduceLT, Nat.reduceLT, Nat.reduceLeDiff, false_imp_iff, true_imp_iff]
  refine ⟨by omega, by omega, vb ?_⟩
  rw [Bool.eq_iff_iff, bne_iff_ne, decide_eq_true_eq]
  omega
theorem heavy3_pu (N : Nat) (near : Nat → List Int) (x : Int) : Pu Try.prog 47 [.v (.int .i64 x)] [oNf N near] (.v (.bool (decide (x < -1) || decide (x > 1073741824)))) := by
  refine pu_of_ex true [] mixed Try.call47 Try.func47 rfl Try.ntmps47 Try.results47 (by decide +kernel) rfl rfl rfl ?_
  simp only [push_cast, ↓branch_true, ↓branch_false, Nat.reduceBEq, Nat.reduceAdd, Nat.reduceMul, Nat.reduceSub, Int.reduceToNat, reduceCtorEq, branch_decide, branch_not, branch_beq, branch_bne, Int.reduceAdd, Int.reduceEq, Int.reduceLE, Int.reduceLT, Nat.reduceLT, Nat.reduceLeDiff, false_imp_iff, true_imp_iff]
  refine ⟨fun h => vb (by simp [h]), fun h => vb (by simp [h])⟩
end Go.Proofs.Ytmmabnoemckdiaa
