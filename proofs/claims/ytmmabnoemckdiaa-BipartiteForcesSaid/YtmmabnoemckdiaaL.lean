/- Contracts: the reference's Size; Without. -/
import Derived.Test.YtmmabnoemckdiaaK
set_option maxRecDepth 100000
set_option linter.unusedSimpArgs false
set_option linter.unusedVariables false
namespace Go.Proofs.Ytmmabnoemckdiaa
open Go.RowKit Bip
theorem sizeR_drop {near : Nat → List Int} {m k N : Nat} {tk : Nat → Bool} {s : (Nat → Int) × Nat} (hk : k < N) : sizeL near m tk ((List.range N).drop k) s =
    match growF near (m + 1) k ⟨s.1, tk⟩ with
    | (true, st) => sizeL near m tk ((List.range N).drop (k + 1)) (st.pt, s.2 + 1)
    | (false, st) => sizeL near m tk ((List.range N).drop (k + 1)) (st.pt, s.2) := by
  rw [List.drop_eq_getElem_cons (by simpa using hk), sizeL, List.getElem_range]
  rfl
set_option maxHeartbeats 4000000 in
theorem rsize_pu {N M : Nat} (E : Nat → Nat → Bool) (c : Nat) (cp : Nat → Nat) (hN : N ≤ 1000000) (hM : M ≤ 1000000) :
    Pu Try.prog 56 [.s 0 0 0 N c 1, .v (.int .i64 M)] [oTb 1 N M cp, oTf N M E] (.v (.int .i64 (nuT N M E : Nat))) := by
  have hb := nbrT E N M hM
  refine pu_of_ex true [] mixed Try.call56 Try.func56 rfl Try.ntmps56 Try.results56 (by decide +kernel) rfl rfl rfl ?_
  simp only [push_cast, ↓branch_true, ↓branch_false, Nat.reduceBEq, Nat.reduceAdd, Nat.reduceMul, Nat.reduceSub, Int.reduceToNat, reduceCtorEq, branch_decide, branch_not, branch_beq, branch_bne, Int.reduceAdd, Int.reduceEq, Int.reduceLE, Int.reduceLT, Nat.reduceLT, Nat.reduceLeDiff, false_imp_iff, true_imp_iff]
  repeat (with_reducible refine And.intro (by omega) ?_)
  refine tr_loop mixed (by kernel_rfl) (fun (k : Nat) => [(6, .v (.int .i64 k)), (5, .p 3 0 0), (0, .s 0 0 0 N c 1), (1, .v (.int .i64 M))])
    (fun k => [oTb 1 N M cp, oTf N M E, oI M M (fillM k), ⟨92, false, .st [.s 0 0 0 N c 1, .s 2 0 0 M M 1, .junk]⟩]) (fun k => k ≤ M) (fun k => M - k) 0 (Nat.zero_le _) (Mt.wk (rl := [0, 1, 2, 3]) ⟨by kernel_rfl, ?_, ?_⟩) ?_
  · simp only [push_cast, ↓branch_true, ↓branch_false, Nat.reduceBEq, Nat.reduceAdd, Nat.reduceMul, Nat.reduceSub, Int.reduceToNat, reduceCtorEq, branch_decide, branch_not, branch_beq, branch_bne, Int.reduceAdd, Int.reduceEq, Int.reduceLE, Int.reduceLT, Nat.reduceLT, Nat.reduceLeDiff, false_imp_iff, true_imp_iff]
    try trivial
  · simp only [push_cast, ↓branch_true, ↓branch_false, Nat.reduceBEq, Nat.reduceAdd, Nat.reduceMul, Nat.reduceSub, Int.reduceToNat, reduceCtorEq, branch_decide, branch_not, branch_beq, branch_bne, Int.reduceAdd, Int.reduceEq, Int.reduceLE, Int.reduceLT, Nat.reduceLT, Nat.reduceLeDiff, false_imp_iff, true_imp_iff]
    exact fun _ _ j _ => by simp [fillM]
  intro k hk
  simp only [push_cast, ↓branch_true, ↓branch_false, Nat.reduceBEq, Nat.reduceAdd, Nat.reduceMul, Nat.reduceSub, Int.reduceToNat, reduceCtorEq, branch_decide, branch_not, branch_beq, branch_bne, Int.reduceAdd, Int.reduceEq, Int.reduceLE, Int.reduceLT, Nat.reduceLT, Nat.reduceLeDiff, false_imp_iff, true_imp_iff]
  refine ⟨fun h0 => ?_, fun h0 => ?_⟩
  · repeat (with_reducible refine And.intro (by omega) ?_)
    refine lpK_normal (k + 1) [0, 1, 2, 3] (by omega) (by omega) (by kernel_rfl) ?_ ?_
    · simp only [push_cast, ↓branch_true, ↓branch_false, Nat.reduceBEq, Nat.reduceAdd, Nat.reduceMul, Nat.reduceSub, Int.reduceToNat, reduceCtorEq, branch_decide, branch_not, branch_beq, branch_bne, Int.reduceAdd, Int.reduceEq, Int.reduceLE, Int.reduceLT, Nat.reduceLT, Nat.reduceLeDiff, false_imp_iff, true_imp_iff]
    · simp only [push_cast, ↓branch_true, ↓branch_false, Nat.reduceBEq, Nat.reduceAdd, Nat.reduceMul, Nat.reduceSub, Int.reduceToNat, reduceCtorEq, branch_decide, branch_not, branch_beq, branch_bne, Int.reduceAdd, Int.reduceEq, Int.reduceLE, Int.reduceLT, Nat.reduceLT, Nat.reduceLeDiff, false_imp_iff, true_imp_iff, fillM_up]
      exact fun _ hi q _ => upI hi
  obtain rfl : k = M := by omega
  refine tr_loop mixed (by kernel_rfl) (fun (x : Nat × (Nat → Int) × Nat) => [(8, .v (.int .i64 x.1)), (7, .v (.int .i64 x.2.2)), (5, .p 3 0 0), (0, .s 0 0 0 N c 1), (1, .v (.int .i64 k))])
    (fun x => [oTb 1 N k cp, oTf N k E, oI k k x.2.1, ⟨92, false, .st [.s 0 0 0 N c 1, .s 2 0 0 k k 1, .junk]⟩])
    (fun x => x.1 ≤ N ∧ x.2.2 ≤ x.1 ∧ (∀ j, j < k → x.2.1 j < (N : Int)) ∧ (sizeL (nearT E k) k (fun _ => false) ((List.range N).drop x.1) (x.2.1, x.2.2)).2 = nuT N k E) (fun x => N - x.1) (0, fun _ => -1, 0) ⟨Nat.zero_le _, Nat.le_refl _, fun j _ => by simp only; omega, rfl⟩ (Mt.wk (rl := [0, 1, 2, 3]) ⟨by kernel_rfl, ?_, ?_⟩) ?_
  · simp only [push_cast, ↓branch_true, ↓branch_false, Nat.reduceBEq, Nat.reduceAdd, Nat.reduceMul, Nat.reduceSub, Int.reduceToNat, reduceCtorEq, branch_decide, branch_not, branch_beq, branch_bne, Int.reduceAdd, Int.reduceEq, Int.reduceLE, Int.reduceLT, Nat.reduceLT, Nat.reduceLeDiff, false_imp_iff, true_imp_iff]
    try trivial
  · simp only [push_cast, ↓branch_true, ↓branch_false, Nat.reduceBEq, Nat.reduceAdd, Nat.reduceMul, Nat.reduceSub, Int.reduceToNat, reduceCtorEq, branch_decide, branch_not, branch_beq, branch_bne, Int.reduceAdd, Int.reduceEq, Int.reduceLE, Int.reduceLT, Nat.reduceLT, Nat.reduceLeDiff, false_imp_iff, true_imp_iff]
    exact fun _ _ j hj => by rw [fillM_all hj]
  rintro ⟨q, pt, ct⟩ ⟨g1, g2, g3, g4⟩
  simp only at g1 g2 g3 g4
  simp only [push_cast, ↓branch_true, ↓branch_false, Nat.reduceBEq, Nat.reduceAdd, Nat.reduceMul, Nat.reduceSub, Int.reduceToNat, reduceCtorEq, branch_decide, branch_not, branch_beq, branch_bne, Int.reduceAdd, Int.reduceEq, Int.reduceLE, Int.reduceLT, Nat.reduceLT, Nat.reduceLeDiff, false_imp_iff, true_imp_iff]
  refine ⟨fun h1 => ?_, fun h1 => ?_⟩
  · have hq : q < N := by omega
    rw [sizeR_drop hq] at g4
    repeat (with_reducible refine And.intro (by omega) ?_)
    have hr := rgrow_sp (E := E) c k k cp hN hM (k + 1) q ⟨pt, fun _ => false⟩ (by have := cnt_le (fun _ => !false) k; show cnt k (fun _ => !false) < k + 1; omega) hq g3
    have hbr := grow_bnd hb.lt (k + 1) q ⟨pt, fun _ => false⟩ hq g3
    generalize hgr : growF (nearT E k) (k + 1) q ⟨pt, fun _ => false⟩ = gr at *
    obtain ⟨b, st2⟩ := gr
    simp only at g4 hbr hr
    refine sp_at hr [3, 0, 1, 2, 4] rfl ?_ ?_ ?_
    · simp only [push_cast, ↓branch_true, ↓branch_false, Nat.reduceBEq, Nat.reduceAdd, Nat.reduceMul, Nat.reduceSub, Int.reduceToNat, reduceCtorEq, branch_decide, branch_not, branch_beq, branch_bne, Int.reduceAdd, Int.reduceEq, Int.reduceLE, Int.reduceLT, Nat.reduceLT, Nat.reduceLeDiff, false_imp_iff, true_imp_iff]
      try trivial
    · simp only [push_cast, ↓branch_true, ↓branch_false, Nat.reduceBEq, Nat.reduceAdd, Nat.reduceMul, Nat.reduceSub, Int.reduceToNat, reduceCtorEq, branch_decide, branch_not, branch_beq, branch_bne, Int.reduceAdd, Int.reduceEq, Int.reduceLE, Int.reduceLT, Nat.reduceLT, Nat.reduceLeDiff, false_imp_iff, true_imp_iff]
      try trivial
    rintro _ _ ⟨rfl, rfl⟩
    cases b with
    | true =>
      simp only at g4
      simp only [push_cast, ↓branch_true, ↓branch_false, Nat.reduceBEq, Nat.reduceAdd, Nat.reduceMul, Nat.reduceSub, Int.reduceToNat, reduceCtorEq, branch_decide, branch_not, branch_beq, branch_bne, Int.reduceAdd, Int.reduceEq, Int.reduceLE, Int.reduceLT, Nat.reduceLT, Nat.reduceLeDiff, false_imp_iff, true_imp_iff]
      repeat (with_reducible refine And.intro (by omega) ?_)
      refine lpK_normal (q + 1, st2.pt, ct + 1) [0, 1, 2, 3] ⟨by simp only; omega, by simp only; omega, hbr, g4⟩ (by simp only; omega) (by kernel_rfl) ?_ ?_
      · simp only [push_cast, ↓branch_true, ↓branch_false, Nat.reduceBEq, Nat.reduceAdd, Nat.reduceMul, Nat.reduceSub, Int.reduceToNat, reduceCtorEq, branch_decide, branch_not, branch_beq, branch_bne, Int.reduceAdd, Int.reduceEq, Int.reduceLE, Int.reduceLT, Nat.reduceLT, Nat.reduceLeDiff, false_imp_iff, true_imp_iff]
      · simp only [push_cast, ↓branch_true, ↓branch_false, Nat.reduceBEq, Nat.reduceAdd, Nat.reduceMul, Nat.reduceSub, Int.reduceToNat, reduceCtorEq, branch_decide, branch_not, branch_beq, branch_bne, Int.reduceAdd, Int.reduceEq, Int.reduceLE, Int.reduceLT, Nat.reduceLT, Nat.reduceLeDiff, false_imp_iff, true_imp_iff]
    | false =>
      simp only at g4
      simp only [push_cast, ↓branch_true, ↓branch_false, Nat.reduceBEq, Nat.reduceAdd, Nat.reduceMul, Nat.reduceSub, Int.reduceToNat, reduceCtorEq, branch_decide, branch_not, branch_beq, branch_bne, Int.reduceAdd, Int.reduceEq, Int.reduceLE, Int.reduceLT, Nat.reduceLT, Nat.reduceLeDiff, false_imp_iff, true_imp_iff]
      repeat (with_reducible refine And.intro (by omega) ?_)
      refine lpK_normal (q + 1, st2.pt, ct) [0, 1, 2, 3] ⟨by simp only; omega, by simp only; omega, hbr, g4⟩ (by simp only; omega) (by kernel_rfl) ?_ ?_
      · simp only [push_cast, ↓branch_true, ↓branch_false, Nat.reduceBEq, Nat.reduceAdd, Nat.reduceMul, Nat.reduceSub, Int.reduceToNat, reduceCtorEq, branch_decide, branch_not, branch_beq, branch_bne, Int.reduceAdd, Int.reduceEq, Int.reduceLE, Int.reduceLT, Nat.reduceLT, Nat.reduceLeDiff, false_imp_iff, true_imp_iff]
      · simp only [push_cast, ↓branch_true, ↓branch_false, Nat.reduceBEq, Nat.reduceAdd, Nat.reduceMul, Nat.reduceSub, Int.reduceToNat, reduceCtorEq, branch_decide, branch_not, branch_beq, branch_bne, Int.reduceAdd, Int.reduceEq, Int.reduceLE, Int.reduceLT, Nat.reduceLT, Nat.reduceLeDiff, false_imp_iff, true_imp_iff]
  · obtain rfl : q = N := by omega
    rw [List.drop_eq_nil_of_le (by simp)] at g4
    rw [← g4]
    rfl
end Go.Proofs.Ytmmabnoemckdiaa
