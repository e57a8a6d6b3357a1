/- Contract: Farkas. -/
import Derived.Test.YtmefgachdnlaoaaS
set_option maxRecDepth 100000
set_option linter.unusedSimpArgs false
set_option linter.unusedVariables false
namespace Go.Proofs.Ytmefgachdnlaoaa
open Go.RowKit Lp
inductive FarR (p : Pm) : SV → List Ob → Prop
  | ok (s : Tabl) (cy : Nat) (hv : vPm p = true) (hf : fitB p = true) (hs : Feas (tA p) p.m p.R s) (h : Gap p (gapY p s)) (hy : p.m ≤ cy) : FarR p (.t [.s 3 0 0 p.m cy 2, .v (.int .i64 0)]) (obP p ++ [oFr p.m cy (gapY p s) s.d.toNat])
  | bad (e : Int) (h : (vPm p = false ∧ e = 1) ∨ (vPm p = true ∧ fitB p = false ∧ e = 5) ∨ (vPm p = true ∧ fitB p = true ∧ e = 12 ∧ ∃ X d, Prim (lpP p) X d)) : FarR p (.t [.v (.slice none 0 0), .v (.int .i64 e)]) (obP p)
set_option maxHeartbeats 16000000 in
theorem farkas_sp (p : Pm) (hin : vPm p = true → PmOk p) (hl : ∀ t, t < p.m → p.ln t ≤ 1000000) (hn : p.n ≤ 1000000) (hm : p.m ≤ 1000000) : Sp Try.prog 29 [svP p] (obP p) (FarR p) := by
  have hva := valid_pu p hl hn hm
  refine sp_weak ?_
  refine sp_of_ex true [(12, .one 0 (.one 1 (.one 2 (.one 3 (.one 4 (.one 6 (.one 9 (.one 10 (.one 11 (.one 12 (.one 14 (.alt [(5, .one 7 (.alt [(8, .one 13 (.one 15 (.one 16 (.one 17 (.one 18 (.one 19 (.one 20 (.one 21 .fin)))))))), (13, .one 15 (.alt [(8, .one 16 (.one 17 (.one 18 (.one 19 (.one 20 (.one 21 .fin)))))), (16, .one 8 (.one 17 (.one 18 (.one 19 (.one 20 (.one 21 .fin))))))]))])), (13, .one 15 (.alt [(5, .one 7 (.alt [(8, .one 16 (.one 17 (.one 18 (.one 19 (.one 20 (.one 21 .fin)))))), (16, .one 8 (.one 17 (.one 18 (.one 19 (.one 20 (.one 21 .fin))))))])), (16, .one 5 (.one 7 (.one 8 (.one 17 (.one 18 (.one 19 (.one 20 (.one 21 .fin))))))))]))]))))))))))))] mixed Try.call29 Try.func29 rfl Try.ntmps29 Try.results29 (by decide +kernel) rfl ?_
  simp only [push_cast, ↓branch_true, ↓branch_false, Nat.reduceBEq, Nat.reduceAdd, Nat.reduceMul, Nat.reduceSub, Int.reduceToNat, reduceCtorEq, Int.reduceAdd, Int.reduceEq, Int.reduceLE, Int.reduceLT, Nat.reduceLT, Nat.reduceLeDiff]
  refine sp_c hva rfl [0, 1, 2] ?_
  simp only [push_cast, ↓branch_true, ↓branch_false, Nat.reduceBEq, Nat.reduceAdd, Nat.reduceMul, Nat.reduceSub, Int.reduceToNat, reduceCtorEq, Int.reduceAdd, Int.reduceEq, Int.reduceLE, Int.reduceLT, Nat.reduceLT, Nat.reduceLeDiff]
  simp only [branch]
  cases hv : vPm p with
  | false =>
    simp only [push_cast, ↓branch_true, ↓branch_false, Nat.reduceBEq, Nat.reduceAdd, Nat.reduceMul, Nat.reduceSub, Int.reduceToNat, reduceCtorEq, Int.reduceAdd, Int.reduceEq, Int.reduceLE, Int.reduceLT, Nat.reduceLT, Nat.reduceLeDiff]
    refine ⟨_, _, [0, 1, 2], ?_, by kernel_rfl, ?_, .bad 1 (.inl ⟨hv, rfl⟩)⟩
    · simp only [push_cast, ↓branch_true, ↓branch_false, Nat.reduceBEq, Nat.reduceAdd, Nat.reduceMul, Nat.reduceSub, Int.reduceToNat, reduceCtorEq, Int.reduceAdd, Int.reduceEq, Int.reduceLE, Int.reduceLT, Nat.reduceLT, Nat.reduceLeDiff]
    · simp only [push_cast, ↓branch_true, ↓branch_false, Nat.reduceBEq, Nat.reduceAdd, Nat.reduceMul, Nat.reduceSub, Int.reduceToNat, reduceCtorEq, Int.reduceAdd, Int.reduceEq, Int.reduceLE, Int.reduceLT, Nat.reduceLT, Nat.reduceLeDiff]
  | true =>
  have hp := hin hv
  have hfp := fits_pu p hp
  simp only [push_cast, ↓branch_true, ↓branch_false, Nat.reduceBEq, Nat.reduceAdd, Nat.reduceMul, Nat.reduceSub, Int.reduceToNat, reduceCtorEq, Int.reduceAdd, Int.reduceEq, Int.reduceLE, Int.reduceLT, Nat.reduceLT, Nat.reduceLeDiff]
  refine sp_c hfp rfl [0, 1, 2] ?_
  simp only [push_cast, ↓branch_true, ↓branch_false, Nat.reduceBEq, Nat.reduceAdd, Nat.reduceMul, Nat.reduceSub, Int.reduceToNat, reduceCtorEq, Int.reduceAdd, Int.reduceEq, Int.reduceLE, Int.reduceLT, Nat.reduceLT, Nat.reduceLeDiff]
  cases hf : fitB p with
  | false =>
    simp only [push_cast, ↓branch_true, ↓branch_false, Nat.reduceBEq, Nat.reduceAdd, Nat.reduceMul, Nat.reduceSub, Int.reduceToNat, reduceCtorEq, Int.reduceAdd, Int.reduceEq, Int.reduceLE, Int.reduceLT, Nat.reduceLT, Nat.reduceLeDiff]
    refine ⟨_, _, [0, 1, 2], ?_, by kernel_rfl, ?_, .bad 5 (.inr (.inl ⟨hv, hf, rfl⟩))⟩
    · simp only [push_cast, ↓branch_true, ↓branch_false, Nat.reduceBEq, Nat.reduceAdd, Nat.reduceMul, Nat.reduceSub, Int.reduceToNat, reduceCtorEq, Int.reduceAdd, Int.reduceEq, Int.reduceLE, Int.reduceLT, Nat.reduceLT, Nat.reduceLeDiff]
    · simp only [push_cast, ↓branch_true, ↓branch_false, Nat.reduceBEq, Nat.reduceAdd, Nat.reduceMul, Nat.reduceSub, Int.reduceToNat, reduceCtorEq, Int.reduceAdd, Int.reduceEq, Int.reduceLE, Int.reduceLT, Nat.reduceLT, Nat.reduceLeDiff]
  | true =>
  have hfit := fit_of hf
  simp only [push_cast, ↓branch_true, ↓branch_false, Nat.reduceBEq, Nat.reduceAdd, Nat.reduceMul, Nat.reduceSub, Int.reduceToNat, reduceCtorEq, Int.reduceAdd, Int.reduceEq, Int.reduceLE, Int.reduceLT, Nat.reduceLT, Nat.reduceLeDiff]
  refine sp_at (newTable_sp p hp) [0, 1, 2] (by kernel_rfl) ?_ ?_ ?_
  · simp only [push_cast, ↓branch_true, ↓branch_false, Nat.reduceBEq, Nat.reduceAdd, Nat.reduceMul, Nat.reduceSub, Int.reduceToNat, reduceCtorEq, Int.reduceAdd, Int.reduceEq, Int.reduceLE, Int.reduceLT, Nat.reduceLT, Nat.reduceLeDiff]
  · simp only [push_cast, ↓branch_true, ↓branch_false, Nat.reduceBEq, Nat.reduceAdd, Nat.reduceMul, Nat.reduceSub, Int.reduceToNat, reduceCtorEq, Int.reduceAdd, Int.reduceEq, Int.reduceLE, Int.reduceLT, Nat.reduceLT, Nat.reduceLeDiff]
  rintro _ _ ⟨cc, bc, sc, nc, rfl, rfl⟩
  simp only [push_cast, ↓branch_true, ↓branch_false, Nat.reduceBEq, Nat.reduceAdd, Nat.reduceMul, Nat.reduceSub, Int.reduceToNat, reduceCtorEq, Int.reduceAdd, Int.reduceEq, Int.reduceLE, Int.reduceLT, Nat.reduceLT, Nat.reduceLeDiff]
  obtain ⟨K, hK, hKf⟩ := start_ok (cc := cc) (bc := bc) (sc := sc) (nc := nc) hp hfit
  have hRF : p.R = p.F + p.m := rfl
  refine sp_at (start_sp2 _ _ K hK) [4, 5, 6, 7, 8, 9] (by kernel_rfl) ?_ ?_ ?_
  · simp only [push_cast, ↓branch_true, ↓branch_false, Nat.reduceBEq, Nat.reduceAdd, Nat.reduceMul, Nat.reduceSub, Int.reduceToNat, reduceCtorEq, Int.reduceAdd, Int.reduceEq, Int.reduceLE, Int.reduceLT, Nat.reduceLT, Nat.reduceLeDiff]
  · simp only [push_cast, ↓branch_true, ↓branch_false, Nat.reduceBEq, Nat.reduceAdd, Nat.reduceMul, Nat.reduceSub, Int.reduceToNat, reduceCtorEq, Int.reduceAdd, Int.reduceEq, Int.reduceLE, Int.reduceLT, Nat.reduceLT, Nat.reduceLeDiff]
  rintro _ _ (⟨hsm, rfl, rfl⟩ | ⟨hsm, rfl, rfl⟩)
  · have hdr := start_driven hp hKf hsm
    simp only [push_cast, ↓branch_true, ↓branch_false, Nat.reduceBEq, Nat.reduceAdd, Nat.reduceMul, Nat.reduceSub, Int.reduceToNat, reduceCtorEq, Int.reduceAdd, Int.reduceEq, Int.reduceLE, Int.reduceLT, Nat.reduceLT, Nat.reduceLeDiff]
    refine ⟨_, _, [0, 1, 2], ?_, by kernel_rfl, ?_, .bad 12 (.inr (.inr ⟨hv, hf, rfl, _, _, (form hp).prim hdr.feas hdr.noart⟩))⟩
    · simp only [push_cast, ↓branch_true, ↓branch_false, Nat.reduceBEq, Nat.reduceAdd, Nat.reduceMul, Nat.reduceSub, Int.reduceToNat, reduceCtorEq, Int.reduceAdd, Int.reduceEq, Int.reduceLE, Int.reduceLT, Nat.reduceLT, Nat.reduceLeDiff]
    · simp only [push_cast, ↓branch_true, ↓branch_false, Nat.reduceBEq, Nat.reduceAdd, Nat.reduceMul, Nat.reduceSub, Int.reduceToNat, reduceCtorEq, Int.reduceAdd, Int.reduceEq, Int.reduceLE, Int.reduceLT, Nat.reduceLT, Nat.reduceLeDiff]
  · have hG := gap_of hp hK.E hKf hsm
    have hSm : Sml (qF p cc bc sc nc) (S1 (qF p cc bc sc nc) (firstT (tA p) p.F) K) := sml_of hp hfit hKf
    clear hsm
    clear hK
    generalize S1 (qF p cc bc sc nc) (firstT (tA p) p.F) K = s at *
    have hnp := hp.n
    have hmp := hp.m
    have hRb := hSm.R
    have hTb := hSm.T
    simp only [push_cast] at hRb hTb
    have hsa := fun j (hj : j < p.R + 1) => sm_small (Nat.le_refl p.m) hmp (f := artF (qF p cc bc sc nc) s j) fun k hk => by
      unfold artF
      split
      · exact hTb k j hk hj
      · decide
    have hga : ∀ k, k < p.m → sgn p k * sm p.m (artF (qF p cc bc sc nc) s (p.F + k)) = gapY p s k := fun k hk => by
      show _ = sgn p k * wsum p.m (artC p.F p.m) s (p.F + k)
      rw [art_sum hKf.bas]
      rfl
    simp only [push_cast, ↓branch_true, ↓branch_false, Nat.reduceBEq, Nat.reduceAdd, Nat.reduceMul, Nat.reduceSub, Int.reduceToNat, reduceCtorEq, Int.reduceAdd, Int.reduceEq, Int.reduceLE, Int.reduceLT, Nat.reduceLT, Nat.reduceLeDiff]
    refine tr_loop mixed (by kernel_rfl) (fun (x : Nat × Nat) => [(20, .v (.int .i64 x.1)), (19, .v (.int .i64 p.m)), (5, .s 10 0 0 x.1 x.2 2), (4, .p 4 0 0), (1, .p 3 0 0)])
      (fun x => obP p ++ [oBx p] ++ tbK 4 (qF p cc bc sc nc) s.d s.T s.b ++ [oFr x.1 x.2 (gapY p s) s.d.toNat]) (fun x => x.1 ≤ p.m ∧ x.1 ≤ x.2) (fun x => p.m - x.1) (0, 0) ⟨Nat.zero_le _, Nat.le_refl _⟩ (Mt.wk (rl := [0, 1, 2, 3, 4, 5, 6, 7, 8, 9, 1000]) ⟨by kernel_rfl, ?_, ?_⟩) ?_
    · simp only [push_cast, ↓branch_true, ↓branch_false, Nat.reduceBEq, Nat.reduceAdd, Nat.reduceMul, Nat.reduceSub, Int.reduceToNat, reduceCtorEq, Int.reduceAdd, Int.reduceEq, Int.reduceLE, Int.reduceLT, Nat.reduceLT, Nat.reduceLeDiff]
      try trivial
    · simp only [push_cast, ↓branch_true, ↓branch_false, Nat.reduceBEq, Nat.reduceAdd, Nat.reduceMul, Nat.reduceSub, Int.reduceToNat, reduceCtorEq, Int.reduceAdd, Int.reduceEq, Int.reduceLE, Int.reduceLT, Nat.reduceLT, Nat.reduceLeDiff]
    rintro ⟨k, cy⟩ ⟨g3, g4⟩
    simp only at g3 g4
    simp only [push_cast, ↓branch_true, ↓branch_false, Nat.reduceBEq, Nat.reduceAdd, Nat.reduceMul, Nat.reduceSub, Int.reduceToNat, reduceCtorEq, Int.reduceAdd, Int.reduceEq, Int.reduceLE, Int.reduceLT, Nat.reduceLT, Nat.reduceLeDiff]
    refine ⟨fun h3 => ?_, fun h3 => ?_⟩
    · have hkm : k < p.m := by omega
      have hsk := hsa (p.F + k) (by omega)
      have hmu := hga k hkm
      have hmb : (gapY p s k).natAbs ≤ 1152921504606846976 := by
        rw [← hmu]
        unfold sgn
        split <;> omega
      have hpt := part_rn (qF p cc bc sc nc) s (gapY p s k) hmb hSm
      have hart := artificial_pu (qF p cc bc sc nc) s (p.F + k) (by show p.F + k < p.R + 1; omega) hSm
      obtain ⟨j, hj⟩ : ∃ j, j = p.F + k := ⟨_, rfl⟩
      have hFk : (p.F : Int) + (k : Nat) = (j : Nat) := by omega
      rw [← hj] at hart hmu hsk
      repeat (with_reducible refine And.intro (by omega) ?_)
      simp only [push_cast, ↓branch_true, ↓branch_false, Nat.reduceBEq, Nat.reduceAdd, Nat.reduceMul, Nat.reduceSub, Int.reduceToNat, reduceCtorEq, Int.reduceAdd, Int.reduceEq, Int.reduceLE, Int.reduceLT, Nat.reduceLT, Nat.reduceLeDiff, hFk]
      repeat' (first
        | (with_reducible apply And.intro)
        | (with_reducible intro _)
        | omega
        | (refine sp_c hart rfl [4, 5, 6, 7, 8, 9] ?_
           simp only [push_cast, ↓branch_true, ↓branch_false, Nat.reduceBEq, Nat.reduceAdd, Nat.reduceMul, Nat.reduceSub, Int.reduceToNat, reduceCtorEq, Int.reduceAdd, Int.reduceEq, Int.reduceLE, Int.reduceLT, Nat.reduceLT, Nat.reduceLeDiff, hmu]
           )
        | (refine sp_c hpt rfl [4, 5, 6, 7, 8, 9] ?_
           simp only [push_cast, ↓branch_true, ↓branch_false, Nat.reduceBEq, Nat.reduceAdd, Nat.reduceMul, Nat.reduceSub, Int.reduceToNat, reduceCtorEq, Int.reduceAdd, Int.reduceEq, Int.reduceLE, Int.reduceLT, Nat.reduceLT, Nat.reduceLeDiff]
           )
        | (refine Or.inr ⟨by omega, by omega, fun c2 hc2 => ?_⟩
           ))
      all_goals
        refine lpK_normal (k + 1, c2) [0, 1, 2, 3, 4, 5, 6, 7, 8, 9, 12] ⟨by simp only; omega, by simp only; omega⟩ (by simp only; omega) (by kernel_rfl) ?_ ?_
        · simp only [push_cast, ↓branch_true, ↓branch_false, Nat.reduceBEq, Nat.reduceAdd, Nat.reduceMul, Nat.reduceSub, Int.reduceToNat, reduceCtorEq, Int.reduceAdd, Int.reduceEq, Int.reduceLE, Int.reduceLT, Nat.reduceLT, Nat.reduceLeDiff]
          try trivial
        · simp only [push_cast, ↓branch_true, ↓branch_false, Nat.reduceBEq, Nat.reduceAdd, Nat.reduceMul, Nat.reduceSub, Int.reduceToNat, reduceCtorEq, Int.reduceAdd, Int.reduceEq, Int.reduceLE, Int.reduceLT, Nat.reduceLT, Nat.reduceLeDiff]
          exact lf4 (fun k => rn (gapY p s k) s.d.toNat) (fun k => (rd (gapY p s k) s.d.toNat : Nat))
    · obtain rfl : k = p.m := by omega
      repeat (with_reducible refine And.intro (by omega) ?_)
      refine ⟨_, _, [0, 1, 2, 10], ?_, by kernel_rfl, ?_, .ok s cy hv hf hKf hG g4⟩
      · simp only [push_cast, ↓branch_true, ↓branch_false, Nat.reduceBEq, Nat.reduceAdd, Nat.reduceMul, Nat.reduceSub, Int.reduceToNat, reduceCtorEq, Int.reduceAdd, Int.reduceEq, Int.reduceLE, Int.reduceLT, Nat.reduceLT, Nat.reduceLeDiff]
      · simp only [push_cast, ↓branch_true, ↓branch_false, Nat.reduceBEq, Nat.reduceAdd, Nat.reduceMul, Nat.reduceSub, Int.reduceToNat, reduceCtorEq, Int.reduceAdd, Int.reduceEq, Int.reduceLE, Int.reduceLT, Nat.reduceLT, Nat.reduceLeDiff]
end Go.Proofs.Ytmefgachdnlaoaa
