/- CuttingAltered: Copy and Delete. -/
import Derived.Test.YthlpfjcjfhdmaaaT
set_option maxRecDepth 100000
set_option linter.unusedSimpArgs false
set_option linter.unusedVariables false
namespace Go.Proofs.Ythlpfjcjfhdmaaa
open Go.RowKit
set_option maxHeartbeats 4000000 in
theorem copy_sp (p : List Pt) (cp : Nat → Nat) (c N : Nat) (G : Nat → List Int) (hN : p.length ≤ N) (hG : ∀ k, k < p.length → G k = (ix p k).ps) (ho : p.length ≤ 100000) (hp : ∀ b ∈ p, 0 < b.ps.length ∧ b.ps.length ≤ 100000) :
    Sp Try.prog 23 [.s 0 0 0 p.length c 3] [rPt 1 p cp, rFm N G] (fun r H => ∃ oc cp2, p.length ≤ oc ∧ r = .s 2 0 0 p.length oc 3 ∧ H = [rPt 1 p cp, rFm N G, oPt 3 p cp2 oc, oFm cp2 (fmP p)]) := by
  refine sp_weak ?_
  refine sp_of_ex true [(5, .pre [] [0, 1, 2, 3, 4, 5, 7, 8, 9, 10, 11, 13, 14, 15, 16, 17] (.one 6 (.one 12 (.one 18 (.one 19 (.one 20 (.one 21 .fin)))))))] mixed Try.call23 Try.func23 rfl Try.ntmps23 Try.results23 (by decide +kernel) rfl ?_
  simp only [push_cast, ↓branch_true, ↓branch_false, Nat.reduceBEq, Nat.reduceAdd, Nat.reduceMul, Nat.reduceSub, Int.reduceToNat, reduceCtorEq, branch_decide, branch_not, branch_beq, branch_bne]
  refine tr_loop mixed (by kernel_rfl) (fun (x : Nat × Nat × (Nat → Nat)) => [(4, .v (.int .i64 x.1)), (3, .s 2 0 0 x.1 x.2.1 3), (0, .s 0 0 0 p.length c 3)])
    (fun x => [rPt 1 p cp, rFm N G, oPt 3 (p.take x.1) x.2.2 x.2.1, oFm x.2.2 (fmP (p.take x.1))]) (fun x => x.1 ≤ p.length ∧ x.1 ≤ x.2.1 ∧ ∀ k, x.1 ≤ k → x.2.2 k = 0) (fun x => p.length - x.1) (0, 0, fun _ => 0) ⟨Nat.zero_le _, Nat.le_refl _, fun _ _ => rfl⟩ (Mt.wk (rl := [0, 1, 2, 3]) ⟨by kernel_rfl, ?_, ?_⟩) ?_
  · simp only [push_cast, ↓branch_true, ↓branch_false, Nat.reduceBEq, Nat.reduceAdd, Nat.reduceMul, Nat.reduceSub, Int.reduceToNat, reduceCtorEq, branch_decide, branch_not, branch_beq, branch_bne]
    try exact rfl
  · simp only [push_cast, ↓branch_true, ↓branch_false, Nat.reduceBEq, Nat.reduceAdd, Nat.reduceMul, Nat.reduceSub, Int.reduceToNat, reduceCtorEq, branch_decide, branch_not, branch_beq, branch_bne]
    exact ⟨by decide, Or.inr fun _ => rfl⟩
  rintro ⟨k, oc, cp2⟩ ⟨h1, h2, h3⟩
  simp only at h1 h2 h3
  have hlt : (p.take k).length = k := by simp; omega
  generalize hout : p.take k = out at *
  simp only [push_cast, ↓branch_true, ↓branch_false, Nat.reduceBEq, Nat.reduceAdd, Nat.reduceMul, Nat.reduceSub, Int.reduceToNat, reduceCtorEq, branch_decide, branch_not, branch_beq, branch_bne]
  refine ⟨fun h => ?_, fun h => ?_⟩
  rotate_left
  · obtain rfl : k = p.length := by omega
    rw [List.take_length] at hout
    subst hout
    refine ⟨_, _, [0, 1, 2, 3], ?_, by kernel_rfl, ?_, oc, cp2, h2, rfl, rfl⟩
    · simp only [push_cast, ↓branch_true, ↓branch_false, Nat.reduceBEq, Nat.reduceAdd, Nat.reduceMul, Nat.reduceSub, Int.reduceToNat, reduceCtorEq, branch_decide, branch_not, branch_beq, branch_bne]
    · simp only [push_cast, ↓branch_true, ↓branch_false, Nat.reduceBEq, Nat.reduceAdd, Nat.reduceMul, Nat.reduceSub, Int.reduceToNat, reduceCtorEq, branch_decide, branch_not, branch_beq, branch_bne]
  have hk : k < p.length := by omega
  have hkp := hp _ (ix_mem hk)
  have hGk := hG k hk
  repeat (with_reducible refine And.intro (by omega) ?_)
  have hbig := big_eq
  have hno : p.take (k + 1) = out ++ [ix p k] := by rw [take_snoc hk, hout]
  subst hlt
  generalize hpk : ix p out.length = pk at *
  refine ⟨by rw [hGk]; exact Nat.le_refl _, ?_, appZ_of (fun h => by omega) fun _ => .inl ⟨by omega, by omega, fun cap hcap => ⟨by decide, by decide, ?_⟩⟩⟩
  · unfold srcOk
    split <;> simp [lenP, lenIs, ones, one1]
  refine Or.inr ?_
  repeat (with_reducible refine And.intro (by omega) ?_)
  intro oc2 hoc2
  repeat (with_reducible refine And.intro (by omega) ?_)
  refine lpK_wk (out.length + 1, oc2, fun q => bif q == out.length then cap else cp2 q) ⟨by simp only; omega, by simp only; omega, fun q hq => ?_⟩ (by simp only; omega) ((swk_place 3 out.length 5 (by omega) (by omega) (by omega) ?_).trans (Mt.wk (rl := [0, 1, 7, 3]) ⟨by kernel_rfl, ?_, ?_⟩))
  · simp only at hq ⊢
    have : (q == out.length) = false := by simp; omega
    rw [this]
    exact h3 q (by omega)
  · simp only [push_cast, ↓branch_true, ↓branch_false, Nat.reduceBEq, Nat.reduceAdd, Nat.reduceMul, Nat.reduceSub, Int.reduceToNat, reduceCtorEq, branch_decide, branch_not, branch_beq, branch_bne]
    omega
  · simp only [push_cast, ↓branch_true, ↓branch_false, Nat.reduceBEq, Nat.reduceAdd, Nat.reduceMul, Nat.reduceSub, Int.reduceToNat, reduceCtorEq, branch_decide, branch_not, branch_beq, branch_bne, hno, List.length_append]
  · simp only [push_cast, ↓branch_true, ↓branch_false, Nat.reduceBEq, Nat.reduceAdd, Nat.reduceMul, Nat.reduceSub, Int.reduceToNat, reduceCtorEq, branch_decide, branch_not, branch_beq, branch_bne, hno, List.length_append]
    refine ⟨fun x hx q hq => ?_, fun q hq => ?_⟩
    · by_cases eq : q = out.length
      · subst eq
        have hb2 : decide (out.length < out.length) = false := by simp
        simp only [push_cast, ↓branch_true, ↓branch_false, Nat.reduceBEq, Nat.reduceAdd, Nat.reduceMul, Nat.reduceSub, Int.reduceToNat, reduceCtorEq, branch_decide, branch_not, branch_beq, branch_bne, ix_app_last, hb2]
      · have hb : (q == out.length) = false := by simpa using eq
        have hb2 : decide (q < out.length) = true := by simp; omega
        simp only [push_cast, ↓branch_true, ↓branch_false, Nat.reduceBEq, Nat.reduceAdd, Nat.reduceMul, Nat.reduceSub, Int.reduceToNat, reduceCtorEq, branch_decide, branch_not, branch_beq, branch_bne, ix_app_ne eq, hb, hb2]
    · by_cases eq : q = out.length
      · subst eq
        simp only [push_cast, ↓branch_true, ↓branch_false, Nat.reduceBEq, Nat.reduceAdd, Nat.reduceMul, Nat.reduceSub, Int.reduceToNat, reduceCtorEq, branch_decide, branch_not, branch_beq, branch_bne, ix_app_last]
        intro j _
        rw [hGk]
      · have hb : (q == out.length) = false := by simpa using eq
        simp only [push_cast, ↓branch_true, ↓branch_false, Nat.reduceBEq, Nat.reduceAdd, Nat.reduceMul, Nat.reduceSub, Int.reduceToNat, reduceCtorEq, branch_decide, branch_not, branch_beq, branch_bne, ix_app_ne eq, hb]
end Go.Proofs.Ythlpfjcjfhdmaaa
