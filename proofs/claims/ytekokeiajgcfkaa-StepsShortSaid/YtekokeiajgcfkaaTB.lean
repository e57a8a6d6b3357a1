/- StepsShort: slices.Clone of steps. -/
import Derived.Test.YtekokeiajgcfkaaTA
set_option maxRecDepth 100000
set_option linter.unusedSimpArgs false
set_option linter.unusedVariables false
namespace Go.Proofs.Ytekokeiajgcfkaa
open Go.RowKit
theorem sp_know {P : Program} {p : Prop} {f : FuncId} {args : List SV} {H : List Ob} {K : SV → List Ob → Prop} (h1 : ∀ vs w, (callFunc f vs).run P w = .ok (.enter f vs) w) (hf : ∀ β w vals, Inv β H w → OkL β args vals → p) (hs : p → Sp P f args H K) : Sp P f args H K :=
  ⟨h1, fun β w vals hI ha => (hs (hf β w vals hI ha)).2 β w vals hI ha⟩
theorem src_stp (f : Nat → Stp) (n : Nat) : srcOk (fun k => cSt (f k)) 2 n := by
  unfold srcOk
  split <;> simp [cSt, lenP, lenIs, ones, one1]
theorem cloneSt_sp (l : List Stp) (c : Nat) (hl : l.length ≤ 2000) : Sp Try.prog 33 [.s 0 0 0 l.length c 2] [rSt l] (fun r H => ∃ cap, l.length ≤ cap ∧ r = .s 1 0 0 l.length cap 2 ∧ H = [rSt l, rSO l cap]) := by
  refine sp_know (p := l.length ≤ c) Try.call33 (fun β w vals _ ha => ?_) fun hd => ?_
  · simp only [OkL, Ok] at ha
    obtain ⟨u, us, _, ⟨A, _, h, _⟩, _⟩ := ha
    exact h
  refine sp_weak ?_
  refine sp_of_ex true [] mixed Try.call33 Try.func33 rfl Try.ntmps33 Try.results33 (by decide +kernel) rfl ?_
  simp only [push_cast, ↓branch_true, ↓branch_false, Nat.reduceBEq, Nat.reduceAdd, Nat.reduceMul, Nat.reduceSub, Int.reduceToNat, reduceCtorEq, branch_decide, branch_not, branch_beq, branch_bne]
  intro b hb
  cases b with
  | true =>
    have hc : ¬ 0 < c := fun h => by have := hb h; cases this
    have e : l = [] := List.length_eq_zero_iff.1 (by omega)
    subst e
    simp only [push_cast, ↓branch_true, ↓branch_false, Nat.reduceBEq, Nat.reduceAdd, Nat.reduceMul, Nat.reduceSub, Int.reduceToNat, reduceCtorEq, branch_decide, branch_not, branch_beq, branch_bne]
    refine ⟨_, _, [0, 1], ?_, by kernel_rfl, ?_, 0, Nat.le_refl _, rfl, rfl⟩
    · simp only [push_cast, ↓branch_true, ↓branch_false, Nat.reduceBEq, Nat.reduceAdd, Nat.reduceMul, Nat.reduceSub, Int.reduceToNat, reduceCtorEq, branch_decide, branch_not, branch_beq, branch_bne]
    · simp only [push_cast, ↓branch_true, ↓branch_false, Nat.reduceBEq, Nat.reduceAdd, Nat.reduceMul, Nat.reduceSub, Int.reduceToNat, reduceCtorEq, branch_decide, branch_not, branch_beq, branch_bne]
  | false =>
    simp only [push_cast, ↓branch_true, ↓branch_false, Nat.reduceBEq, Nat.reduceAdd, Nat.reduceMul, Nat.reduceSub, Int.reduceToNat, reduceCtorEq, branch_decide, branch_not, branch_beq, branch_bne]
    refine ⟨by omega, by omega, src_stp _ _, appZ_of (fun h => ?_) fun _ => .inl ⟨by omega, by omega, fun cap hcap => ?_⟩⟩
    · have e : l = [] := List.length_eq_zero_iff.1 h
      subst e
      refine ⟨_, _, [0, 1], ?_, by kernel_rfl, ?_, 0, Nat.le_refl _, rfl, rfl⟩
      · simp only [push_cast, ↓branch_true, ↓branch_false, Nat.reduceBEq, Nat.reduceAdd, Nat.reduceMul, Nat.reduceSub, Int.reduceToNat, reduceCtorEq, branch_decide, branch_not, branch_beq, branch_bne]
      · simp only [push_cast, ↓branch_true, ↓branch_false, Nat.reduceBEq, Nat.reduceAdd, Nat.reduceMul, Nat.reduceSub, Int.reduceToNat, reduceCtorEq, branch_decide, branch_not, branch_beq, branch_bne]
        exact fun _ _ k hk => absurd hk (by omega)
    · refine ⟨_, _, [0, 2], ?_, by kernel_rfl, ?_, cap, hcap, rfl, rfl⟩
      · simp only [push_cast, ↓branch_true, ↓branch_false, Nat.reduceBEq, Nat.reduceAdd, Nat.reduceMul, Nat.reduceSub, Int.reduceToNat, reduceCtorEq, branch_decide, branch_not, branch_beq, branch_bne]
      · simp only [push_cast, ↓branch_true, ↓branch_false, Nat.reduceBEq, Nat.reduceAdd, Nat.reduceMul, Nat.reduceSub, Int.reduceToNat, reduceCtorEq, branch_decide, branch_not, branch_beq, branch_bne]
end Go.Proofs.Ytekokeiajgcfkaa
