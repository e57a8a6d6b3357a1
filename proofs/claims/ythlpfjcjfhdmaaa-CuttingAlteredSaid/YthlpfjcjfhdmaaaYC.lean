/- CuttingAltered: the walk. -/
import Derived.Test.YthlpfjcjfhdmaaaYA
set_option maxRecDepth 100000
set_option linter.unusedSimpArgs false
set_option linter.unusedVariables false
namespace Go.Proofs.Ythlpfjcjfhdmaaa
open Go.RowKit
theorem updF_fam {f : Nat → Nat → SV} {v : SV} {i k x y : Nat} : updF (fun a b => [f a b]) i k [v] x y = [bif x == i && y == k then v else f x y] := by
  simp only [updF, mrgL, mrg1_eq]
  cases x == i && y == k <;> rfl
set_option maxHeartbeats 4000000 in
theorem laltered_sp (s l : List Pc) (k by_ : Int) (c c2 : Nat) (hk : 0 ≤ k ∧ k ≤ 255) (hby : -128 ≤ by_ ∧ by_ ≤ 127) : Sp Try.prog 5 [.s 0 0 0 s.length c 2, .s 1 0 0 l.length c2 2, .v (.int .u8 k), .v (.int .i8 by_)] [rSt s, rPc l] (fun r _ => r = .v (.bool true)) := by
  have hbig := big_eq
  refine sp_of_ex true [(10, .one 0 (.one 1 (.one 2 (.one 3 (.one 5 (.one 6 (.one 7 (.one 8 (.one 9 (.one 12 (.one 13 (.one 4 (.one 10 (.one 11 (.one 14 (.one 15 (.one 16 .fin)))))))))))))))))] mixed Try.call5 Try.func5 rfl Try.ntmps5 Try.results5 (by decide +kernel) rfl ?_
  simp only [push_cast, ↓branch_true, ↓branch_false, Nat.reduceBEq, Nat.reduceAdd, Nat.reduceMul, Nat.reduceSub, Int.reduceToNat, reduceCtorEq, branch_decide, branch_not, branch_beq, branch_bne]
  refine sp_at awake_sp [] rfl ?_ ?_ ?_
  · simp only [push_cast, ↓branch_true, ↓branch_false, Nat.reduceBEq, Nat.reduceAdd, Nat.reduceMul, Nat.reduceSub, Int.reduceToNat, reduceCtorEq, branch_decide, branch_not, branch_beq, branch_bne]
  · simp only [push_cast, ↓branch_true, ↓branch_false, Nat.reduceBEq, Nat.reduceAdd, Nat.reduceMul, Nat.reduceSub, Int.reduceToNat, reduceCtorEq, branch_decide, branch_not, branch_beq, branch_bne]
  rintro _ _ ⟨rfl, rfl⟩
  simp only [push_cast, ↓branch_true, ↓branch_false, Nat.reduceBEq, Nat.reduceAdd, Nat.reduceMul, Nat.reduceSub, Int.reduceToNat, reduceCtorEq, branch_decide, branch_not, branch_beq, branch_bne]
  have hm := many_pu s l [] (fun _ => 0) 0 c c2 0 (fun _ => []) (by decide)
  refine sp_call hm rfl [0, 1, 1000, 1001] rfl ?_ ?_ ?_
  · simp only [push_cast, ↓branch_true, ↓branch_false, Nat.reduceBEq, Nat.reduceAdd, Nat.reduceMul, Nat.reduceSub, Int.reduceToNat, reduceCtorEq, branch_decide, branch_not, branch_beq, branch_bne]
  · simp only [push_cast, ↓branch_true, ↓branch_false, Nat.reduceBEq, Nat.reduceAdd, Nat.reduceMul, Nat.reduceSub, Int.reduceToNat, reduceCtorEq, branch_decide, branch_not, branch_beq, branch_bne]
    omega
  cases hmb : manyB s.length l [] with
  | true =>
    simp only [push_cast, ↓branch_true, ↓branch_false, Nat.reduceBEq, Nat.reduceAdd, Nat.reduceMul, Nat.reduceSub, Int.reduceToNat, reduceCtorEq, branch_decide, branch_not, branch_beq, branch_bne]
  | false =>
  obtain ⟨hsl, hll, _⟩ := many_no hmb
  simp only [push_cast, ↓branch_true, ↓branch_false, Nat.reduceBEq, Nat.reduceAdd, Nat.reduceMul, Nat.reduceSub, Int.reduceToNat, reduceCtorEq, branch_decide, branch_not, branch_beq, branch_bne]
  refine sp_call (heavy_pu l c2 (by omega)) rfl [1] rfl (by simp only [push_cast, ↓branch_true, ↓branch_false, Nat.reduceBEq, Nat.reduceAdd, Nat.reduceMul, Nat.reduceSub, Int.reduceToNat, reduceCtorEq, branch_decide, branch_not, branch_beq, branch_bne]) (by simp only [push_cast, ↓branch_true, ↓branch_false, Nat.reduceBEq, Nat.reduceAdd, Nat.reduceMul, Nat.reduceSub, Int.reduceToNat, reduceCtorEq, branch_decide, branch_not, branch_beq, branch_bne]) ?_
  simp only [push_cast, ↓branch_true, ↓branch_false, Nat.reduceBEq, Nat.reduceAdd, Nat.reduceMul, Nat.reduceSub, Int.reduceToNat, reduceCtorEq, branch_decide, branch_not, branch_beq, branch_bne]
  cases hhb : heavyB l with
  | true =>
    simp only [push_cast, ↓branch_true, ↓branch_false, Nat.reduceBEq, Nat.reduceAdd, Nat.reduceMul, Nat.reduceSub, Int.reduceToNat, reduceCtorEq, branch_decide, branch_not, branch_beq, branch_bne]
  | false =>
  simp only [push_cast, ↓branch_true, ↓branch_false, Nat.reduceBEq, Nat.reduceAdd, Nat.reduceMul, Nat.reduceSub, Int.reduceToNat, reduceCtorEq, branch_decide, branch_not, branch_beq, branch_bne]
  refine sp_call (rvalidS_pu s c (by omega)) rfl [0] rfl (by simp only [push_cast, ↓branch_true, ↓branch_false, Nat.reduceBEq, Nat.reduceAdd, Nat.reduceMul, Nat.reduceSub, Int.reduceToNat, reduceCtorEq, branch_decide, branch_not, branch_beq, branch_bne]) (by simp only [push_cast, ↓branch_true, ↓branch_false, Nat.reduceBEq, Nat.reduceAdd, Nat.reduceMul, Nat.reduceSub, Int.reduceToNat, reduceCtorEq, branch_decide, branch_not, branch_beq, branch_bne]) ?_
  simp only [push_cast, ↓branch_true, ↓branch_false, Nat.reduceBEq, Nat.reduceAdd, Nat.reduceMul, Nat.reduceSub, Int.reduceToNat, reduceCtorEq, branch_decide, branch_not, branch_beq, branch_bne]
  cases hvs : stB s with
  | false =>
    simp only [push_cast, ↓branch_true, ↓branch_false, Nat.reduceBEq, Nat.reduceAdd, Nat.reduceMul, Nat.reduceSub, Int.reduceToNat, reduceCtorEq, branch_decide, branch_not, branch_beq, branch_bne]
  | true =>
  simp only [push_cast, ↓branch_true, ↓branch_false, Nat.reduceBEq, Nat.reduceAdd, Nat.reduceMul, Nat.reduceSub, Int.reduceToNat, reduceCtorEq, branch_decide, branch_not, branch_beq, branch_bne]
  refine sp_call (rorder_pu l c2 (by omega)) rfl [1] rfl (by simp only [push_cast, ↓branch_true, ↓branch_false, Nat.reduceBEq, Nat.reduceAdd, Nat.reduceMul, Nat.reduceSub, Int.reduceToNat, reduceCtorEq, branch_decide, branch_not, branch_beq, branch_bne]) (by simp only [push_cast, ↓branch_true, ↓branch_false, Nat.reduceBEq, Nat.reduceAdd, Nat.reduceMul, Nat.reduceSub, Int.reduceToNat, reduceCtorEq, branch_decide, branch_not, branch_beq, branch_bne]) ?_
  simp only [push_cast, ↓branch_true, ↓branch_false, Nat.reduceBEq, Nat.reduceAdd, Nat.reduceMul, Nat.reduceSub, Int.reduceToNat, reduceCtorEq, branch_decide, branch_not, branch_beq, branch_bne]
  cases hvo : orderB l with
  | false =>
    simp only [push_cast, ↓branch_true, ↓branch_false, Nat.reduceBEq, Nat.reduceAdd, Nat.reduceMul, Nat.reduceSub, Int.reduceToNat, reduceCtorEq, branch_decide, branch_not, branch_beq, branch_bne]
  | true =>
  simp only [push_cast, ↓branch_true, ↓branch_false, Nat.reduceBEq, Nat.reduceAdd, Nat.reduceMul, Nat.reduceSub, Int.reduceToNat, reduceCtorEq, branch_decide, branch_not, branch_beq, branch_bne]
  intro hby0
  refine sp_at (greedy_sp s l c c2 (by omega) (by omega)) [0, 1] rfl ?_ ?_ ?_
  · simp only [push_cast, ↓branch_true, ↓branch_false, Nat.reduceBEq, Nat.reduceAdd, Nat.reduceMul, Nat.reduceSub, Int.reduceToNat, reduceCtorEq, branch_decide, branch_not, branch_beq, branch_bne]
  · simp only [push_cast, ↓branch_true, ↓branch_false, Nat.reduceBEq, Nat.reduceAdd, Nat.reduceMul, Nat.reduceSub, Int.reduceToNat, reduceCtorEq, branch_decide, branch_not, branch_beq, branch_bne]
  rintro _ _ ⟨oc, cp, hoc, rfl, rfl⟩
  simp only [push_cast, ↓branch_true, ↓branch_false, Nat.reduceBEq, Nat.reduceAdd, Nat.reduceMul, Nat.reduceSub, Int.reduceToNat, reduceCtorEq, branch_decide, branch_not, branch_beq, branch_bne]
  refine fun he hne => ?_
  have hP := gplan he
  generalize gRes s l = p at *
  have hpl := hP.len
  have hps := hP.ps
  obtain ⟨i, hi, hin⟩ : ∃ i : Nat, k.tmod (p.length : Int) = i ∧ i < p.length := by
    have h1 := Int.tmod_nonneg (a := k) (p.length : Int) hk.1
    have h2 := Int.tmod_lt_of_pos k (b := (p.length : Int)) (by omega)
    exact ⟨(k.tmod p.length).toNat, by omega, by omega⟩
  have hl0 : 0 < l.length := by
    obtain ⟨j, hj, _⟩ := hP.has _ (ix_mem hin)
    omega
  obtain ⟨j, hj, hjn⟩ : ∃ j : Nat, k.tmod (l.length : Int) = j ∧ j < l.length := by
    have h1 := Int.tmod_nonneg (a := k) (l.length : Int) hk.1
    have h2 := Int.tmod_lt_of_pos k (b := (l.length : Int)) (by omega)
    exact ⟨(k.tmod l.length).toNat, by omega, by omega⟩
  have hpx : ∀ b ∈ p, 0 < b.ps.length ∧ b.ps.length ≤ 100000 := fun b hb => by rw [hps b hb]; omega
  rw [hi]
  repeat (with_reducible refine And.intro (by omega) ?_)
  refine sp_at (copy_sp p cp oc (big + 2) (fmP p) (by omega) (fun _ _ => rfl) (by omega) hpx) [2, 3] rfl ?_ ?_ ?_
  · simp only [push_cast, ↓branch_true, ↓branch_false, Nat.reduceBEq, Nat.reduceAdd, Nat.reduceMul, Nat.reduceSub, Int.reduceToNat, reduceCtorEq, branch_decide, branch_not, branch_beq, branch_bne]
  · simp only [push_cast, ↓branch_true, ↓branch_false, Nat.reduceBEq, Nat.reduceAdd, Nat.reduceMul, Nat.reduceSub, Int.reduceToNat, reduceCtorEq, branch_decide, branch_not, branch_beq, branch_bne]
  rintro _ _ ⟨oc1, cp1, hoc1, rfl, rfl⟩
  simp only [push_cast, ↓branch_true, ↓branch_false, Nat.reduceBEq, Nat.reduceAdd, Nat.reduceMul, Nat.reduceSub, Int.reduceToNat, reduceCtorEq, branch_decide, branch_not, branch_beq, branch_bne]
  have e1 : (i : Int).toNat = i := by omega
  rw [hj]
  have hpi := hps _ (ix_mem hin)
  repeat (with_reducible refine And.intro (by omega) ?_)
  have e2 : (j : Int).toNat = j := by omega
  rw [e2]
  have hfi := (right_yes.1 hP.right).2.1 i hin
  have hok := (fit_at hfi).2 j hjn
  have hoj := order_at hvo hjn
  have hbig2 : i < big + 2 := by omega
  refine ⟨by omega, by omega, by omega, by omega, by omega, ?_⟩
  have hq1 : (p.set i ⟨(ix p i).stock, (ix p i).ps.set j (ix (ix p i).ps j + by_), (ix p i).times⟩).length = p.length := by simp
  have hsmall : ∀ x ∈ p, x.ps.length ≤ 9223372036854775806 := fun x hx => by have := hpx x hx; omega
  refine sp_pu (check_any (J := 4) (cp := cp1) hq1 (by omega) (by omega) (fun q hq => ?_) (by omega) rfl rfl rfl (by omega) fun q hq => ?_) ?_
  · rw [hq1] at hq
    by_cases e : q = i
    · subst e; rw [ix_set_self hin]; simp only [List.length_set]; exact hsmall _ (ix_mem hin)
    · rw [ix_set_ne e]; exact hsmall _ (ix_mem hq)
  · rw [hq1] at hq
    by_cases e : q = i
    · subst e
      rw [ix_set_self hin]
      refine ⟨_, rfl, ld_fam (F := 5) rfl (by simp) (by omega) (by simp) fun z hz => ?_⟩
      simp only [List.length_set] at hz
      rw [Nat.zero_add, updF_fam]
      by_cases ez : z = j
      · subst ez
        rw [ix_set_self hz]
        simp
      · rw [ix_set_ne ez]
        have : (z == j) = false := by simpa using ez
        rw [this]
        simp
    · rw [ix_set_ne e]
      refine ⟨_, rfl, ld_fam (F := 5) rfl rfl (by omega) (by simp) fun z hz => ?_⟩
      rw [Nat.zero_add, updF_fam]
      have : (q == i) = false := by simpa using e
      rw [this]
      simp
  rw [alt_ps hP hin hjn hby0, hvs, hvo]
  simp only [push_cast, ↓branch_true, ↓branch_false, Nat.reduceBEq, Nat.reduceAdd, Nat.reduceMul, Nat.reduceSub, Int.reduceToNat, reduceCtorEq, branch_decide, branch_not, branch_beq, branch_bne]
  intro _
  refine sp_at (copy_sp p cp oc (big + 2) (fmP p) (by omega) (fun _ _ => rfl) (by omega) hpx) [2, 3] rfl ?_ ?_ ?_
  · simp only [push_cast, ↓branch_true, ↓branch_false, Nat.reduceBEq, Nat.reduceAdd, Nat.reduceMul, Nat.reduceSub, Int.reduceToNat, reduceCtorEq, branch_decide, branch_not, branch_beq, branch_bne]
  · simp only [push_cast, ↓branch_true, ↓branch_false, Nat.reduceBEq, Nat.reduceAdd, Nat.reduceMul, Nat.reduceSub, Int.reduceToNat, reduceCtorEq, branch_decide, branch_not, branch_beq, branch_bne]
  rintro _ _ ⟨oc2, cp2, hoc2, rfl, rfl⟩
  simp only [push_cast, ↓branch_true, ↓branch_false, Nat.reduceBEq, Nat.reduceAdd, Nat.reduceMul, Nat.reduceSub, Int.reduceToNat, reduceCtorEq, branch_decide, branch_not, branch_beq, branch_bne]
  have hti := plan_at (right_yes.1 hP.right).1 hin
  repeat (with_reducible refine And.intro (by omega) ?_)
  have hq2 : (p.set i ⟨(ix p i).stock, (ix p i).ps, (ix p i).times + by_⟩).length = p.length := by simp
  refine sp_pu (check_any (J := 6) (cp := cp2) hq2 (by omega) (by omega) (fun q hq => ?_) (by omega) rfl rfl rfl (by omega) fun q hq => ?_) ?_
  · rw [hq2] at hq
    by_cases e : q = i
    · subst e; rw [ix_set_self hin]; exact hsmall (ix p q) (ix_mem hin)
    · rw [ix_set_ne e]; exact hsmall _ (ix_mem hq)
  · rw [hq2] at hq
    by_cases e : q = i
    · subst e
      rw [ix_set_self hin]
      exact ⟨.s 7 q 0 (ix p q).ps.length (cp2 q) 1, by simp [updF, mrgL, mrg1_eq], ld_fam (F := 7) rfl rfl (by omega) (by simp) fun z hz => by simp⟩
    · rw [ix_set_ne e]
      have he : (q == i) = false := by simpa using e
      exact ⟨.s 7 q 0 (ix p q).ps.length (cp2 q) 1, by simp [updF, mrgL, mrg1_eq, he], ld_fam (F := 7) rfl rfl (by omega) (by simp) fun z hz => by simp⟩
  rw [alt_times hP hin hby0, hvs, hvo]
  simp only [push_cast, ↓branch_true, ↓branch_false, Nat.reduceBEq, Nat.reduceAdd, Nat.reduceMul, Nat.reduceSub, Int.reduceToNat, reduceCtorEq, branch_decide, branch_not, branch_beq, branch_bne]
  intro _
  refine sp_at (copy_sp p cp oc (big + 2) (fmP p) (by omega) (fun _ _ => rfl) (by omega) hpx) [2, 3] rfl ?_ ?_ ?_
  · simp only [push_cast, ↓branch_true, ↓branch_false, Nat.reduceBEq, Nat.reduceAdd, Nat.reduceMul, Nat.reduceSub, Int.reduceToNat, reduceCtorEq, branch_decide, branch_not, branch_beq, branch_bne]
  · simp only [push_cast, ↓branch_true, ↓branch_false, Nat.reduceBEq, Nat.reduceAdd, Nat.reduceMul, Nat.reduceSub, Int.reduceToNat, reduceCtorEq, branch_decide, branch_not, branch_beq, branch_bne]
  rintro _ _ ⟨oc3, cp3, hoc3, rfl, rfl⟩
  simp only [push_cast, ↓branch_true, ↓branch_false, Nat.reduceBEq, Nat.reduceAdd, Nat.reduceMul, Nat.reduceSub, Int.reduceToNat, reduceCtorEq, branch_decide, branch_not, branch_beq, branch_bne]
  repeat (with_reducible refine And.intro (by omega) ?_)
  refine sp_at (delete_sp p cp3 oc3 i hin (by omega) hoc3) [8, 9] rfl ?_ ?_ ?_
  · simp only [push_cast, ↓branch_true, ↓branch_false, Nat.reduceBEq, Nat.reduceAdd, Nat.reduceMul, Nat.reduceSub, Int.reduceToNat, reduceCtorEq, branch_decide, branch_not, branch_beq, branch_bne]
  · simp only [push_cast, ↓branch_true, ↓branch_false, Nat.reduceBEq, Nat.reduceAdd, Nat.reduceMul, Nat.reduceSub, Int.reduceToNat, reduceCtorEq, branch_decide, branch_not, branch_beq, branch_bne]
  rintro _ _ ⟨rfl, rfl⟩
  simp only [push_cast, ↓branch_true, ↓branch_false, Nat.reduceBEq, Nat.reduceAdd, Nat.reduceMul, Nat.reduceSub, Int.reduceToNat, reduceCtorEq, branch_decide, branch_not, branch_beq, branch_bne]
  have hq3 : (p.eraseIdx i).length = p.length - 1 := by rw [List.length_eraseIdx, if_pos hin]
  refine sp_pu (check_any (J := 8) (cp := fun k => cp3 (if k < i then k else k + 1)) hq3 (by omega) (by omega) (fun q hq => ?_) (by omega) rfl rfl rfl (by omega) fun q hq => ?_) ?_
  · rw [hq3] at hq
    rw [ix_erase hin hq]
    exact hsmall _ (ix_mem (by split <;> omega))
  · rw [hq3] at hq
    rw [ix_erase hin hq]
    exact ⟨_, rfl, ld_fam (F := 9) rfl rfl (by split <;> omega) (by simp) fun z hz => by simp⟩
  rw [alt_del hP hin, hvs, hvo]
  simp only [push_cast, ↓branch_true, ↓branch_false, Nat.reduceBEq, Nat.reduceAdd, Nat.reduceMul, Nat.reduceSub, Int.reduceToNat, reduceCtorEq, branch_decide, branch_not, branch_beq, branch_bne]
end Go.Proofs.Ythlpfjcjfhdmaaa
