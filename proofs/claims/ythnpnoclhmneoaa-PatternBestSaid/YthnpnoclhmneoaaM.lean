/- Contracts: awake. -/
import Derived.Test.YthnpnoclhmneoaaL
set_option maxRecDepth 100000
set_option linter.unusedSimpArgs false
set_option linter.unusedVariables false
namespace Go.Proofs.Ythnpnoclhmneoaa
open Go.RowKit
theorem equalFunc3_pu (P : List (List Int)) (p : Nat → Nat) (c d ca cb cc : Nat) (A B C : List Int) (hP : P.length = 3) (hp : ∀ x ∈ P, x.length ≤ 9223372036854775806) (hA : A.length ≤ 9223372036854775806) (hB : B.length ≤ 9223372036854775806) (hC : C.length ≤ 9223372036854775806) :
    Pu Try.prog 13 [.s 1 0 0 P.length c 1, .s 5 0 0 3 d 1, .f (.func 14) [] []] [rLL P, rOut 0 P p, rInt 3 A, rInt 3 B, rInt 3 C, ⟨32, true, .row 1 1 (fun _ => 3) (fun _ => 0) (fun _ => rowF [.s 2 0 0 A.length ca 1, .s 3 0 0 B.length cb 1, .s 4 0 0 C.length cc 1] 1)⟩] (.v (.bool (decide (P = [A, B, C])))) := by
  refine pu_of_ex true [] mixed Try.call13 Try.func13 rfl Try.ntmps13 Try.results13 (by decide +kernel) rfl rfl rfl ?_
  simp only [push_cast, ↓branch_true, ↓branch_false, Nat.reduceBEq, Nat.reduceAdd, Nat.reduceMul, Nat.reduceSub, Int.reduceToNat, reduceCtorEq, branch_decide, branch_not, branch_beq, branch_bne]
  refine ⟨fun h => ?_, fun h => absurd hP (by omega)⟩
  refine tr_loop0 mixed (by kernel_rfl) (fun (k : Nat) => [(17, .v (.int .i64 k)), (16, .v (.int .i64 P.length)), (15, .s 1 0 0 P.length c 1), (1, .s 5 0 0 3 d 1), (2, .f (.func 14) [] [])]) (fun k => k ≤ 3 ∧ ∀ j, j < k → ix P j = ix [A, B, C] j) (fun k => 3 - k) 0 ⟨Nat.zero_le _, fun j h => by omega⟩ ?_ ?_
  · simp only [push_cast, ↓branch_true, ↓branch_false, Nat.reduceBEq, Nat.reduceAdd, Nat.reduceMul, Nat.reduceSub, Int.reduceToNat, reduceCtorEq, branch_decide, branch_not, branch_beq, branch_bne]
  · rintro k ⟨hk, hn⟩
    have h3 : k = 0 ∨ k = 1 ∨ k = 2 ∨ k = 3 := by omega
    rcases h3 with rfl | rfl | rfl | rfl
    · skip
      simp only [push_cast, ↓branch_true, ↓branch_false, Nat.reduceBEq, Nat.reduceAdd, Nat.reduceMul, Nat.reduceSub, Int.reduceToNat, reduceCtorEq, branch_decide, branch_not, branch_beq, branch_bne]
      refine ⟨fun h4 => ?_, fun h4 => absurd hP (by omega)⟩
      repeat (with_reducible refine And.intro (by omega) ?_)
      refine sp_call (equal_pu P [A] 0 0 (p 0) ca (by omega) (by simp) (hp _ (ix_mem (by omega))) hA) rfl [0, 2] rfl ?_ ?_ ?_
      · simp only [push_cast, ↓branch_true, ↓branch_false, Nat.reduceBEq, Nat.reduceAdd, Nat.reduceMul, Nat.reduceSub, Int.reduceToNat, reduceCtorEq, branch_decide, branch_not, branch_beq, branch_bne]
        rfl
      · simp only [push_cast, ↓branch_true, ↓branch_false, Nat.reduceBEq, Nat.reduceAdd, Nat.reduceMul, Nat.reduceSub, Int.reduceToNat, reduceCtorEq, branch_decide, branch_not, branch_beq, branch_bne]
        intro i hi
        obtain rfl : i = 0 := by omega
        exact ⟨Nat.le_refl _, fun k _ => rfl⟩
      · simp only [push_cast, ↓branch_true, ↓branch_false, Nat.reduceBEq, Nat.reduceAdd, Nat.reduceMul, Nat.reduceSub, Int.reduceToNat, reduceCtorEq, branch_decide, branch_not, branch_beq, branch_bne]
        refine ⟨fun h5 => ?_, fun h5 => ?_⟩
        · repeat (with_reducible refine And.intro (by omega) ?_)
          refine lp0_normal 1 ⟨by omega, fun j hj => ?_⟩ (by omega) ?_
          · by_cases e : j = 0
            · subst e; exact h5
            · exact hn j (by omega)
          · simp only [push_cast, ↓branch_true, ↓branch_false, Nat.reduceBEq, Nat.reduceAdd, Nat.reduceMul, Nat.reduceSub, Int.reduceToNat, reduceCtorEq, branch_decide, branch_not, branch_beq, branch_bne]
        · have : ¬ P = [A, B, C] := fun e => h5 (by rw [e]; rfl)
          simp [this]
    · skip
      rw [show ((1 : Nat) : Int) = 1 from rfl]
      simp only [push_cast, ↓branch_true, ↓branch_false, Nat.reduceBEq, Nat.reduceAdd, Nat.reduceMul, Nat.reduceSub, Int.reduceToNat, reduceCtorEq, branch_decide, branch_not, branch_beq, branch_bne]
      refine ⟨fun h4 => ?_, fun h4 => absurd hP (by omega)⟩
      repeat (with_reducible refine And.intro (by omega) ?_)
      refine sp_call (equal_pu P [B] 1 0 (p 1) cb (by omega) (by simp) (hp _ (ix_mem (by omega))) hB) rfl [0, 3] rfl ?_ ?_ ?_
      · simp only [push_cast, ↓branch_true, ↓branch_false, Nat.reduceBEq, Nat.reduceAdd, Nat.reduceMul, Nat.reduceSub, Int.reduceToNat, reduceCtorEq, branch_decide, branch_not, branch_beq, branch_bne]
        rfl
      · simp only [push_cast, ↓branch_true, ↓branch_false, Nat.reduceBEq, Nat.reduceAdd, Nat.reduceMul, Nat.reduceSub, Int.reduceToNat, reduceCtorEq, branch_decide, branch_not, branch_beq, branch_bne]
        intro i hi
        obtain rfl : i = 0 := by omega
        exact ⟨Nat.le_refl _, fun k _ => rfl⟩
      · simp only [push_cast, ↓branch_true, ↓branch_false, Nat.reduceBEq, Nat.reduceAdd, Nat.reduceMul, Nat.reduceSub, Int.reduceToNat, reduceCtorEq, branch_decide, branch_not, branch_beq, branch_bne]
        refine ⟨fun h5 => ?_, fun h5 => ?_⟩
        · repeat (with_reducible refine And.intro (by omega) ?_)
          refine lp0_normal 2 ⟨by omega, fun j hj => ?_⟩ (by omega) ?_
          · by_cases e : j = 1
            · subst e; exact h5
            · exact hn j (by omega)
          · simp only [push_cast, ↓branch_true, ↓branch_false, Nat.reduceBEq, Nat.reduceAdd, Nat.reduceMul, Nat.reduceSub, Int.reduceToNat, reduceCtorEq, branch_decide, branch_not, branch_beq, branch_bne]
            rfl
        · have : ¬ P = [A, B, C] := fun e => h5 (by rw [e]; rfl)
          simp [this]
    · skip
      rw [show ((2 : Nat) : Int) = 2 from rfl]
      simp only [push_cast, ↓branch_true, ↓branch_false, Nat.reduceBEq, Nat.reduceAdd, Nat.reduceMul, Nat.reduceSub, Int.reduceToNat, reduceCtorEq, branch_decide, branch_not, branch_beq, branch_bne]
      refine ⟨fun h4 => ?_, fun h4 => absurd hP (by omega)⟩
      repeat (with_reducible refine And.intro (by omega) ?_)
      refine sp_call (equal_pu P [C] 2 0 (p 2) cc (by omega) (by simp) (hp _ (ix_mem (by omega))) hC) rfl [0, 4] rfl ?_ ?_ ?_
      · simp only [push_cast, ↓branch_true, ↓branch_false, Nat.reduceBEq, Nat.reduceAdd, Nat.reduceMul, Nat.reduceSub, Int.reduceToNat, reduceCtorEq, branch_decide, branch_not, branch_beq, branch_bne]
        rfl
      · simp only [push_cast, ↓branch_true, ↓branch_false, Nat.reduceBEq, Nat.reduceAdd, Nat.reduceMul, Nat.reduceSub, Int.reduceToNat, reduceCtorEq, branch_decide, branch_not, branch_beq, branch_bne]
        intro i hi
        obtain rfl : i = 0 := by omega
        exact ⟨Nat.le_refl _, fun k _ => rfl⟩
      · simp only [push_cast, ↓branch_true, ↓branch_false, Nat.reduceBEq, Nat.reduceAdd, Nat.reduceMul, Nat.reduceSub, Int.reduceToNat, reduceCtorEq, branch_decide, branch_not, branch_beq, branch_bne]
        refine ⟨fun h5 => ?_, fun h5 => ?_⟩
        · repeat (with_reducible refine And.intro (by omega) ?_)
          refine lp0_normal 3 ⟨by omega, fun j hj => ?_⟩ (by omega) ?_
          · by_cases e : j = 2
            · subst e; exact h5
            · exact hn j (by omega)
          · simp only [push_cast, ↓branch_true, ↓branch_false, Nat.reduceBEq, Nat.reduceAdd, Nat.reduceMul, Nat.reduceSub, Int.reduceToNat, reduceCtorEq, branch_decide, branch_not, branch_beq, branch_bne]
            rfl
        · have : ¬ P = [A, B, C] := fun e => h5 (by rw [e]; rfl)
          simp [this]
    · skip
      rw [show ((3 : Nat) : Int) = 3 from rfl]
      simp only [push_cast, ↓branch_true, ↓branch_false, Nat.reduceBEq, Nat.reduceAdd, Nat.reduceMul, Nat.reduceSub, Int.reduceToNat, reduceCtorEq, branch_decide, branch_not, branch_beq, branch_bne]
      refine ⟨fun h4 => absurd hP (by omega), fun h4 => ?_⟩
      have : P = [A, B, C] := lists_eq_ix hP fun j hj => hn j (by omega)
      simp [this]
def onlyAt (nb bi : Nat) (s : List Int) : List (List Int) := (List.range nb).map fun i => if i = bi then s else []
@[push_cast] theorem onlyAt_len (nb bi : Nat) (s : List Int) : (onlyAt nb bi s).length = nb := by simp [onlyAt]
theorem onlyAt_ix {nb i : Nat} (h : i < nb) {bi : Nat} {s : List Int} : ix (onlyAt nb bi s) i = if i = bi then s else [] := by
  rw [ix_eq (by rw [onlyAt_len]; exact h)]; simp [onlyAt]
theorem ex1 : allE 1000 exL = 0 ∧ allL 1000 exL = [[2, 0], [1, 2], [0, 5]] := by decide +kernel
theorem ex2 : bestE 1000 exL (lensF exL) = 0 ∧ bestS 1000 exL (lensF exL) = ([0, 5], 1000) ∧ fullW 1000 exL = 0 := by decide +kernel
theorem ex3 : bestE 1000 exL [10, 4] = 0 ∧ bestS 1000 exL [10, 4] = ([2, 0], 20) := by decide +kernel
theorem awake_sp : Sp Try.prog 9 [] [] (fun r H => r = .v (.bool true) ∧ H = []) := by
  refine sp_weak ?_
  refine sp_of_ex true [] mixed Try.call9 Try.func9 rfl Try.ntmps9 Try.results9 (by decide +kernel) rfl ?_
  simp only [push_cast, ↓branch_true, ↓branch_false, Nat.reduceBEq, Nat.reduceAdd, Nat.reduceMul, Nat.reduceSub, Int.reduceToNat, reduceCtorEq, branch_decide, branch_not, branch_beq, branch_bne]
  refine sp_at example_sp [] rfl (by (simp only [push_cast, ↓branch_true, ↓branch_false, Nat.reduceBEq, Nat.reduceAdd, Nat.reduceMul, Nat.reduceSub, Int.reduceToNat, reduceCtorEq, branch_decide, branch_not, branch_beq, branch_bne])) (by (simp only [push_cast, ↓branch_true, ↓branch_false, Nat.reduceBEq, Nat.reduceAdd, Nat.reduceMul, Nat.reduceSub, Int.reduceToNat, reduceCtorEq, branch_decide, branch_not, branch_beq, branch_bne])) ?_
  rintro r0 H1 ⟨rfl, rfl⟩
  simp only [push_cast, ↓branch_true, ↓branch_false, Nat.reduceBEq, Nat.reduceAdd, Nat.reduceMul, Nat.reduceSub, Int.reduceToNat, reduceCtorEq, branch_decide, branch_not, branch_beq, branch_bne]
  refine sp_at (allX_sp 1000 exL 2 (by decide)) [0] rfl ?_ ?_ ?_
  · simp only [push_cast, ↓branch_true, ↓branch_false, Nat.reduceBEq, Nat.reduceAdd, Nat.reduceMul, Nat.reduceSub, Int.reduceToNat, reduceCtorEq, branch_decide, branch_not, branch_beq, branch_bne]
    rfl
  · simp only [push_cast, ↓branch_true, ↓branch_false, Nat.reduceBEq, Nat.reduceAdd, Nat.reduceMul, Nat.reduceSub, Int.reduceToNat, reduceCtorEq, branch_decide, branch_not, branch_beq, branch_bne]
  rintro r0 H1 ⟨oc, caps, rfl, q1, rfl⟩
  rw [ex1.1, ex1.2]
  simp only [push_cast, ↓branch_true, ↓branch_false, Nat.reduceBEq, Nat.reduceAdd, Nat.reduceMul, Nat.reduceSub, Int.reduceToNat, reduceCtorEq, branch_decide, branch_not, branch_beq, branch_bne]
  refine sp_at example_sp [] rfl (by (simp only [push_cast, ↓branch_true, ↓branch_false, Nat.reduceBEq, Nat.reduceAdd, Nat.reduceMul, Nat.reduceSub, Int.reduceToNat, reduceCtorEq, branch_decide, branch_not, branch_beq, branch_bne])) (by (simp only [push_cast, ↓branch_true, ↓branch_false, Nat.reduceBEq, Nat.reduceAdd, Nat.reduceMul, Nat.reduceSub, Int.reduceToNat, reduceCtorEq, branch_decide, branch_not, branch_beq, branch_bne])) ?_
  rintro r0 H1 ⟨rfl, rfl⟩
  simp only [push_cast, ↓branch_true, ↓branch_false, Nat.reduceBEq, Nat.reduceAdd, Nat.reduceMul, Nat.reduceSub, Int.reduceToNat, reduceCtorEq, branch_decide, branch_not, branch_beq, branch_bne]
  refine sp_at (fullestX_sp 1000 exL 2 (by decide)) [3] rfl ?_ ?_ ?_
  · simp only [push_cast, ↓branch_true, ↓branch_false, Nat.reduceBEq, Nat.reduceAdd, Nat.reduceMul, Nat.reduceSub, Int.reduceToNat, reduceCtorEq, branch_decide, branch_not, branch_beq, branch_bne]
    rfl
  · simp only [push_cast, ↓branch_true, ↓branch_false, Nat.reduceBEq, Nat.reduceAdd, Nat.reduceMul, Nat.reduceSub, Int.reduceToNat, reduceCtorEq, branch_decide, branch_not, branch_beq, branch_bne]
  rintro r0 H1 ⟨nb, bi, bl, bc, caps2, bf, rfl, b1, rfl⟩
  rw [ex2.2.1] at b1
  rw [ex2.1, ex2.2.2]
  simp only [push_cast, ↓branch_true, ↓branch_false, Nat.reduceBEq, Nat.reduceAdd, Nat.reduceMul, Nat.reduceSub, Int.reduceToNat, reduceCtorEq, branch_decide, branch_not, branch_beq, branch_bne]
  refine sp_at example_sp [] rfl (by (simp only [push_cast, ↓branch_true, ↓branch_false, Nat.reduceBEq, Nat.reduceAdd, Nat.reduceMul, Nat.reduceSub, Int.reduceToNat, reduceCtorEq, branch_decide, branch_not, branch_beq, branch_bne])) (by (simp only [push_cast, ↓branch_true, ↓branch_false, Nat.reduceBEq, Nat.reduceAdd, Nat.reduceMul, Nat.reduceSub, Int.reduceToNat, reduceCtorEq, branch_decide, branch_not, branch_beq, branch_bne])) ?_
  rintro r0 H1 ⟨rfl, rfl⟩
  simp only [push_cast, ↓branch_true, ↓branch_false, Nat.reduceBEq, Nat.reduceAdd, Nat.reduceMul, Nat.reduceSub, Int.reduceToNat, reduceCtorEq, branch_decide, branch_not, branch_beq, branch_bne]
  repeat (with_reducible refine And.intro (by omega) ?_)
  refine sp_at (bestX_sp 1000 exL 2 [10, 4] 2 (by decide) (by decide)) [5, 6] rfl ?_ ?_ ?_
  · simp only [push_cast, ↓branch_true, ↓branch_false, Nat.reduceBEq, Nat.reduceAdd, Nat.reduceMul, Nat.reduceSub, Int.reduceToNat, reduceCtorEq, branch_decide, branch_not, branch_beq, branch_bne]
    rfl
  · simp only [push_cast, ↓branch_true, ↓branch_false, Nat.reduceBEq, Nat.reduceAdd, Nat.reduceMul, Nat.reduceSub, Int.reduceToNat, reduceCtorEq, branch_decide, branch_not, branch_beq, branch_bne]
    intro i hi k hk
    have hk : k = 0 ∨ k = 1 := by omega
    rcases hk with rfl | rfl
    · exact ⟨rfl, trivial⟩
    · exact ⟨rfl, trivial⟩
  rintro r0 H1 ⟨nb3, bi3, bl3, bc3, caps3, bf3, rfl, b3, _, rfl⟩
  rw [ex3.2] at b3 ⊢
  rw [ex3.1]
  simp only [push_cast, ↓branch_true, ↓branch_false, Nat.reduceBEq, Nat.reduceAdd, Nat.reduceMul, Nat.reduceSub, Int.reduceToNat, reduceCtorEq, branch_decide, branch_not, branch_beq, branch_bne]
  repeat (with_reducible refine And.intro (by omega) ?_)
  refine sp_call (equalFunc3_pu [[2, 0], [1, 2], [0, 5]] caps oc 3 2 2 2 [2, 0] [1, 2] [0, 5] rfl (by decide) (by decide) (by decide) (by decide)) rfl [1, 2, 8, 9, 10, 11] rfl ?_ ?_ ?_
  · simp only [push_cast, ↓branch_true, ↓branch_false, Nat.reduceBEq, Nat.reduceAdd, Nat.reduceMul, Nat.reduceSub, Int.reduceToNat, reduceCtorEq, branch_decide, branch_not, branch_beq, branch_bne]
  · simp only [push_cast, ↓branch_true, ↓branch_false, Nat.reduceBEq, Nat.reduceAdd, Nat.reduceMul, Nat.reduceSub, Int.reduceToNat, reduceCtorEq, branch_decide, branch_not, branch_beq, branch_bne]
    refine ⟨fun i h => ?_, fun i h k hk => ?_, fun i h k hk => ?_, fun i h k hk => ?_, fun i h k hk => ?_, fun i h k hk => ?_⟩
    · (rcases (show i = 0 ∨ i = 1 ∨ i = 2 by omega) with rfl | rfl | rfl) <;> decide
    · (rcases (show k = 0 ∨ k = 1 ∨ k = 2 by omega) with rfl | rfl | rfl) <;> rfl
    · (rcases (show k = 0 ∨ k = 1 by omega) with rfl | rfl) <;> exact ⟨rfl, trivial⟩
    · (rcases (show k = 0 ∨ k = 1 by omega) with rfl | rfl) <;> exact ⟨rfl, trivial⟩
    · (rcases (show k = 0 ∨ k = 1 by omega) with rfl | rfl) <;> exact ⟨rfl, trivial⟩
    · (rcases (show k = 0 ∨ k = 1 ∨ k = 2 by omega) with rfl | rfl | rfl) <;> refine ⟨?_, trivial⟩ <;> (simp only [push_cast, ↓branch_true, ↓branch_false, Nat.reduceBEq, Nat.reduceAdd, Nat.reduceMul, Nat.reduceSub, Int.reduceToNat, reduceCtorEq, branch_decide, branch_not, branch_beq, branch_bne])
  simp only [push_cast, ↓branch_true, ↓branch_false, Nat.reduceBEq, Nat.reduceAdd, Nat.reduceMul, Nat.reduceSub, Int.reduceToNat, reduceCtorEq, branch_decide, branch_not, branch_beq, branch_bne]
  intro _
  repeat (with_reducible refine And.intro (by omega) ?_)
  obtain ⟨b0, b1⟩ := b1
  have b1 := b1.resolve_left (fun h => by cases h.2.2)
  obtain ⟨b4, b3⟩ := b3
  have b3 := b3.resolve_left (fun h => by cases h.2.2)
  refine sp_call (equal_pu (onlyAt nb bi [0, 5]) [[0, 5]] bi 0 bc 2 (by rw [onlyAt_len]; exact b1.1) (by decide) (by rw [onlyAt_ix b1.1, if_pos rfl]; decide) (by decide)) rfl [4, 12] rfl ?_ ?_ ?_
  · simp only [push_cast, ↓branch_true, ↓branch_false, Nat.reduceBEq, Nat.reduceAdd, Nat.reduceMul, Nat.reduceSub, Int.reduceToNat, reduceCtorEq, branch_decide, branch_not, branch_beq, branch_bne]
    rw [onlyAt_ix b1.1, if_pos rfl, b1.2.1]
    exact ⟨rfl, rfl⟩
  · simp only [push_cast, ↓branch_true, ↓branch_false, Nat.reduceBEq, Nat.reduceAdd, Nat.reduceMul, Nat.reduceSub, Int.reduceToNat, reduceCtorEq, branch_decide, branch_not, branch_beq, branch_bne]
    refine ⟨fun i h => ?_, fun i h => ?_⟩
    · rw [onlyAt_ix h]
      by_cases e : i = bi
      · subst e
        rw [if_pos rfl, ← b1.2.2.2.1]
        exact ⟨Nat.le_refl _, fun k _ => rfl⟩
      · rw [if_neg e]
        exact ⟨Nat.zero_le _, fun k hk => absurd hk (Nat.not_lt_zero _)⟩
    · obtain rfl : i = 0 := by omega
      refine ⟨Nat.le_refl _, fun k hk => ?_⟩
      have hk : k < 2 := hk
      (rcases (show k = 0 ∨ k = 1 by omega) with rfl | rfl) <;> exact ⟨rfl, trivial⟩
  simp only [push_cast, ↓branch_true, ↓branch_false, Nat.reduceBEq, Nat.reduceAdd, Nat.reduceMul, Nat.reduceSub, Int.reduceToNat, reduceCtorEq, branch_decide, branch_not, branch_beq, branch_bne]
  refine ⟨fun _ => ?_, fun h => absurd (by rw [onlyAt_ix b1.1, if_pos rfl]; rfl) h⟩
  repeat (with_reducible refine And.intro (by omega) ?_)
  refine sp_call (equal_pu (onlyAt nb3 bi3 [2, 0]) [[2, 0]] bi3 0 bc3 2 (by rw [onlyAt_len]; exact b3.1) (by decide) (by rw [onlyAt_ix b3.1, if_pos rfl]; decide) (by decide)) rfl [7, 13] rfl ?_ ?_ ?_
  · simp only [push_cast, ↓branch_true, ↓branch_false, Nat.reduceBEq, Nat.reduceAdd, Nat.reduceMul, Nat.reduceSub, Int.reduceToNat, reduceCtorEq, branch_decide, branch_not, branch_beq, branch_bne]
    rw [onlyAt_ix b3.1, if_pos rfl, b3.2.1]
    exact ⟨rfl, rfl⟩
  · simp only [push_cast, ↓branch_true, ↓branch_false, Nat.reduceBEq, Nat.reduceAdd, Nat.reduceMul, Nat.reduceSub, Int.reduceToNat, reduceCtorEq, branch_decide, branch_not, branch_beq, branch_bne]
    refine ⟨fun i h => ?_, fun i h => ?_⟩
    · rw [onlyAt_ix h]
      by_cases e : i = bi3
      · subst e
        rw [if_pos rfl, ← b3.2.2.2.1]
        exact ⟨Nat.le_refl _, fun k _ => rfl⟩
      · rw [if_neg e]
        exact ⟨Nat.zero_le _, fun k hk => absurd hk (Nat.not_lt_zero _)⟩
    · obtain rfl : i = 0 := by omega
      refine ⟨Nat.le_refl _, fun k hk => ?_⟩
      have hk : k < 2 := hk
      (rcases (show k = 0 ∨ k = 1 by omega) with rfl | rfl) <;> exact ⟨rfl, trivial⟩
  simp only [push_cast, ↓branch_true, ↓branch_false, Nat.reduceBEq, Nat.reduceAdd, Nat.reduceMul, Nat.reduceSub, Int.reduceToNat, reduceCtorEq, branch_decide, branch_not, branch_beq, branch_bne]
  rw [onlyAt_ix b3.1, if_pos rfl]
  refine ⟨fun _ => ?_, fun h => absurd rfl h⟩
  refine ⟨.v (.bool true), [], [], ?_, ?_, ?_, rfl, rfl⟩
  · simp only [push_cast, ↓branch_true, ↓branch_false, Nat.reduceBEq, Nat.reduceAdd, Nat.reduceMul, Nat.reduceSub, Int.reduceToNat, reduceCtorEq, branch_decide, branch_not, branch_beq, branch_bne]
  · kernel_rfl
  · simp only [push_cast, ↓branch_true, ↓branch_false, Nat.reduceBEq, Nat.reduceAdd, Nat.reduceMul, Nat.reduceSub, Int.reduceToNat, reduceCtorEq, branch_decide, branch_not, branch_beq, branch_bne]
end Go.Proofs.Ythnpnoclhmneoaa
