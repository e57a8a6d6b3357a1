/- Contracts: few. -/
import Derived.Test.YtekokeiajgcfkaaN
set_option maxRecDepth 100000
set_option linter.unusedSimpArgs false
set_option linter.unusedVariables false
namespace Go.Proofs.Ytekokeiajgcfkaa
open Go.RowKit
/-- A row of n values that is only read. -/
def rG (n : Nat) (E : Nat → SV) : Ob := ⟨22, true, .row 1 1 (fun _ => n) (fun _ => 0) (fun _ k => [E k])⟩
attribute [push_cast] rG
theorem ix_range {n k : Nat} (h : k < n) : ix (List.range n) k = k := by rw [ix_eq (by simpa using h)]; simp
theorem indexG_pu (n : Nat) (c : Nat) (E : Nat → SV) (g : FuncId) (fs cs : List SV) (H : List Ob) (p : Nat → Bool) (hro : roB H = true) (hl : n ≤ 9223372036854775807)
    (hp : ∀ k, k < n → Pu Try.prog g (fs ++ [E k] ++ cs) (rG n E :: H) (.v (.bool (p k)))) : Pu Try.prog 54 [.s 0 0 0 n c 1, .f (.func g) fs cs] (rG n E :: H) (.v (.int .i64 (idxB p (List.range n) 0))) := by
  refine pu_of_ex true [] mixed Try.call54 Try.func54 rfl Try.ntmps54 Try.results54 (by decide +kernel) rfl (by simp [roB, hro, rG]) rfl ?_
  simp only [push_cast, ↓branch_true, ↓branch_false, Nat.reduceBEq, Nat.reduceAdd, Nat.reduceMul, Nat.reduceSub, Int.reduceToNat, reduceCtorEq, branch_decide, branch_not, branch_beq, branch_bne]
  refine tr_loop0 mixed (by kernel_rfl) (fun (k : Nat) => [(8, .v (.int .i64 k)), (7, .v (.int .i64 n)), (0, .s 0 0 0 n c 1), (1, .f (.func g) fs cs)]) (fun k => k ≤ n ∧ ∀ j, j < k → p j = false) (fun k => n - k) 0 ⟨Nat.zero_le _, fun j h => by omega⟩ ?_ ?_
  · simp only [push_cast, ↓branch_true, ↓branch_false, Nat.reduceBEq, Nat.reduceAdd, Nat.reduceMul, Nat.reduceSub, Int.reduceToNat, reduceCtorEq, branch_decide, branch_not, branch_beq, branch_bne]
  · rintro k ⟨hk, hn⟩
    simp only [push_cast, ↓branch_true, ↓branch_false, Nat.reduceBEq, Nat.reduceAdd, Nat.reduceMul, Nat.reduceSub, Int.reduceToNat, reduceCtorEq, branch_decide, branch_not, branch_beq, branch_bne]
    refine ⟨fun h1 => ?_, fun h1 => ?_⟩
    · repeat (with_reducible refine And.intro (by omega) ?_)
      have hp1 := hp k (by omega)
      refine sp_pu (by simpa only [push_cast] using hp1) ?_
      simp only [push_cast, ↓branch_true, ↓branch_false, Nat.reduceBEq, Nat.reduceAdd, Nat.reduceMul, Nat.reduceSub, Int.reduceToNat, reduceCtorEq, branch_decide, branch_not, branch_beq, branch_bne]
      simp only [branch]
      have hix : ∀ j, j < n → p (ix (List.range n) j) = p j := fun j hj => by rw [ix_range hj]
      refine ⟨fun h2 => ?_, fun h2 => ?_⟩
      · rw [idxB_at p (List.range n) 0 k (by simp; omega) (fun j hj => by rw [hix j (by omega)]; exact hn j hj) (by rw [hix k (by omega)]; exact h2)]
        simp
      · repeat (with_reducible refine And.intro (by omega) ?_)
        refine lp0_normal (k + 1) ⟨by omega, fun j hj => ?_⟩ (by omega) ?_
        · by_cases e : j = k
          · rw [e]; exact h2
          · exact hn j (by omega)
        · simp only [push_cast, ↓branch_true, ↓branch_false, Nat.reduceBEq, Nat.reduceAdd, Nat.reduceMul, Nat.reduceSub, Int.reduceToNat, reduceCtorEq, branch_decide, branch_not, branch_beq, branch_bne]
    · rw [idxB_none p (List.range n) 0 fun j hj => by
        have hj : j < n := by simpa using hj
        rw [ix_range hj]; exact hn j (by omega)]
theorem contG_pu (n : Nat) (c : Nat) (E : Nat → SV) (g : FuncId) (fs cs : List SV) (H : List Ob) (p : Nat → Bool) (hro : roB H = true) (hl : n ≤ 9223372036854775807)
    (hp : ∀ k, k < n → Pu Try.prog g (fs ++ [E k] ++ cs) (rG n E :: H) (.v (.bool (p k)))) : Pu Try.prog 37 [.s 0 0 0 n c 1, .f (.func g) fs cs] (rG n E :: H) (.v (.bool ((List.range n).any p))) := by
  refine pu_of_ex true [] mixed Try.call37 Try.func37 rfl Try.ntmps37 Try.results37 (by decide +kernel) rfl (by simp [roB, hro, rG]) rfl ?_
  simp only [push_cast, ↓branch_true, ↓branch_false, Nat.reduceBEq, Nat.reduceAdd, Nat.reduceMul, Nat.reduceSub, Int.reduceToNat, reduceCtorEq, branch_decide, branch_not, branch_beq, branch_bne]
  refine sp_pu (indexG_pu n c E g fs cs H p hro hl hp) ?_
  simp only [push_cast, ↓branch_true, ↓branch_false, Nat.reduceBEq, Nat.reduceAdd, Nat.reduceMul, Nat.reduceSub, Int.reduceToNat, reduceCtorEq, branch_decide, branch_not, branch_beq, branch_bne]
  rw [idxB_any p (List.range n) 0 (Int.le_refl 0)]
def bigL (l : List Stp) : Bool := decide (250 < l.length)
theorem fewOne_pu (l : List Stp) (c : Nat) : Pu Try.prog 38 [.s 0 0 0 l.length c 2] [rSt l] (.v (.bool (bigL l))) := by
  refine pu_of_ex true [] mixed Try.call38 Try.func38 rfl Try.ntmps38 Try.results38 (by decide +kernel) rfl rfl rfl ?_
  simp only [push_cast, ↓branch_true, ↓branch_false, Nat.reduceBEq, Nat.reduceAdd, Nat.reduceMul, Nat.reduceSub, Int.reduceToNat, reduceCtorEq, branch_decide, branch_not, branch_beq, branch_bne]
  simp only [bigL]
  congr 2
  exact decide_eq_decide.2 (by omega)
def few1E (a : List Stp) (c : Nat) (_ : Nat) : SV := .s 1 0 0 a.length c 2
def few2E (a b : List Stp) (c d : Nat) (k : Nat) : SV := bif Nat.beq k 0 then .s 1 0 0 a.length c 2 else .s 2 0 0 b.length d 2
theorem few1_pu (a : List Stp) (c : Nat) : Pu Try.prog 12 [.s 0 0 0 1 1 1] [rG 1 (few1E a c), rSt a] (.v (.bool (!bigL a))) := by
  have h := contG_pu 1 1 (few1E a c) 38 [] [] [rSt a] (fun _ => bigL a) rfl (by decide) fun k hk => by
    refine pu_at (fewOne_pu a c) rfl [1] rfl ?_ ?_
    · simp only [few1E]
      (simp only [push_cast, ↓branch_true, ↓branch_false, Nat.reduceBEq, Nat.reduceAdd, Nat.reduceMul, Nat.reduceSub, Int.reduceToNat, reduceCtorEq, branch_decide, branch_not, branch_beq, branch_bne])
    · (simp only [push_cast, ↓branch_true, ↓branch_false, Nat.reduceBEq, Nat.reduceAdd, Nat.reduceMul, Nat.reduceSub, Int.reduceToNat, reduceCtorEq, branch_decide, branch_not, branch_beq, branch_bne])
  refine pu_of_ex true [] mixed Try.call12 Try.func12 rfl Try.ntmps12 Try.results12 (by decide +kernel) rfl rfl rfl ?_
  simp only [push_cast, ↓branch_true, ↓branch_false, Nat.reduceBEq, Nat.reduceAdd, Nat.reduceMul, Nat.reduceSub, Int.reduceToNat, reduceCtorEq, branch_decide, branch_not, branch_beq, branch_bne]
  refine sp_call h rfl [0, 1] rfl ?_ ?_ ?_
  · simp only [push_cast, ↓branch_true, ↓branch_false, Nat.reduceBEq, Nat.reduceAdd, Nat.reduceMul, Nat.reduceSub, Int.reduceToNat, reduceCtorEq, branch_decide, branch_not, branch_beq, branch_bne]
  · simp only [push_cast, ↓branch_true, ↓branch_false, Nat.reduceBEq, Nat.reduceAdd, Nat.reduceMul, Nat.reduceSub, Int.reduceToNat, reduceCtorEq, branch_decide, branch_not, branch_beq, branch_bne]
    exact fun i hi k hk => by
      simp only [few1E]
      (simp only [push_cast, ↓branch_true, ↓branch_false, Nat.reduceBEq, Nat.reduceAdd, Nat.reduceMul, Nat.reduceSub, Int.reduceToNat, reduceCtorEq, branch_decide, branch_not, branch_beq, branch_bne])
  simp only [push_cast, ↓branch_true, ↓branch_false, Nat.reduceBEq, Nat.reduceAdd, Nat.reduceMul, Nat.reduceSub, Int.reduceToNat, reduceCtorEq, branch_decide, branch_not, branch_beq, branch_bne]
  rw [show (List.range 1).any (fun _ => bigL a) = bigL a by
    show (bigL a || false) = _
    rw [Bool.or_false]]
theorem few2_pu (a b : List Stp) (c d : Nat) : Pu Try.prog 12 [.s 0 0 0 2 2 1] [rG 2 (few2E a b c d), rSt a, rSt b] (.v (.bool (!(bigL a || bigL b)))) := by
  have h := contG_pu 2 2 (few2E a b c d) 38 [] [] [rSt a, rSt b] (fun k => bif Nat.beq k 0 then bigL a else bigL b) rfl (by decide) fun k hk => by
    have : k = 0 ∨ k = 1 := by omega
    rcases this with rfl | rfl
    · refine pu_at (fewOne_pu a c) rfl [1] rfl ?_ ?_
      · simp only [few2E, Nat.beq, cond_true, cond_false]
        (simp only [push_cast, ↓branch_true, ↓branch_false, Nat.reduceBEq, Nat.reduceAdd, Nat.reduceMul, Nat.reduceSub, Int.reduceToNat, reduceCtorEq, branch_decide, branch_not, branch_beq, branch_bne])
      · (simp only [push_cast, ↓branch_true, ↓branch_false, Nat.reduceBEq, Nat.reduceAdd, Nat.reduceMul, Nat.reduceSub, Int.reduceToNat, reduceCtorEq, branch_decide, branch_not, branch_beq, branch_bne])
    · refine pu_at (fewOne_pu b d) rfl [2] rfl ?_ ?_
      · simp only [few2E, Nat.beq, cond_true, cond_false]
        (simp only [push_cast, ↓branch_true, ↓branch_false, Nat.reduceBEq, Nat.reduceAdd, Nat.reduceMul, Nat.reduceSub, Int.reduceToNat, reduceCtorEq, branch_decide, branch_not, branch_beq, branch_bne])
      · (simp only [push_cast, ↓branch_true, ↓branch_false, Nat.reduceBEq, Nat.reduceAdd, Nat.reduceMul, Nat.reduceSub, Int.reduceToNat, reduceCtorEq, branch_decide, branch_not, branch_beq, branch_bne])
  refine pu_of_ex true [] mixed Try.call12 Try.func12 rfl Try.ntmps12 Try.results12 (by decide +kernel) rfl rfl rfl ?_
  simp only [push_cast, ↓branch_true, ↓branch_false, Nat.reduceBEq, Nat.reduceAdd, Nat.reduceMul, Nat.reduceSub, Int.reduceToNat, reduceCtorEq, branch_decide, branch_not, branch_beq, branch_bne]
  refine sp_call h rfl [0, 1, 2] rfl ?_ ?_ ?_
  · simp only [push_cast, ↓branch_true, ↓branch_false, Nat.reduceBEq, Nat.reduceAdd, Nat.reduceMul, Nat.reduceSub, Int.reduceToNat, reduceCtorEq, branch_decide, branch_not, branch_beq, branch_bne]
  · simp only [push_cast, ↓branch_true, ↓branch_false, Nat.reduceBEq, Nat.reduceAdd, Nat.reduceMul, Nat.reduceSub, Int.reduceToNat, reduceCtorEq, branch_decide, branch_not, branch_beq, branch_bne]
    exact fun i hi k hk => by
      have : k = 0 ∨ k = 1 := by omega
      rcases this with rfl | rfl <;> simp only [few2E, Nat.beq, cond_true, cond_false] <;> (simp only [push_cast, ↓branch_true, ↓branch_false, Nat.reduceBEq, Nat.reduceAdd, Nat.reduceMul, Nat.reduceSub, Int.reduceToNat, reduceCtorEq, branch_decide, branch_not, branch_beq, branch_bne])
  simp only [push_cast, ↓branch_true, ↓branch_false, Nat.reduceBEq, Nat.reduceAdd, Nat.reduceMul, Nat.reduceSub, Int.reduceToNat, reduceCtorEq, branch_decide, branch_not, branch_beq, branch_bne]
  rw [show (List.range 2).any (fun k => bif Nat.beq k 0 then bigL a else bigL b) = (bigL a || bigL b) by
    show (bigL a || (bigL b || false)) = _
    rw [Bool.or_false]]
end Go.Proofs.Ytekokeiajgcfkaa
