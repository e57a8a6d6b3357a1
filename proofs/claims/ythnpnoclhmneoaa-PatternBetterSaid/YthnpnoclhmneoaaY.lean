/- Contracts: Compare of ints, and of lists of ints. -/
import Derived.Test.YthnpnoclhmneoaaX
set_option maxRecDepth 100000
set_option linter.unusedSimpArgs false
set_option linter.unusedVariables false
namespace Go.Proofs.Ythnpnoclhmneoaa
open Go.RowKit
theorem isNaN_pu (x : Int) : Pu Try.prog 53 [.v (.int .i64 x)] [] (.v (.bool false)) := by
  refine pu_of_ex true [] mixed Try.call53 Try.func53 rfl Try.ntmps53 Try.results53 (by decide +kernel) rfl rfl rfl ?_
  simp only [push_cast, ↓branch_true, ↓branch_false, Nat.reduceBEq, Nat.reduceAdd, Nat.reduceMul, Nat.reduceSub, Int.reduceToNat, reduceCtorEq, branch_decide, branch_not, branch_beq, branch_bne]
  simp
def cmpI (x y : Int) : Int := if x < y then -1 else if y < x then 1 else 0
theorem cmpI_pu (x y : Int) : Pu Try.prog 46 [.v (.int .i64 x), .v (.int .i64 y)] [] (.v (.int .i64 (cmpI x y))) := by
  refine pu_of_ex true [] mixed Try.call46 Try.func46 rfl Try.ntmps46 Try.results46 (by decide +kernel) rfl rfl rfl ?_
  simp only [push_cast, ↓branch_true, ↓branch_false, Nat.reduceBEq, Nat.reduceAdd, Nat.reduceMul, Nat.reduceSub, Int.reduceToNat, reduceCtorEq, branch_decide, branch_not, branch_beq, branch_bne]
  refine sp_call (isNaN_pu x) rfl [] rfl (by simp only [push_cast, ↓branch_true, ↓branch_false, Nat.reduceBEq, Nat.reduceAdd, Nat.reduceMul, Nat.reduceSub, Int.reduceToNat, reduceCtorEq, branch_decide, branch_not, branch_beq, branch_bne]) (by simp only [push_cast, ↓branch_true, ↓branch_false, Nat.reduceBEq, Nat.reduceAdd, Nat.reduceMul, Nat.reduceSub, Int.reduceToNat, reduceCtorEq, branch_decide, branch_not, branch_beq, branch_bne]) ?_
  simp only [push_cast, ↓branch_true, ↓branch_false, Nat.reduceBEq, Nat.reduceAdd, Nat.reduceMul, Nat.reduceSub, Int.reduceToNat, reduceCtorEq, branch_decide, branch_not, branch_beq, branch_bne]
  refine sp_call (isNaN_pu y) rfl [] rfl (by simp only [push_cast, ↓branch_true, ↓branch_false, Nat.reduceBEq, Nat.reduceAdd, Nat.reduceMul, Nat.reduceSub, Int.reduceToNat, reduceCtorEq, branch_decide, branch_not, branch_beq, branch_bne]) (by simp only [push_cast, ↓branch_true, ↓branch_false, Nat.reduceBEq, Nat.reduceAdd, Nat.reduceMul, Nat.reduceSub, Int.reduceToNat, reduceCtorEq, branch_decide, branch_not, branch_beq, branch_bne]) ?_
  simp only [push_cast, ↓branch_true, ↓branch_false, Nat.reduceBEq, Nat.reduceAdd, Nat.reduceMul, Nat.reduceSub, Int.reduceToNat, reduceCtorEq, branch_decide, branch_not, branch_beq, branch_bne]
  refine ⟨fun h => by simp [cmpI, h], fun h => ⟨fun h2 => by simp [cmpI, h, h2], fun h2 => by simp [cmpI, h, h2]⟩⟩
def cmpL : List Int → List Int → Int
  | [], [] => 0
  | [], _ :: _ => -1
  | _ :: _, [] => 1
  | x :: a, y :: b => if x < y then -1 else if y < x then 1 else cmpL a b
theorem cmpL_step {a b : List Int} {k : Nat} (h1 : k < a.length) (h2 : k < b.length) : cmpL (a.drop k) (b.drop k) = if cmpI (ix a k) (ix b k) = 0 then cmpL (a.drop (k + 1)) (b.drop (k + 1)) else cmpI (ix a k) (ix b k) := by
  rw [drop_ix h1, drop_ix h2, cmpL, cmpI]
  split
  · rfl
  · split
    · rfl
    · rfl
theorem cmpL_left {b : List Int} {k : Nat} : cmpL [] (b.drop k) = if k < b.length then -1 else 0 := by
  by_cases h : k < b.length
  · rw [drop_ix h, if_pos h, cmpL]
  · rw [List.drop_eq_nil_of_le (by omega), if_neg h, cmpL]
theorem cmpL_right {a b : List Int} {k : Nat} (h1 : k < a.length) (h2 : b.length ≤ k) : cmpL (a.drop k) (b.drop k) = 1 := by
  rw [drop_ix h1, List.drop_eq_nil_of_le h2, cmpL]
theorem compare_pu (P Q : List (List Int)) (a b c d : Nat) (ha : a < P.length) (hb : b < Q.length) (h1 : (ix P a).length ≤ 9223372036854775806) (h2 : (ix Q b).length ≤ 9223372036854775806) :
    Pu Try.prog 30 [.s 0 a 0 (ix P a).length c 1, .s 1 b 0 (ix Q b).length d 1] [rLL P, rLL Q] (.v (.int .i64 (cmpL (ix P a) (ix Q b)))) := by
  refine pu_of_ex true [] mixed Try.call30 Try.func30 rfl Try.ntmps30 Try.results30 (by decide +kernel) rfl rfl rfl ?_
  simp only [push_cast, ↓branch_true, ↓branch_false, Nat.reduceBEq, Nat.reduceAdd, Nat.reduceMul, Nat.reduceSub, Int.reduceToNat, reduceCtorEq, branch_decide, branch_not, branch_beq, branch_bne]
  refine tr_loop0 mixed (by kernel_rfl) (fun (k : Nat) => [(11, .v (.int .i64 k)), (10, .v (.int .i64 (ix P a).length)), (9, .s 0 a 0 (ix P a).length c 1), (0, .s 0 a 0 (ix P a).length c 1), (1, .s 1 b 0 (ix Q b).length d 1)]) (fun k => k ≤ (ix P a).length ∧ k ≤ (ix Q b).length ∧ cmpL (ix P a) (ix Q b) = cmpL ((ix P a).drop k) ((ix Q b).drop k)) (fun k => (ix P a).length - k) 0 ⟨Nat.zero_le _, Nat.zero_le _, rfl⟩ ?_ ?_
  · simp only [push_cast, ↓branch_true, ↓branch_false, Nat.reduceBEq, Nat.reduceAdd, Nat.reduceMul, Nat.reduceSub, Int.reduceToNat, reduceCtorEq, branch_decide, branch_not, branch_beq, branch_bne]
  rintro k ⟨r1, r2, r3⟩
  simp only [push_cast, ↓branch_true, ↓branch_false, Nat.reduceBEq, Nat.reduceAdd, Nat.reduceMul, Nat.reduceSub, Int.reduceToNat, reduceCtorEq, branch_decide, branch_not, branch_beq, branch_bne]
  refine ⟨fun h => ?_, fun h => ?_⟩
  · repeat (with_reducible refine And.intro (by omega) ?_)
    refine ⟨fun h3 => ?_, fun h3 => ?_⟩
    · rw [r3, cmpL_right (by omega) (by omega)]
    · repeat (with_reducible refine And.intro (by omega) ?_)
      refine sp_call (cmpI_pu (ix (ix P a) k) (ix (ix Q b) k)) rfl [] rfl (by simp only [push_cast, ↓branch_true, ↓branch_false, Nat.reduceBEq, Nat.reduceAdd, Nat.reduceMul, Nat.reduceSub, Int.reduceToNat, reduceCtorEq, branch_decide, branch_not, branch_beq, branch_bne]) (by simp only [push_cast, ↓branch_true, ↓branch_false, Nat.reduceBEq, Nat.reduceAdd, Nat.reduceMul, Nat.reduceSub, Int.reduceToNat, reduceCtorEq, branch_decide, branch_not, branch_beq, branch_bne]) ?_
      simp only [push_cast, ↓branch_true, ↓branch_false, Nat.reduceBEq, Nat.reduceAdd, Nat.reduceMul, Nat.reduceSub, Int.reduceToNat, reduceCtorEq, branch_decide, branch_not, branch_beq, branch_bne]
      have hst := cmpL_step (a := ix P a) (b := ix Q b) (k := k) (by omega) (by omega)
      refine ⟨fun h4 => ?_, fun h4 => ?_⟩
      · repeat (with_reducible refine And.intro (by omega) ?_)
        rw [if_pos h4] at hst
        refine lp0_normal (k + 1) ⟨by omega, by omega, by rw [r3, hst]⟩ (by omega) ?_
        simp only [push_cast, ↓branch_true, ↓branch_false, Nat.reduceBEq, Nat.reduceAdd, Nat.reduceMul, Nat.reduceSub, Int.reduceToNat, reduceCtorEq, branch_decide, branch_not, branch_beq, branch_bne]
      · rw [r3, hst, if_neg h4]
  · obtain rfl : k = (ix P a).length := by omega
    rw [r3, List.drop_length, cmpL_left]
    exact ⟨fun h4 => by rw [if_pos (by omega)], fun h4 => by rw [if_neg (by omega)]⟩
/-- The place of the first pattern of a kind. -/
theorem indexLL_pu (P : List (List Int)) (caps : Nat → Nat) (c : Nat) (g : FuncId) (fs cs : List SV) (H : List Ob) (p : List Int → Bool) (hro : roB H = true) (hl : P.length ≤ 9223372036854775807)
    (hp : ∀ k, k < P.length → Pu Try.prog g (fs ++ [.s 0 k 0 (ix P k).length (caps k) 1] ++ cs) (rLL P :: rOut 0 P caps :: H) (.v (.bool (p (ix P k))))) : Pu Try.prog 47 [.s 1 0 0 P.length c 1, .f (.func g) fs cs] (rLL P :: rOut 0 P caps :: H) (.v (.int .i64 (idxB p P 0))) := by
  refine pu_of_ex true [] mixed Try.call47 Try.func47 rfl Try.ntmps47 Try.results47 (by decide +kernel) rfl (by simp [roB, hro, rLL, rOut]) rfl ?_
  simp only [push_cast, ↓branch_true, ↓branch_false, Nat.reduceBEq, Nat.reduceAdd, Nat.reduceMul, Nat.reduceSub, Int.reduceToNat, reduceCtorEq, branch_decide, branch_not, branch_beq, branch_bne]
  refine tr_loop0 mixed (by kernel_rfl) (fun (k : Nat) => [(8, .v (.int .i64 k)), (7, .v (.int .i64 P.length)), (0, .s 1 0 0 P.length c 1), (1, .f (.func g) fs cs)]) (fun k => k ≤ P.length ∧ ∀ j, j < k → p (ix P j) = false) (fun k => P.length - k) 0 ⟨Nat.zero_le _, fun j h => by omega⟩ ?_ ?_
  · simp only [push_cast, ↓branch_true, ↓branch_false, Nat.reduceBEq, Nat.reduceAdd, Nat.reduceMul, Nat.reduceSub, Int.reduceToNat, reduceCtorEq, branch_decide, branch_not, branch_beq, branch_bne]
  · rintro k ⟨hk, hn⟩
    simp only [push_cast, ↓branch_true, ↓branch_false, Nat.reduceBEq, Nat.reduceAdd, Nat.reduceMul, Nat.reduceSub, Int.reduceToNat, reduceCtorEq, branch_decide, branch_not, branch_beq, branch_bne]
    refine ⟨fun h1 => ?_, fun h1 => ?_⟩
    · repeat (with_reducible refine And.intro (by omega) ?_)
      have hp1 := hp k (by omega)
      refine sp_pu (by simpa only [push_cast] using hp1) ?_
      simp only [push_cast, ↓branch_true, ↓branch_false, Nat.reduceBEq, Nat.reduceAdd, Nat.reduceMul, Nat.reduceSub, Int.reduceToNat, reduceCtorEq, branch_decide, branch_not, branch_beq, branch_bne]
      simp only [branch]
      refine ⟨fun h2 => ?_, fun h2 => ?_⟩
      · rw [idxB_at p P 0 k (by omega) hn h2]; simp
      · repeat (with_reducible refine And.intro (by omega) ?_)
        refine lp0_normal (k + 1) ⟨by omega, fun j hj => ?_⟩ (by omega) ?_
        · by_cases e : j = k
          · rw [e]; exact h2
          · exact hn j (by omega)
        · simp only [push_cast, ↓branch_true, ↓branch_false, Nat.reduceBEq, Nat.reduceAdd, Nat.reduceMul, Nat.reduceSub, Int.reduceToNat, reduceCtorEq, branch_decide, branch_not, branch_beq, branch_bne]
    · obtain rfl : k = P.length := by omega
      rw [idxB_none p P 0 fun j hj => hn j (by omega)]
theorem containsLL_pu (P : List (List Int)) (caps : Nat → Nat) (c : Nat) (g : FuncId) (fs cs : List SV) (H : List Ob) (p : List Int → Bool) (hro : roB H = true) (hl : P.length ≤ 9223372036854775807)
    (hp : ∀ k, k < P.length → Pu Try.prog g (fs ++ [.s 0 k 0 (ix P k).length (caps k) 1] ++ cs) (rLL P :: rOut 0 P caps :: H) (.v (.bool (p (ix P k))))) : Pu Try.prog 31 [.s 1 0 0 P.length c 1, .f (.func g) fs cs] (rLL P :: rOut 0 P caps :: H) (.v (.bool (P.any p))) := by
  refine pu_of_ex true [] mixed Try.call31 Try.func31 rfl Try.ntmps31 Try.results31 (by decide +kernel) rfl (by simp [roB, hro, rLL, rOut]) rfl ?_
  simp only [push_cast, ↓branch_true, ↓branch_false, Nat.reduceBEq, Nat.reduceAdd, Nat.reduceMul, Nat.reduceSub, Int.reduceToNat, reduceCtorEq, branch_decide, branch_not, branch_beq, branch_bne]
  refine sp_pu (indexLL_pu P caps c g fs cs H p hro hl hp) ?_
  simp only [push_cast, ↓branch_true, ↓branch_false, Nat.reduceBEq, Nat.reduceAdd, Nat.reduceMul, Nat.reduceSub, Int.reduceToNat, reduceCtorEq, branch_decide, branch_not, branch_beq, branch_bne]
  rw [idxB_any p P 0 (Int.le_refl 0)]
/-- A variable that holds a list of ints. -/
def rBox (j : Nat) (p : List Int) (c : Nat) : Ob := ⟨32, true, .st [.s j 0 0 p.length c 1]⟩
attribute [push_cast] rBox
def covB : List Int → List Int → Bool
  | x :: xs, y :: ys => decide (y ≤ x) && covB xs ys
  | _, _ => true
theorem covB_step {x y : List Int} {k : Nat} (h1 : k < x.length) (h2 : k < y.length) : covB (x.drop k) (y.drop k) = (decide (ix y k ≤ ix x k) && covB (x.drop (k + 1)) (y.drop (k + 1))) := by
  rw [drop_ix h1, drop_ix h2, covB]
theorem cover_pu (P : List (List Int)) (a : Nat) (p : List Int) (c cb : Nat) (ha : a < P.length) (h1 : (ix P a).length ≤ 9223372036854775806) (h2 : (ix P a).length ≤ p.length) :
    Pu Try.prog 32 [.s 0 a 0 (ix P a).length c 1, .p 1 0 0] [rLL P, rBox 2 p cb, rInt 3 p] (.v (.bool (covB (ix P a) p))) := by
  refine pu_of_ex true [] mixed Try.call32 Try.func32 rfl Try.ntmps32 Try.results32 (by decide +kernel) rfl rfl rfl ?_
  simp only [push_cast, ↓branch_true, ↓branch_false, Nat.reduceBEq, Nat.reduceAdd, Nat.reduceMul, Nat.reduceSub, Int.reduceToNat, reduceCtorEq, branch_decide, branch_not, branch_beq, branch_bne]
  refine tr_loop0 mixed (by kernel_rfl) (fun (k : Nat) => [(7, .v (.int .i64 k)), (6, .v (.int .i64 (ix P a).length)), (0, .s 0 a 0 (ix P a).length c 1), (1, .p 1 0 0)]) (fun k => k ≤ (ix P a).length ∧ covB (ix P a) p = covB ((ix P a).drop k) (p.drop k)) (fun k => (ix P a).length - k) 0 ⟨Nat.zero_le _, rfl⟩ ?_ ?_
  · simp only [push_cast, ↓branch_true, ↓branch_false, Nat.reduceBEq, Nat.reduceAdd, Nat.reduceMul, Nat.reduceSub, Int.reduceToNat, reduceCtorEq, branch_decide, branch_not, branch_beq, branch_bne]
  rintro k ⟨r1, r2⟩
  simp only [push_cast, ↓branch_true, ↓branch_false, Nat.reduceBEq, Nat.reduceAdd, Nat.reduceMul, Nat.reduceSub, Int.reduceToNat, reduceCtorEq, branch_decide, branch_not, branch_beq, branch_bne]
  refine ⟨fun h => ?_, fun h => ?_⟩
  · have hst := covB_step (x := ix P a) (y := p) (k := k) (by omega) (by omega)
    repeat (with_reducible refine And.intro (by omega) ?_)
    refine ⟨fun h3 => ?_, fun h3 => ?_⟩
    · rw [r2, hst]
      simp [show ¬ ix p k ≤ ix (ix P a) k by omega]
    · repeat (with_reducible refine And.intro (by omega) ?_)
      refine lp0_normal (k + 1) ⟨by omega, by rw [r2, hst]; simp [show ix p k ≤ ix (ix P a) k by omega]⟩ (by omega) ?_
      simp only [push_cast, ↓branch_true, ↓branch_false, Nat.reduceBEq, Nat.reduceAdd, Nat.reduceMul, Nat.reduceSub, Int.reduceToNat, reduceCtorEq, branch_decide, branch_not, branch_beq, branch_bne]
  · obtain rfl : k = (ix P a).length := by omega
    rw [r2, List.drop_length]
    simp [covB]
theorem same_pu (P : List (List Int)) (a : Nat) (p : List Int) (c cb : Nat) (ha : a < P.length) (h1 : (ix P a).length ≤ 9223372036854775806) (h2 : p.length ≤ 9223372036854775806) :
    Pu Try.prog 33 [.s 0 a 0 (ix P a).length c 1, .p 1 0 0] [rLL P, rBox 2 p cb, rInt 3 p] (.v (.bool (decide (ix P a = p)))) := by
  refine pu_of_ex true [] mixed Try.call33 Try.func33 rfl Try.ntmps33 Try.results33 (by decide +kernel) rfl rfl rfl ?_
  simp only [push_cast, ↓branch_true, ↓branch_false, Nat.reduceBEq, Nat.reduceAdd, Nat.reduceMul, Nat.reduceSub, Int.reduceToNat, reduceCtorEq, branch_decide, branch_not, branch_beq, branch_bne]
  refine sp_call (equal_pu P [p] a 0 c cb ha (by simp) h1 h2) rfl [0, 2] rfl ?_ ?_ ?_
  · simp only [push_cast, ↓branch_true, ↓branch_false, Nat.reduceBEq, Nat.reduceAdd, Nat.reduceMul, Nat.reduceSub, Int.reduceToNat, reduceCtorEq, branch_decide, branch_not, branch_beq, branch_bne]
    rfl
  · simp only [push_cast, ↓branch_true, ↓branch_false, Nat.reduceBEq, Nat.reduceAdd, Nat.reduceMul, Nat.reduceSub, Int.reduceToNat, reduceCtorEq, branch_decide, branch_not, branch_beq, branch_bne]
    intro i hi
    obtain rfl : i = 0 := by omega
    exact ⟨Nat.le_refl _, fun k hk => rfl⟩
  simp only [push_cast, ↓branch_true, ↓branch_false, Nat.reduceBEq, Nat.reduceAdd, Nat.reduceMul, Nat.reduceSub, Int.reduceToNat, reduceCtorEq, branch_decide, branch_not, branch_beq, branch_bne]
  rfl
end Go.Proofs.Ythnpnoclhmneoaa
