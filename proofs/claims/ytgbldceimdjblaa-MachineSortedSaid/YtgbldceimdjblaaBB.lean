/- Contracts: bars. -/
import Derived.Test.YtgbldceimdjblaaBA
set_option maxRecDepth 100000
set_option linter.unusedSimpArgs false
set_option linter.unusedVariables false
namespace Go.Proofs.Ytgbldceimdjblaa
open Go.RowKit
theorem dimsOk_step {l : List Int} {k : Nat} {r : Int} (h : k < l.length) : dimsOk (l.drop k) r = (decide (1 ≤ ix l k) && decide (ix l k ≤ r) && dimsOk (l.drop (k + 1)) (r - ix l k)) := by
  rw [List.drop_eq_getElem_cons h, dimsOk, ix_eq h]
theorem vbar_pu (b : Br) (hl : b.dims.length ≤ 9223372036854775807) : Pu Try.prog 29 [.a (cBr 0 0 b)] [rInt 3 b.dims] (.v (.bool (vBar b))) := by
  have hm := mostE_in b.code (legsE b.code).length (Nat.le_refl _)
  have em : mostE (legsE b.code) (legsE b.code).length = mostC b.code := rfl
  rw [em] at hm
  have hd := dims_pu b.code
  refine pu_of_ex true [] mixed Try.call29 Try.func29 rfl Try.ntmps29 Try.results29 (by decide +kernel) rfl rfl rfl ?_
  simp only [push_cast, ↓branch_true, ↓branch_false, Nat.reduceBEq, Nat.reduceAdd, Nat.reduceMul, Nat.reduceSub, Int.reduceToNat, reduceCtorEq, branch_decide, branch_not, branch_beq, branch_bne]
  by_cases hc : mostC b.code < 0
  · simp only [hc, if_true] at hd
    refine sp_call hd rfl [] rfl ?_ ?_ ?_
    · simp only [push_cast, ↓branch_true, ↓branch_false, Nat.reduceBEq, Nat.reduceAdd, Nat.reduceMul, Nat.reduceSub, Int.reduceToNat, reduceCtorEq, branch_decide, branch_not, branch_beq, branch_bne]
    · simp only [push_cast, ↓branch_true, ↓branch_false, Nat.reduceBEq, Nat.reduceAdd, Nat.reduceMul, Nat.reduceSub, Int.reduceToNat, reduceCtorEq, branch_decide, branch_not, branch_beq, branch_bne]
    simp only [push_cast, ↓branch_true, ↓branch_false, Nat.reduceBEq, Nat.reduceAdd, Nat.reduceMul, Nat.reduceSub, Int.reduceToNat, reduceCtorEq, branch_decide, branch_not, branch_beq, branch_bne]
    refine ⟨fun h => by omega, fun _ => ?_⟩
    simp [vBar, show ¬0 ≤ mostC b.code by omega]
  simp only [hc, if_false] at hd
  refine sp_call hd rfl [] rfl ?_ ?_ ?_
  · simp only [push_cast, ↓branch_true, ↓branch_false, Nat.reduceBEq, Nat.reduceAdd, Nat.reduceMul, Nat.reduceSub, Int.reduceToNat, reduceCtorEq, branch_decide, branch_not, branch_beq, branch_bne]
  · simp only [push_cast, ↓branch_true, ↓branch_false, Nat.reduceBEq, Nat.reduceAdd, Nat.reduceMul, Nat.reduceSub, Int.reduceToNat, reduceCtorEq, branch_decide, branch_not, branch_beq, branch_bne]
  simp only [push_cast, ↓branch_true, ↓branch_false, Nat.reduceBEq, Nat.reduceAdd, Nat.reduceMul, Nat.reduceSub, Int.reduceToNat, reduceCtorEq, branch_decide, branch_not, branch_beq, branch_bne]
  intro _
  refine sp_call (name_pu b.mark) rfl [] rfl ?_ ?_ ?_
  · simp only [push_cast, ↓branch_true, ↓branch_false, Nat.reduceBEq, Nat.reduceAdd, Nat.reduceMul, Nat.reduceSub, Int.reduceToNat, reduceCtorEq, branch_decide, branch_not, branch_beq, branch_bne]
  · simp only [push_cast, ↓branch_true, ↓branch_false, Nat.reduceBEq, Nat.reduceAdd, Nat.reduceMul, Nat.reduceSub, Int.reduceToNat, reduceCtorEq, branch_decide, branch_not, branch_beq, branch_bne]
  simp only [push_cast, ↓branch_true, ↓branch_false, Nat.reduceBEq, Nat.reduceAdd, Nat.reduceMul, Nat.reduceSub, Int.reduceToNat, reduceCtorEq, branch_decide, branch_not, branch_beq, branch_bne]
  cases hn : nameB b.mark
  · simp only [push_cast, ↓branch_true, ↓branch_false, Nat.reduceBEq, Nat.reduceAdd, Nat.reduceMul, Nat.reduceSub, Int.reduceToNat, reduceCtorEq, branch_decide, branch_not, branch_beq, branch_bne]
    simp [vBar, hn]
  simp only [push_cast, ↓branch_true, ↓branch_false, Nat.reduceBEq, Nat.reduceAdd, Nat.reduceMul, Nat.reduceSub, Int.reduceToNat, reduceCtorEq, branch_decide, branch_not, branch_beq, branch_bne]
  refine sp_call (size_pu b.size) rfl [] rfl ?_ ?_ ?_
  · simp only [push_cast, ↓branch_true, ↓branch_false, Nat.reduceBEq, Nat.reduceAdd, Nat.reduceMul, Nat.reduceSub, Int.reduceToNat, reduceCtorEq, branch_decide, branch_not, branch_beq, branch_bne]
  · simp only [push_cast, ↓branch_true, ↓branch_false, Nat.reduceBEq, Nat.reduceAdd, Nat.reduceMul, Nat.reduceSub, Int.reduceToNat, reduceCtorEq, branch_decide, branch_not, branch_beq, branch_bne]
  simp only [push_cast, ↓branch_true, ↓branch_false, Nat.reduceBEq, Nat.reduceAdd, Nat.reduceMul, Nat.reduceSub, Int.reduceToNat, reduceCtorEq, branch_decide, branch_not, branch_beq, branch_bne]
  cases hs : sizeB b.size
  · simp only [push_cast, ↓branch_true, ↓branch_false, Nat.reduceBEq, Nat.reduceAdd, Nat.reduceMul, Nat.reduceSub, Int.reduceToNat, reduceCtorEq, branch_decide, branch_not, branch_beq, branch_bne]
    simp [vBar, hs]
  simp only [push_cast, ↓branch_true, ↓branch_false, Nat.reduceBEq, Nat.reduceAdd, Nat.reduceMul, Nat.reduceSub, Int.reduceToNat, reduceCtorEq, branch_decide, branch_not, branch_beq, branch_bne]
  refine ⟨fun h1 => by simp [vBar, show ¬1 ≤ b.count by omega], fun h1 => ⟨fun h2 => by simp [vBar, show ¬b.count ≤ 1000 by omega], fun h2 => ⟨fun h3 => ?_, fun h3 => by simp [vBar, h3]⟩⟩⟩
  have hv : vBar b = dimsOk b.dims 262144 := by
    simp [vBar, hn, hs, h3, show 0 ≤ mostC b.code by omega, show 1 ≤ b.count by omega, show b.count ≤ 1000 by omega]
  refine tr_loop mixed (by kernel_rfl) (fun (x : Nat × Int) => [(48, .v (.int .i64 x.1)), (47, .v (.int .i64 b.dims.length)), (46, .s 0 0 0 b.dims.length b.cap 1), (5, .v (.int .i64 x.2))])
    (fun _ => [rInt 3 b.dims]) (fun x => x.1 ≤ b.dims.length ∧ 0 ≤ x.2 ∧ x.2 ≤ 262144 ∧ vBar b = dimsOk (b.dims.drop x.1) x.2) (fun x => b.dims.length - x.1) (0, 262144) ⟨Nat.zero_le _, by decide, by decide, by rw [List.drop_zero]; exact hv⟩ (Mt.wk (rl := [0]) ⟨by kernel_rfl, ?_, ?_⟩) ?_
  · simp only [push_cast, ↓branch_true, ↓branch_false, Nat.reduceBEq, Nat.reduceAdd, Nat.reduceMul, Nat.reduceSub, Int.reduceToNat, reduceCtorEq, branch_decide, branch_not, branch_beq, branch_bne]
  · simp only [push_cast, ↓branch_true, ↓branch_false, Nat.reduceBEq, Nat.reduceAdd, Nat.reduceMul, Nat.reduceSub, Int.reduceToNat, reduceCtorEq, branch_decide, branch_not, branch_beq, branch_bne]
  rintro ⟨k, r⟩ ⟨r1, r2, r3, r4⟩
  simp only at r1 r2 r3 r4
  simp only [push_cast, ↓branch_true, ↓branch_false, Nat.reduceBEq, Nat.reduceAdd, Nat.reduceMul, Nat.reduceSub, Int.reduceToNat, reduceCtorEq, branch_decide, branch_not, branch_beq, branch_bne]
  refine ⟨fun h => ?_, fun h => ?_⟩
  · rw [dimsOk_step (by omega)] at r4
    repeat (with_reducible refine And.intro (by omega) ?_)
    refine ⟨fun h4 => by simp [r4, show ¬1 ≤ ix b.dims k by omega], fun h4 => ⟨fun h5 => by simp [r4, show ¬ix b.dims k ≤ r by omega], fun h5 => ?_⟩⟩
    repeat (with_reducible refine And.intro (by omega) ?_)
    refine lpK_normal (k + 1, r - ix b.dims k) [0] ⟨by simp only; omega, by simp only; omega, by simp only; omega, ?_⟩ (by simp only; omega) (by kernel_rfl) ?_ ?_
    · rw [r4]
      simp [show 1 ≤ ix b.dims k by omega, show ix b.dims k ≤ r by omega]
    · simp only [push_cast, ↓branch_true, ↓branch_false, Nat.reduceBEq, Nat.reduceAdd, Nat.reduceMul, Nat.reduceSub, Int.reduceToNat, reduceCtorEq, branch_decide, branch_not, branch_beq, branch_bne]
    · simp only [push_cast, ↓branch_true, ↓branch_false, Nat.reduceBEq, Nat.reduceAdd, Nat.reduceMul, Nat.reduceSub, Int.reduceToNat, reduceCtorEq, branch_decide, branch_not, branch_beq, branch_bne]
  · obtain rfl : k = b.dims.length := by omega
    rw [r4, List.drop_length]
    rfl
/-- How many legs a bar has. -/
def legN (b : Br) : Nat := if vBar b = true then (legsE b.code).length else 0
theorem legsB_sp (b : Br) (hl : b.dims.length ≤ 9223372036854775807) : Sp Try.prog 50 [.a (cBr 0 0 b)] [rInt 3 b.dims] (fun r H => ∃ cap f, legN b ≤ cap ∧ r = .t [.s 1 0 0 (legN b) cap 1, .v (.int .i64 (if vBar b = true then 0 else 1))] ∧ H = [rInt 3 b.dims, rOwn 3 (legN b) cap f]) := by
  refine sp_weak ?_
  refine sp_of_ex true [] mixed Try.call50 Try.func50 rfl Try.ntmps50 Try.results50 (by decide +kernel) rfl ?_
  simp only [push_cast, ↓branch_true, ↓branch_false, Nat.reduceBEq, Nat.reduceAdd, Nat.reduceMul, Nat.reduceSub, Int.reduceToNat, reduceCtorEq, branch_decide, branch_not, branch_beq, branch_bne]
  refine sp_call (vbar_pu b hl) rfl [0] rfl ?_ ?_ ?_
  · simp only [push_cast, ↓branch_true, ↓branch_false, Nat.reduceBEq, Nat.reduceAdd, Nat.reduceMul, Nat.reduceSub, Int.reduceToNat, reduceCtorEq, branch_decide, branch_not, branch_beq, branch_bne]
  · simp only [push_cast, ↓branch_true, ↓branch_false, Nat.reduceBEq, Nat.reduceAdd, Nat.reduceMul, Nat.reduceSub, Int.reduceToNat, reduceCtorEq, branch_decide, branch_not, branch_beq, branch_bne]
  simp only [push_cast, ↓branch_true, ↓branch_false, Nat.reduceBEq, Nat.reduceAdd, Nat.reduceMul, Nat.reduceSub, Int.reduceToNat, reduceCtorEq, branch_decide, branch_not, branch_beq, branch_bne]
  cases hv : vBar b
  · have e : legN b = 0 := by simp [legN, hv]
    rw [e]
    simp only [push_cast, ↓branch_true, ↓branch_false, Nat.reduceBEq, Nat.reduceAdd, Nat.reduceMul, Nat.reduceSub, Int.reduceToNat, reduceCtorEq, branch_decide, branch_not, branch_beq, branch_bne]
    refine ⟨_, _, [0, 2], ?_, ?_, ?_, 0, fun _ => 0, Nat.le_refl _, rfl, rfl⟩
    · simp only [push_cast, ↓branch_true, ↓branch_false, Nat.reduceBEq, Nat.reduceAdd, Nat.reduceMul, Nat.reduceSub, Int.reduceToNat, reduceCtorEq, branch_decide, branch_not, branch_beq, branch_bne]
    · kernel_rfl
    · simp only [push_cast, ↓branch_true, ↓branch_false, Nat.reduceBEq, Nat.reduceAdd, Nat.reduceMul, Nat.reduceSub, Int.reduceToNat, reduceCtorEq, branch_decide, branch_not, branch_beq, branch_bne]
  have e : legN b = (legsE b.code).length := by simp [legN, hv]
  have h6 := legs_len b.code
  rw [e]
  have hd : (b.dims.length : Int) = mostC b.code + 1 := by
    simp only [vBar, Bool.and_eq_true, decide_eq_true_eq] at hv
    exact hv.1.2
  simp only [push_cast, ↓branch_true, ↓branch_false, Nat.reduceBEq, Nat.reduceAdd, Nat.reduceMul, Nat.reduceSub, Int.reduceToNat, reduceCtorEq, branch_decide, branch_not, branch_beq, branch_bne]
  refine sp_at (legs_sp b.code) [] rfl ?_ ?_ ?_
  · simp only [push_cast, ↓branch_true, ↓branch_false, Nat.reduceBEq, Nat.reduceAdd, Nat.reduceMul, Nat.reduceSub, Int.reduceToNat, reduceCtorEq, branch_decide, branch_not, branch_beq, branch_bne]
  · simp only [push_cast, ↓branch_true, ↓branch_false, Nat.reduceBEq, Nat.reduceAdd, Nat.reduceMul, Nat.reduceSub, Int.reduceToNat, reduceCtorEq, branch_decide, branch_not, branch_beq, branch_bne]
  rintro r0 H1 ⟨rfl, rfl⟩
  simp only [push_cast, ↓branch_true, ↓branch_false, Nat.reduceBEq, Nat.reduceAdd, Nat.reduceMul, Nat.reduceSub, Int.reduceToNat, reduceCtorEq, branch_decide, branch_not, branch_beq, branch_bne]
  refine tr_loop mixed (by kernel_rfl) (fun (x : Nat × Nat × (Nat → Int)) => [(14, .v (.int .i64 x.1)), (13, .v (.int .i64 (legsE b.code).length)), (12, .s 2 0 0 (legsE b.code).length (legsE b.code).length 2), (4, .s 3 0 0 x.1 x.2.1 1), (1, .p 1 0 0)])
    (fun x => [rInt 3 b.dims, ⟨47, false, .st (cBr 0 0 b)⟩, rLg (legsE b.code), rOwn 3 x.1 x.2.1 x.2.2]) (fun x => x.1 ≤ (legsE b.code).length ∧ x.1 ≤ x.2.1) (fun x => (legsE b.code).length - x.1) (0, 0, fun _ => 0) ⟨Nat.zero_le _, Nat.le_refl _⟩ (Mt.wk (rl := [0, 1, 2, 3]) ⟨by kernel_rfl, ?_, ?_⟩) ?_
  · simp only [push_cast, ↓branch_true, ↓branch_false, Nat.reduceBEq, Nat.reduceAdd, Nat.reduceMul, Nat.reduceSub, Int.reduceToNat, reduceCtorEq, branch_decide, branch_not, branch_beq, branch_bne]
  · simp only [push_cast, ↓branch_true, ↓branch_false, Nat.reduceBEq, Nat.reduceAdd, Nat.reduceMul, Nat.reduceSub, Int.reduceToNat, reduceCtorEq, branch_decide, branch_not, branch_beq, branch_bne]
  rintro ⟨k, cap, f⟩ ⟨r1, r2⟩
  simp only at r1 r2
  simp only [push_cast, ↓branch_true, ↓branch_false, Nat.reduceBEq, Nat.reduceAdd, Nat.reduceMul, Nat.reduceSub, Int.reduceToNat, reduceCtorEq, branch_decide, branch_not, branch_beq, branch_bne]
  refine ⟨fun h => ?_, fun h => ?_⟩
  · have hk := legs_dim b.code k (by omega)
    have hk2 := mostE_ge (legsE b.code) _ k (show k < (legsE b.code).length by omega)
    have em : mostE (legsE b.code) (legsE b.code).length = mostC b.code := rfl
    rw [em] at hk2
    repeat (with_reducible refine And.intro (by omega) ?_)
    refine .inr ?_
    repeat (with_reducible refine And.intro (by omega) ?_)
    intro cap2 hcap2
    repeat (with_reducible refine And.intro (by omega) ?_)
    refine lpK_normal (k + 1, cap2, fun j => bif decide (j < k) then f j else ix b.dims (ix (legsE b.code) k).1.toNat) [0, 1, 2, 6] ⟨by simp only; omega, by simp only; omega⟩ (by simp only; omega) (by kernel_rfl) ?_ ?_
    · simp only [push_cast, ↓branch_true, ↓branch_false, Nat.reduceBEq, Nat.reduceAdd, Nat.reduceMul, Nat.reduceSub, Int.reduceToNat, reduceCtorEq, branch_decide, branch_not, branch_beq, branch_bne]
    · simp only [push_cast, ↓branch_true, ↓branch_false, Nat.reduceBEq, Nat.reduceAdd, Nat.reduceMul, Nat.reduceSub, Int.reduceToNat, reduceCtorEq, branch_decide, branch_not, branch_beq, branch_bne]
      refine fun i hi j hj => ?_
      cases decide (j < k) <;> simp [mtL]
  · obtain rfl : k = (legsE b.code).length := by omega
    refine ⟨_, _, [0, 3], ?_, ?_, ?_, cap, f, r2, rfl, rfl⟩
    · simp only [push_cast, ↓branch_true, ↓branch_false, Nat.reduceBEq, Nat.reduceAdd, Nat.reduceMul, Nat.reduceSub, Int.reduceToNat, reduceCtorEq, branch_decide, branch_not, branch_beq, branch_bne]
    · kernel_rfl
    · simp only [push_cast, ↓branch_true, ↓branch_false, Nat.reduceBEq, Nat.reduceAdd, Nat.reduceMul, Nat.reduceSub, Int.reduceToNat, reduceCtorEq, branch_decide, branch_not, branch_beq, branch_bne]
theorem bends_pu (b : Br) (hl : b.dims.length ≤ 9223372036854775807) : Pu Try.prog 28 [.a (cBr 0 0 b)] [rInt 3 b.dims] (.t [.v (.int .i64 (if vBar b = true then (legN b : Int) - 1 else 0)), .v (.int .i64 (if vBar b = true then 0 else 1))]) := by
  have h6 : legN b ≤ 6 := by
    unfold legN
    split
    · exact legs_len b.code
    · omega
  refine pu_of_ex true [] mixed Try.call28 Try.func28 rfl Try.ntmps28 Try.results28 (by decide +kernel) rfl rfl rfl ?_
  simp only [push_cast, ↓branch_true, ↓branch_false, Nat.reduceBEq, Nat.reduceAdd, Nat.reduceMul, Nat.reduceSub, Int.reduceToNat, reduceCtorEq, branch_decide, branch_not, branch_beq, branch_bne]
  refine sp_at (legsB_sp b hl) [0] rfl ?_ ?_ ?_
  · simp only [push_cast, ↓branch_true, ↓branch_false, Nat.reduceBEq, Nat.reduceAdd, Nat.reduceMul, Nat.reduceSub, Int.reduceToNat, reduceCtorEq, branch_decide, branch_not, branch_beq, branch_bne]
  · simp only [push_cast, ↓branch_true, ↓branch_false, Nat.reduceBEq, Nat.reduceAdd, Nat.reduceMul, Nat.reduceSub, Int.reduceToNat, reduceCtorEq, branch_decide, branch_not, branch_beq, branch_bne]
  rintro r0 H1 ⟨cap, f, hcap, rfl, rfl⟩
  simp only [push_cast, ↓branch_true, ↓branch_false, Nat.reduceBEq, Nat.reduceAdd, Nat.reduceMul, Nat.reduceSub, Int.reduceToNat, reduceCtorEq, branch_decide, branch_not, branch_beq, branch_bne]
  cases hv : vBar b
  · simp only [push_cast, ↓branch_true, ↓branch_false, Nat.reduceBEq, Nat.reduceAdd, Nat.reduceMul, Nat.reduceSub, Int.reduceToNat, reduceCtorEq, branch_decide, branch_not, branch_beq, branch_bne]
    simp
  · simp only [push_cast, ↓branch_true, ↓branch_false, Nat.reduceBEq, Nat.reduceAdd, Nat.reduceMul, Nat.reduceSub, Int.reduceToNat, reduceCtorEq, branch_decide, branch_not, branch_beq, branch_bne]
    simp
    omega
def canB (b : Br) (size bends : Int) : Bool := vBar b && decide (b.size ≤ size) && decide ((legN b : Int) - 1 ≤ bends)
theorem can_pu (b : Br) (size bends : Int) (hl : b.dims.length ≤ 9223372036854775807) : Pu Try.prog 27 [.a (cBr 0 0 b), .v (.int .i64 size), .v (.int .i64 bends)] [rInt 3 b.dims] (.t [.v (.bool (canB b size bends)), .v (.int .i64 (if vBar b = true then 0 else 1))]) := by
  refine pu_of_ex true [] mixed Try.call27 Try.func27 rfl Try.ntmps27 Try.results27 (by decide +kernel) rfl rfl rfl ?_
  simp only [push_cast, ↓branch_true, ↓branch_false, Nat.reduceBEq, Nat.reduceAdd, Nat.reduceMul, Nat.reduceSub, Int.reduceToNat, reduceCtorEq, branch_decide, branch_not, branch_beq, branch_bne]
  refine sp_call (vbar_pu b hl) rfl [0] rfl ?_ ?_ ?_
  · simp only [push_cast, ↓branch_true, ↓branch_false, Nat.reduceBEq, Nat.reduceAdd, Nat.reduceMul, Nat.reduceSub, Int.reduceToNat, reduceCtorEq, branch_decide, branch_not, branch_beq, branch_bne]
  · simp only [push_cast, ↓branch_true, ↓branch_false, Nat.reduceBEq, Nat.reduceAdd, Nat.reduceMul, Nat.reduceSub, Int.reduceToNat, reduceCtorEq, branch_decide, branch_not, branch_beq, branch_bne]
  simp only [push_cast, ↓branch_true, ↓branch_false, Nat.reduceBEq, Nat.reduceAdd, Nat.reduceMul, Nat.reduceSub, Int.reduceToNat, reduceCtorEq, branch_decide, branch_not, branch_beq, branch_bne]
  have hb := bends_pu b hl
  cases hv : vBar b
  · simp only [push_cast, ↓branch_true, ↓branch_false, Nat.reduceBEq, Nat.reduceAdd, Nat.reduceMul, Nat.reduceSub, Int.reduceToNat, reduceCtorEq, branch_decide, branch_not, branch_beq, branch_bne]
    simp [canB, hv]
  rw [hv] at hb
  simp only [if_true] at hb
  simp only [push_cast, ↓branch_true, ↓branch_false, Nat.reduceBEq, Nat.reduceAdd, Nat.reduceMul, Nat.reduceSub, Int.reduceToNat, reduceCtorEq, branch_decide, branch_not, branch_beq, branch_bne]
  refine sp_call hb rfl [0] rfl ?_ ?_ ?_
  · simp only [push_cast, ↓branch_true, ↓branch_false, Nat.reduceBEq, Nat.reduceAdd, Nat.reduceMul, Nat.reduceSub, Int.reduceToNat, reduceCtorEq, branch_decide, branch_not, branch_beq, branch_bne]
  · simp only [push_cast, ↓branch_true, ↓branch_false, Nat.reduceBEq, Nat.reduceAdd, Nat.reduceMul, Nat.reduceSub, Int.reduceToNat, reduceCtorEq, branch_decide, branch_not, branch_beq, branch_bne]
  simp only [push_cast, ↓branch_true, ↓branch_false, Nat.reduceBEq, Nat.reduceAdd, Nat.reduceMul, Nat.reduceSub, Int.reduceToNat, reduceCtorEq, branch_decide, branch_not, branch_beq, branch_bne]
  exact ⟨fun h => by simp [canB, hv, h], fun h => by simp [canB, h]⟩
def wideB (b : Br) : Bool := decide (100 < b.mark.size) || decide (20 < b.dims.length)
theorem wide_pu (b : Br) : Pu Try.prog 25 [.a (cBr 0 0 b)] [rInt 3 b.dims] (.v (.bool (wideB b))) := by
  refine pu_of_ex true [] mixed Try.call25 Try.func25 rfl Try.ntmps25 Try.results25 (by decide +kernel) rfl rfl rfl ?_
  simp only [push_cast, ↓branch_true, ↓branch_false, Nat.reduceBEq, Nat.reduceAdd, Nat.reduceMul, Nat.reduceSub, Int.reduceToNat, reduceCtorEq, branch_decide, branch_not, branch_beq, branch_bne]
  exact ⟨fun h => by simp [wideB, show 100 < b.mark.size by omega], fun h => by (simp [wideB, show ¬100 < b.mark.size by omega]; omega)⟩
end Go.Proofs.Ytgbldceimdjblaa
