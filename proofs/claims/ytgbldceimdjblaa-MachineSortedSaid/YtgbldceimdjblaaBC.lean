/- Contracts: lists of bars. -/
import Derived.Test.YtgbldceimdjblaaBB
set_option maxRecDepth 100000
set_option linter.unusedSimpArgs false
set_option linter.unusedVariables false
namespace Go.Proofs.Ytgbldceimdjblaa
open Go.RowKit
/-- A list of bars; their dimensions are the members of object `j`. -/
def rBr (j : Nat) (l : List Br) : Ob := ⟨47, true, .row 5 1 (fun _ => l.length) (fun _ => 0) (fun _ k => cBr j k (ix l k))⟩
def rDm (l : List Br) : Ob := ⟨3, true, .row 1 l.length (fun i => (ix l i).dims.length) (fun _ => 0) (fun i k => [.v (.int .i64 (ix (ix l i).dims k))])⟩
attribute [push_cast] rBr rDm
def OkDm (l : List Br) : Prop := ∀ k, k < l.length → (ix l k).dims.length ≤ 9223372036854775807
theorem vbarM_pu (l : List Br) (k : Nat) (hk : k < l.length) (hl : OkDm l) : Pu Try.prog 29 [.a (cBr 1 k (ix l k))] [rBr 1 l, rDm l] (.v (.bool (vBar (ix l k)))) := by
  refine pu_member 1 k [2] rfl ⟨rfl, hk⟩ ?_ (by kernel_rfl) ?_ (vbar_pu (ix l k) (hl k hk))
  · simp only [push_cast, ↓branch_true, ↓branch_false, Nat.reduceBEq, Nat.reduceAdd, Nat.reduceMul, Nat.reduceSub, Int.reduceToNat, reduceCtorEq, branch_decide, branch_not, branch_beq, branch_bne]
  · simp only [push_cast, ↓branch_true, ↓branch_false, Nat.reduceBEq, Nat.reduceAdd, Nat.reduceMul, Nat.reduceSub, Int.reduceToNat, reduceCtorEq, branch_decide, branch_not, branch_beq, branch_bne]
theorem wideM_pu (l : List Br) (k : Nat) (hk : k < l.length) : Pu Try.prog 25 [.a (cBr 1 k (ix l k))] [rBr 1 l, rDm l] (.v (.bool (wideB (ix l k)))) := by
  refine pu_member 1 k [2] rfl ⟨rfl, hk⟩ ?_ (by kernel_rfl) ?_ (wide_pu (ix l k))
  · simp only [push_cast, ↓branch_true, ↓branch_false, Nat.reduceBEq, Nat.reduceAdd, Nat.reduceMul, Nat.reduceSub, Int.reduceToNat, reduceCtorEq, branch_decide, branch_not, branch_beq, branch_bne]
  · simp only [push_cast, ↓branch_true, ↓branch_false, Nat.reduceBEq, Nat.reduceAdd, Nat.reduceMul, Nat.reduceSub, Int.reduceToNat, reduceCtorEq, branch_decide, branch_not, branch_beq, branch_bne]
theorem canM_pu (l : List Br) (k : Nat) (size bends : Int) (hk : k < l.length) (hl : OkDm l) : Pu Try.prog 27 [.a (cBr 1 k (ix l k)), .v (.int .i64 size), .v (.int .i64 bends)] [rBr 1 l, rDm l] (.t [.v (.bool (canB (ix l k) size bends)), .v (.int .i64 (if vBar (ix l k) = true then 0 else 1))]) := by
  refine pu_member 1 k [2] rfl ⟨rfl, hk⟩ ?_ (by kernel_rfl) ?_ (can_pu (ix l k) size bends (hl k hk))
  · simp only [push_cast, ↓branch_true, ↓branch_false, Nat.reduceBEq, Nat.reduceAdd, Nat.reduceMul, Nat.reduceSub, Int.reduceToNat, reduceCtorEq, branch_decide, branch_not, branch_beq, branch_bne]
  · simp only [push_cast, ↓branch_true, ↓branch_false, Nat.reduceBEq, Nat.reduceAdd, Nat.reduceMul, Nat.reduceSub, Int.reduceToNat, reduceCtorEq, branch_decide, branch_not, branch_beq, branch_bne]
theorem indexBr_pu (l : List Br) (c : Nat) (g : FuncId) (fs cs : List SV) (H : List Ob) (p : Br → Bool) (hro : roB H = true) (hl : l.length ≤ 9223372036854775806)
    (hp : ∀ k, k < l.length → Pu Try.prog g (fs ++ [.a (cBr 1 k (ix l k))] ++ cs) (rBr 1 l :: rDm l :: H) (.v (.bool (p (ix l k))))) : Pu Try.prog 49 [.s 0 0 0 l.length c 5, .f (.func g) fs cs] (rBr 1 l :: rDm l :: H) (.v (.int .i64 (idxB p l 0))) := by
  refine pu_of_ex true [] mixed Try.call49 Try.func49 rfl Try.ntmps49 Try.results49 (by decide +kernel) rfl (by simp [roB, hro, rBr, rDm]) rfl ?_
  simp only [push_cast, ↓branch_true, ↓branch_false, Nat.reduceBEq, Nat.reduceAdd, Nat.reduceMul, Nat.reduceSub, Int.reduceToNat, reduceCtorEq, branch_decide, branch_not, branch_beq, branch_bne]
  refine tr_loop0 mixed (by kernel_rfl) (fun (k : Nat) => [(8, .v (.int .i64 k)), (7, .v (.int .i64 l.length)), (0, .s 0 0 0 l.length c 5), (1, .f (.func g) fs cs)]) (fun k => k ≤ l.length ∧ ∀ j, j < k → p (ix l j) = false) (fun k => l.length - k) 0 ⟨Nat.zero_le _, fun j h => by omega⟩ ?_ ?_
  · simp only [push_cast, ↓branch_true, ↓branch_false, Nat.reduceBEq, Nat.reduceAdd, Nat.reduceMul, Nat.reduceSub, Int.reduceToNat, reduceCtorEq, branch_decide, branch_not, branch_beq, branch_bne]
  · rintro k ⟨hk, hn⟩
    simp only [push_cast, ↓branch_true, ↓branch_false, Nat.reduceBEq, Nat.reduceAdd, Nat.reduceMul, Nat.reduceSub, Int.reduceToNat, reduceCtorEq, branch_decide, branch_not, branch_beq, branch_bne]
    refine ⟨fun h1 => ?_, fun h1 => ?_⟩
    · repeat (with_reducible refine And.intro (by omega) ?_)
      have hp1 := hp k (by omega)
      refine sp_pu (by simpa only [push_cast] using hp1) ?_
      simp only [push_cast, ↓branch_true, ↓branch_false, Nat.reduceBEq, Nat.reduceAdd, Nat.reduceMul, Nat.reduceSub, Int.reduceToNat, reduceCtorEq, branch_decide, branch_not, branch_beq, branch_bne]
      simp only [branch]
      refine ⟨fun h2 => ?_, fun h2 => ?_⟩
      · rw [idxB_at p l 0 k (by omega) hn h2]; simp
      · repeat (with_reducible refine And.intro (by omega) ?_)
        refine lp0_normal (k + 1) ⟨by omega, fun j hj => ?_⟩ (by omega) ?_
        · by_cases e : j = k
          · rw [e]; exact h2
          · exact hn j (by omega)
        · simp only [push_cast, ↓branch_true, ↓branch_false, Nat.reduceBEq, Nat.reduceAdd, Nat.reduceMul, Nat.reduceSub, Int.reduceToNat, reduceCtorEq, branch_decide, branch_not, branch_beq, branch_bne]
    · obtain rfl : k = l.length := by omega
      rw [idxB_none p l 0 fun j hj => hn j (by omega)]
theorem containsBr_pu (l : List Br) (c : Nat) (g : FuncId) (fs cs : List SV) (H : List Ob) (p : Br → Bool) (hro : roB H = true) (hl : l.length ≤ 9223372036854775806)
    (hp : ∀ k, k < l.length → Pu Try.prog g (fs ++ [.a (cBr 1 k (ix l k))] ++ cs) (rBr 1 l :: rDm l :: H) (.v (.bool (p (ix l k))))) : Pu Try.prog 26 [.s 0 0 0 l.length c 5, .f (.func g) fs cs] (rBr 1 l :: rDm l :: H) (.v (.bool (l.any p))) := by
  refine pu_of_ex true [] mixed Try.call26 Try.func26 rfl Try.ntmps26 Try.results26 (by decide +kernel) rfl (by simp [roB, hro, rBr, rDm]) rfl ?_
  simp only [push_cast, ↓branch_true, ↓branch_false, Nat.reduceBEq, Nat.reduceAdd, Nat.reduceMul, Nat.reduceSub, Int.reduceToNat, reduceCtorEq, branch_decide, branch_not, branch_beq, branch_bne]
  refine sp_pu (indexBr_pu l c g fs cs H p hro hl hp) ?_
  simp only [push_cast, ↓branch_true, ↓branch_false, Nat.reduceBEq, Nat.reduceAdd, Nat.reduceMul, Nat.reduceSub, Int.reduceToNat, reduceCtorEq, branch_decide, branch_not, branch_beq, branch_bne]
  rw [idxB_any p l 0 (Int.le_refl 0)]
/-- A word in a variable. -/
def rStr (s : ByteArray) : Ob := ⟨9, true, .st [.v (.string s)]⟩
attribute [push_cast] rStr
theorem mark_pu (b : Br) (s : ByteArray) : Pu Try.prog 65 [.a (cBr 0 0 b), .p 1 0 0] [rInt 3 b.dims, rStr s] (.v (.bool (eqN b.mark s))) := by
  refine pu_of_ex true [] mixed Try.call65 Try.func65 rfl Try.ntmps65 Try.results65 (by decide +kernel) rfl rfl rfl ?_
  simp only [push_cast, ↓branch_true, ↓branch_false, Nat.reduceBEq, Nat.reduceAdd, Nat.reduceMul, Nat.reduceSub, Int.reduceToNat, reduceCtorEq, branch_decide, branch_not, branch_beq, branch_bne]
  rw [toList_bytes, toList_bytes]
  rfl
theorem markM_pu (l : List Br) (k : Nat) (s : ByteArray) (hk : k < l.length) : Pu Try.prog 65 [.a (cBr 1 k (ix l k)), .p 2 0 0] [rBr 1 l, rDm l, rStr s] (.v (.bool (eqN (ix l k).mark s))) := by
  refine pu_member 1 k [3, 2] rfl ⟨rfl, hk⟩ ?_ (by kernel_rfl) ?_ (mark_pu (ix l k) s)
  · simp only [push_cast, ↓branch_true, ↓branch_false, Nat.reduceBEq, Nat.reduceAdd, Nat.reduceMul, Nat.reduceSub, Int.reduceToNat, reduceCtorEq, branch_decide, branch_not, branch_beq, branch_bne]
  · simp only [push_cast, ↓branch_true, ↓branch_false, Nat.reduceBEq, Nat.reduceAdd, Nat.reduceMul, Nat.reduceSub, Int.reduceToNat, reduceCtorEq, branch_decide, branch_not, branch_beq, branch_bne]
theorem index_pu (l : List Br) (c : Nat) (s : ByteArray) (hl : l.length ≤ 9223372036854775806) : Pu Try.prog 54 [.s 0 0 0 l.length c 5, .v (.string s)] [rBr 1 l, rDm l] (.v (.int .i64 (idxB (fun y => eqN y.mark s) l 0))) := by
  refine pu_of_ex true [] mixed Try.call54 Try.func54 rfl Try.ntmps54 Try.results54 (by decide +kernel) rfl rfl rfl ?_
  simp only [push_cast, ↓branch_true, ↓branch_false, Nat.reduceBEq, Nat.reduceAdd, Nat.reduceMul, Nat.reduceSub, Int.reduceToNat, reduceCtorEq, branch_decide, branch_not, branch_beq, branch_bne]
  refine sp_call (indexBr_pu l c 65 [] [.p 2 0 0] [rStr s] (fun y => eqN y.mark s) rfl hl fun k hk => markM_pu l k s hk) rfl [0, 1, 2] rfl ?_ ?_ ?_
  · simp only [push_cast, ↓branch_true, ↓branch_false, Nat.reduceBEq, Nat.reduceAdd, Nat.reduceMul, Nat.reduceSub, Int.reduceToNat, reduceCtorEq, branch_decide, branch_not, branch_beq, branch_bne]
  · simp only [push_cast, ↓branch_true, ↓branch_false, Nat.reduceBEq, Nat.reduceAdd, Nat.reduceMul, Nat.reduceSub, Int.reduceToNat, reduceCtorEq, branch_decide, branch_not, branch_beq, branch_bne]
  simp only [push_cast, ↓branch_true, ↓branch_false, Nat.reduceBEq, Nat.reduceAdd, Nat.reduceMul, Nat.reduceSub, Int.reduceToNat, reduceCtorEq, branch_decide, branch_not, branch_beq, branch_bne]
end Go.Proofs.Ytgbldceimdjblaa
