/- Contract: the reference's Below. -/
import Derived.Test.YtekokeiajgcfkaaK
set_option maxRecDepth 100000
set_option linter.unusedSimpArgs false
set_option linter.unusedVariables false
namespace Go.Proofs.Ytekokeiajgcfkaa
open Go.RowKit
def rbelR (a b : List Stp) (lo hi : Int) : Int × Bool :=
  if atL a lo < atL b lo then (lo, true) else
  match (brk a b).find? (lowB a b lo hi) with
  | some x => (x, true)
  | none => (0, false)
theorem rbelow_sp (a b : List Stp) (lo hi : Int) (c d : Nat) (hla : a.length ≤ 250) (hlb : b.length ≤ 250) :
    Sp Try.prog 23 [.s 0 0 0 a.length c 2, .s 1 0 0 b.length d 2, .v (.int .i64 lo), .v (.int .i64 hi)] [rSt a, rSt b] (fun r H => r = .t [.v (.int .i64 (rbelR a b lo hi).1), .v (.bool (rbelR a b lo hi).2)] ∧ H = [rSt a, rSt b]) := by
  have hbl := brk_len a b
  refine sp_weak ?_
  refine sp_of_ex true [] mixed Try.call23 Try.func23 rfl Try.ntmps23 Try.results23 (by decide +kernel) rfl ?_
  simp only [push_cast, ↓branch_true, ↓branch_false, Nat.reduceBEq, Nat.reduceAdd, Nat.reduceMul, Nat.reduceSub, Int.reduceToNat, reduceCtorEq, branch_decide, branch_not, branch_beq, branch_bne]
  refine sp_at (places_sp a b c d (by omega) (by omega)) [0, 1] rfl ?_ ?_ ?_
  · simp only [push_cast, ↓branch_true, ↓branch_false, Nat.reduceBEq, Nat.reduceAdd, Nat.reduceMul, Nat.reduceSub, Int.reduceToNat, reduceCtorEq, branch_decide, branch_not, branch_beq, branch_bne]
  · simp only [push_cast, ↓branch_true, ↓branch_false, Nat.reduceBEq, Nat.reduceAdd, Nat.reduceMul, Nat.reduceSub, Int.reduceToNat, reduceCtorEq, branch_decide, branch_not, branch_beq, branch_bne]
  rintro _ _ ⟨bcap, hbcap, rfl, rfl⟩
  simp only [push_cast, ↓branch_true, ↓branch_false, Nat.reduceBEq, Nat.reduceAdd, Nat.reduceMul, Nat.reduceSub, Int.reduceToNat, reduceCtorEq, branch_decide, branch_not, branch_beq, branch_bne]
  refine sp_call (rat_pu a c lo (by omega)) rfl [0] rfl (by simp only [push_cast, ↓branch_true, ↓branch_false, Nat.reduceBEq, Nat.reduceAdd, Nat.reduceMul, Nat.reduceSub, Int.reduceToNat, reduceCtorEq, branch_decide, branch_not, branch_beq, branch_bne]) (by simp only [push_cast, ↓branch_true, ↓branch_false, Nat.reduceBEq, Nat.reduceAdd, Nat.reduceMul, Nat.reduceSub, Int.reduceToNat, reduceCtorEq, branch_decide, branch_not, branch_beq, branch_bne]) ?_
  simp only [push_cast, ↓branch_true, ↓branch_false, Nat.reduceBEq, Nat.reduceAdd, Nat.reduceMul, Nat.reduceSub, Int.reduceToNat, reduceCtorEq, branch_decide, branch_not, branch_beq, branch_bne]
  refine sp_call (rat_pu b d lo (by omega)) rfl [1] rfl (by simp only [push_cast, ↓branch_true, ↓branch_false, Nat.reduceBEq, Nat.reduceAdd, Nat.reduceMul, Nat.reduceSub, Int.reduceToNat, reduceCtorEq, branch_decide, branch_not, branch_beq, branch_bne]) (by simp only [push_cast, ↓branch_true, ↓branch_false, Nat.reduceBEq, Nat.reduceAdd, Nat.reduceMul, Nat.reduceSub, Int.reduceToNat, reduceCtorEq, branch_decide, branch_not, branch_beq, branch_bne]) ?_
  simp only [push_cast, ↓branch_true, ↓branch_false, Nat.reduceBEq, Nat.reduceAdd, Nat.reduceMul, Nat.reduceSub, Int.reduceToNat, reduceCtorEq, branch_decide, branch_not, branch_beq, branch_bne]
  refine ⟨fun h1 => ?_, fun h1 => ?_⟩
  · have he : rbelR a b lo hi = (lo, true) := by rw [rbelR, if_pos h1]
    rw [he]
    refine ⟨_, _, [0, 1], ?_, by kernel_rfl, ?_, rfl, rfl⟩ <;> (simp only [push_cast, ↓branch_true, ↓branch_false, Nat.reduceBEq, Nat.reduceAdd, Nat.reduceMul, Nat.reduceSub, Int.reduceToNat, reduceCtorEq, branch_decide, branch_not, branch_beq, branch_bne])
  obtain ⟨L, hL⟩ : ∃ L, L = brk a b := ⟨_, rfl⟩
  have hbel : rbelR a b lo hi = match L.find? (lowB a b lo hi) with
      | some x => (x, true)
      | none => (0, false) := by rw [rbelR, if_neg h1, hL]
  rw [← hL] at hbcap hbl ⊢
  refine tr_loop0 mixed (by kernel_rfl) (fun (k : Nat) => [(11, .v (.int .i64 k)), (10, .s 2 0 0 L.length bcap 1), (0, .s 0 0 0 a.length c 2), (1, .s 1 0 0 b.length d 2), (2, .v (.int .i64 lo)), (3, .v (.int .i64 hi))])
    (fun k => k ≤ L.length ∧ ∀ j, j < k → lowB a b lo hi (ix L j) = false) (fun k => L.length - k) 0 ⟨Nat.zero_le _, fun j hj => by omega⟩ ?_ ?_
  · simp only [push_cast, ↓branch_true, ↓branch_false, Nat.reduceBEq, Nat.reduceAdd, Nat.reduceMul, Nat.reduceSub, Int.reduceToNat, reduceCtorEq, branch_decide, branch_not, branch_beq, branch_bne]
  rintro k ⟨hk, hn⟩
  simp only [push_cast, ↓branch_true, ↓branch_false, Nat.reduceBEq, Nat.reduceAdd, Nat.reduceMul, Nat.reduceSub, Int.reduceToNat, reduceCtorEq, branch_decide, branch_not, branch_beq, branch_bne]
  refine ⟨fun h => ?_, fun h => ?_⟩
  · repeat (with_reducible refine And.intro (by omega) ?_)
    have hk2 : k < L.length := by omega
    have stp : lowB a b lo hi (ix L k) = false → ∀ j, j < k + 1 → lowB a b lo hi (ix L j) = false := fun h j hj => by
      by_cases e : j = k
      · subst e; exact h
      · exact hn j (by omega)
    have hit : lowB a b lo hi (ix L k) = true → rbelR a b lo hi = (ix L k, true) := fun h => by
      have : L.find? (lowB a b lo hi) = some (ix L k) := by
        rw [List.find?_eq_some_iff_getElem]
        refine ⟨h, k, hk2, (ix_eq hk2).symm, fun j hj => ?_⟩
        rw [← ix_eq (by omega), hn j hj]
        rfl
      rw [hbel, this]
    refine ⟨fun h5 => ?_, fun h5 => ?_⟩
    · repeat (with_reducible refine And.intro (by omega) ?_)
      refine ⟨fun h6 => ?_, fun h6 => ?_⟩
      · repeat (with_reducible refine And.intro (by omega) ?_)
        refine qc_call (rat_pu a c (ix L k) (by omega)) rfl [0] rfl (by simp only [push_cast, ↓branch_true, ↓branch_false, Nat.reduceBEq, Nat.reduceAdd, Nat.reduceMul, Nat.reduceSub, Int.reduceToNat, reduceCtorEq, branch_decide, branch_not, branch_beq, branch_bne]) (by simp only [push_cast, ↓branch_true, ↓branch_false, Nat.reduceBEq, Nat.reduceAdd, Nat.reduceMul, Nat.reduceSub, Int.reduceToNat, reduceCtorEq, branch_decide, branch_not, branch_beq, branch_bne]) ?_
        simp only [push_cast, ↓branch_true, ↓branch_false, Nat.reduceBEq, Nat.reduceAdd, Nat.reduceMul, Nat.reduceSub, Int.reduceToNat, reduceCtorEq, branch_decide, branch_not, branch_beq, branch_bne]
        repeat (with_reducible refine And.intro (by omega) ?_)
        refine qc_call (rat_pu b d (ix L k) (by omega)) rfl [1] rfl (by simp only [push_cast, ↓branch_true, ↓branch_false, Nat.reduceBEq, Nat.reduceAdd, Nat.reduceMul, Nat.reduceSub, Int.reduceToNat, reduceCtorEq, branch_decide, branch_not, branch_beq, branch_bne]) (by simp only [push_cast, ↓branch_true, ↓branch_false, Nat.reduceBEq, Nat.reduceAdd, Nat.reduceMul, Nat.reduceSub, Int.reduceToNat, reduceCtorEq, branch_decide, branch_not, branch_beq, branch_bne]) ?_
        simp only [push_cast, ↓branch_true, ↓branch_false, Nat.reduceBEq, Nat.reduceAdd, Nat.reduceMul, Nat.reduceSub, Int.reduceToNat, reduceCtorEq, branch_decide, branch_not, branch_beq, branch_bne]
        refine ⟨fun h7 => ?_, fun h7 => ?_⟩
        · repeat (with_reducible refine And.intro (by omega) ?_)
          rw [hit (by simp [lowB]; omega)]
          refine ⟨_, _, [0, 1], ?_, by kernel_rfl, ?_, rfl, rfl⟩ <;> (simp only [push_cast, ↓branch_true, ↓branch_false, Nat.reduceBEq, Nat.reduceAdd, Nat.reduceMul, Nat.reduceSub, Int.reduceToNat, reduceCtorEq, branch_decide, branch_not, branch_beq, branch_bne])
        · repeat (with_reducible refine And.intro (by omega) ?_)
          refine lp0_normal (k + 1) ⟨by omega, stp (by simp [lowB]; omega)⟩ (by omega) ?_
          simp only [push_cast, ↓branch_true, ↓branch_false, Nat.reduceBEq, Nat.reduceAdd, Nat.reduceMul, Nat.reduceSub, Int.reduceToNat, reduceCtorEq, branch_decide, branch_not, branch_beq, branch_bne]
      · repeat (with_reducible refine And.intro (by omega) ?_)
        refine lp0_normal (k + 1) ⟨by omega, stp (by simp [lowB]; omega)⟩ (by omega) ?_
        simp only [push_cast, ↓branch_true, ↓branch_false, Nat.reduceBEq, Nat.reduceAdd, Nat.reduceMul, Nat.reduceSub, Int.reduceToNat, reduceCtorEq, branch_decide, branch_not, branch_beq, branch_bne]
    · repeat (with_reducible refine And.intro (by omega) ?_)
      refine lp0_normal (k + 1) ⟨by omega, stp (by simp [lowB]; omega)⟩ (by omega) ?_
      simp only [push_cast, ↓branch_true, ↓branch_false, Nat.reduceBEq, Nat.reduceAdd, Nat.reduceMul, Nat.reduceSub, Int.reduceToNat, reduceCtorEq, branch_decide, branch_not, branch_beq, branch_bne]
  · have : L.find? (lowB a b lo hi) = none := List.find?_eq_none.2 fun y hy => by
      obtain ⟨j, hj, rfl⟩ := List.mem_iff_getElem.1 hy
      have := hn j (by omega)
      rw [ix_eq hj] at this
      simp [this]
    rw [hbel, this]
    refine ⟨_, _, [0, 1], ?_, by kernel_rfl, ?_, rfl, rfl⟩ <;> (simp only [push_cast, ↓branch_true, ↓branch_false, Nat.reduceBEq, Nat.reduceAdd, Nat.reduceMul, Nat.reduceSub, Int.reduceToNat, reduceCtorEq, branch_decide, branch_not, branch_beq, branch_bne])
end Go.Proofs.Ytekokeiajgcfkaa
