/- Contracts: Fullest. -/
import Derived.Test.YthnpnoclhmneoaaH
set_option maxRecDepth 100000
set_option linter.unusedSimpArgs false
set_option linter.unusedVariables false
namespace Go.Proofs.Ythnpnoclhmneoaa
open Go.RowKit
def lensF (l : List Pc) : List Int := l.map Pc.len
theorem lensF_len (l : List Pc) : (lensF l).length = l.length := by simp [lensF]
theorem lensF_ix {l : List Pc} {k : Nat} (h : k < l.length) : ix (lensF l) k = (ix l k).len := by
  rw [ix_eq (by simpa [lensF] using h), ix_eq h]
  simp [lensF]
/-- The answer of Fullest. -/
def fullW (length : Int) (l : List Pc) : Int := if bestE length l (lensF l) = 0 then length - (bestS length l (lensF l)).2 else 0
theorem fullestX_sp (length : Int) (l : List Pc) (c : Nat) (hl : l.length * 16 ≤ 140737488355328) : Sp Try.prog 16 [.v (.int .i64 length), .s 0 0 0 l.length c 2] [rPc l]
    (fun r H => ∃ nb bi bl bc caps bf, r = .t [.s 1 bi 0 bl bc 1, .v (.int .i64 (fullW length l)), .v (.int .i64 (bestE length l (lensF l)))] ∧ BstOk l.length nb bi bl bc caps bf (bestS length l (lensF l)) ∧ H = [rPc l, oFam l.length nb caps bf]) := by
  refine sp_wk ?_
  refine sp_of_ex true [] mixed Try.call16 Try.func16 rfl Try.ntmps16 Try.results16 (by decide +kernel) rfl ?_
  simp only [push_cast, ↓branch_true, ↓branch_false, Nat.reduceBEq, Nat.reduceAdd, Nat.reduceMul, Nat.reduceSub, Int.reduceToNat, reduceCtorEq, branch_decide, branch_not, branch_beq, branch_bne]
  refine tr_loop mixed (by kernel_rfl) (fun (x : Nat × Nat) => [(15, .v (.int .i64 x.1)), (14, .v (.int .i64 l.length)), (13, .s 0 0 0 l.length c 2), (7, .s 1 0 0 x.1 x.2 1), (0, .v (.int .i64 length)), (1, .s 0 0 0 l.length c 2)])
    (fun x => [rPc l, rOwn 3 x.1 x.2 (fun k => (ix l k).len)]) (fun x => x.1 ≤ l.length) (fun x => l.length - x.1) (0, 0) (Nat.zero_le _) (Mt.wk (rl := [0, 1]) ⟨by kernel_rfl, ?_, ?_⟩) ?_
  · simp only [push_cast, ↓branch_true, ↓branch_false, Nat.reduceBEq, Nat.reduceAdd, Nat.reduceMul, Nat.reduceSub, Int.reduceToNat, reduceCtorEq, branch_decide, branch_not, branch_beq, branch_bne]
  · simp only [push_cast, ↓branch_true, ↓branch_false, Nat.reduceBEq, Nat.reduceAdd, Nat.reduceMul, Nat.reduceSub, Int.reduceToNat, reduceCtorEq, branch_decide, branch_not, branch_beq, branch_bne]
  rintro ⟨k, oc⟩ hk
  simp only at hk
  simp only [push_cast, ↓branch_true, ↓branch_false, Nat.reduceBEq, Nat.reduceAdd, Nat.reduceMul, Nat.reduceSub, Int.reduceToNat, reduceCtorEq, branch_decide, branch_not, branch_beq, branch_bne]
  refine ⟨fun h => ?_, fun h => ?_⟩
  · repeat (with_reducible refine And.intro (by omega) ?_)
    refine .inr ?_
    repeat (with_reducible refine And.intro (by omega) ?_)
    intro cap2 hcap2
    repeat (with_reducible refine And.intro (by omega) ?_)
    refine lpK_normal (k + 1, cap2) [0, 4] (by simp only; omega) (by simp only; omega) (by kernel_rfl) ?_ ?_
    · simp only [push_cast, ↓branch_true, ↓branch_false, Nat.reduceBEq, Nat.reduceAdd, Nat.reduceMul, Nat.reduceSub, Int.reduceToNat, reduceCtorEq, branch_decide, branch_not, branch_beq, branch_bne]
    · simp only [push_cast, ↓branch_true, ↓branch_false, Nat.reduceBEq, Nat.reduceAdd, Nat.reduceMul, Nat.reduceSub, Int.reduceToNat, reduceCtorEq, branch_decide, branch_not, branch_beq, branch_bne]
      intro j hj
      intro i hi
      by_cases e : i < k
      · simp [e, mtL]
      · obtain rfl : i = k := by omega
        simp [mtL]
  · obtain rfl : k = l.length := by omega
    have h0 := bestX_sp length l c (lensF l) oc (by omega) (by rw [lensF_len]; omega)
    refine sp_at h0 [0, 1] rfl ?_ ?_ ?_
    · rw [lensF_len]
      simp only [push_cast, ↓branch_true, ↓branch_false, Nat.reduceBEq, Nat.reduceAdd, Nat.reduceMul, Nat.reduceSub, Int.reduceToNat, reduceCtorEq, branch_decide, branch_not, branch_beq, branch_bne]
    · simp only [push_cast, ↓branch_true, ↓branch_false, Nat.reduceBEq, Nat.reduceAdd, Nat.reduceMul, Nat.reduceSub, Int.reduceToNat, reduceCtorEq, branch_decide, branch_not, branch_beq, branch_bne]
      rw [lensF_len]
      exact fun j hj => ⟨Nat.le_refl _, fun i hi => by rw [lensF_ix hi]⟩
    rintro r0 H1 ⟨nb, bi, bl, bc, caps, bf, rfl, q1, q1b, rfl⟩
    simp only [push_cast, ↓branch_true, ↓branch_false, Nat.reduceBEq, Nat.reduceAdd, Nat.reduceMul, Nat.reduceSub, Int.reduceToNat, reduceCtorEq, branch_decide, branch_not, branch_beq, branch_bne]
    refine ⟨fun h1 => ?_, fun h1 => ?_⟩
    · obtain ⟨b1, b2⟩ := q1b h1
      have hg : givenE length l (lensF l).length = 0 := by
        unfold bestE at h1
        split at h1
        · omega
        · omega
      obtain ⟨ho, hl0, hl1, _⟩ := given_ok hg
      have := order_len ho
      have e1 : fullW length l = length - (bestS length l (lensF l)).2 := by
        unfold fullW
        rw [if_pos h1]
      repeat (with_reducible refine And.intro (by omega) ?_)
      rw [e1, h1]
      refine ⟨_, _, vwk_mt [0, 2] ?_ ?_ ?_, nb, bi, bl, bc, caps, bf, rfl, q1, rfl⟩
      · simp only [push_cast, ↓branch_true, ↓branch_false, Nat.reduceBEq, Nat.reduceAdd, Nat.reduceMul, Nat.reduceSub, Int.reduceToNat, reduceCtorEq, branch_decide, branch_not, branch_beq, branch_bne]
      · kernel_rfl
      · simp only [push_cast, ↓branch_true, ↓branch_false, Nat.reduceBEq, Nat.reduceAdd, Nat.reduceMul, Nat.reduceSub, Int.reduceToNat, reduceCtorEq, branch_decide, branch_not, branch_beq, branch_bne]
    · have e1 : fullW length l = 0 := by
        unfold fullW
        rw [if_neg h1]
      have e2 : bestS length l (lensF l) = ([], 0) := by
        unfold bestS
        rw [if_neg h1]
      rw [e1, e2]
      refine ⟨_, _, vwk_mt [0, 3] ?_ ?_ ?_, 0, 0, 0, 0, fun _ => 0, [], rfl, ⟨rfl, .inl ⟨rfl, rfl, rfl⟩⟩, rfl⟩
      · simp only [push_cast, ↓branch_true, ↓branch_false, Nat.reduceBEq, Nat.reduceAdd, Nat.reduceMul, Nat.reduceSub, Int.reduceToNat, reduceCtorEq, branch_decide, branch_not, branch_beq, branch_bne]
      · kernel_rfl
      · simp only [push_cast, ↓branch_true, ↓branch_false, Nat.reduceBEq, Nat.reduceAdd, Nat.reduceMul, Nat.reduceSub, Int.reduceToNat, reduceCtorEq, branch_decide, branch_not, branch_beq, branch_bne]
end Go.Proofs.Ythnpnoclhmneoaa
