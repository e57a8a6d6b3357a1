/- Contracts: the bound; long lists. -/
import Derived.Test.YtdinkpefoljigaaC
set_option maxRecDepth 100000
set_option linter.unusedSimpArgs false
set_option linter.unusedVariables false
namespace Go.Proofs.Ytdinkpefoljigaa
open Go.RowKit
def sumT (l : List Bun) (k : Nat) : Int := ((l.take k).map Bun.mass).sum
def twoB (most : Int) (b : Bun) : Bool := decide (most < 2 * b.mass)
def cntT (l : List Bun) (most : Int) (k : Nat) : Nat := (l.take k).countP (twoB most)
theorem sumT_succ {l : List Bun} {k : Nat} (hk : k < l.length) : sumT l (k + 1) = sumT l k + (ix l k).mass := by
  unfold sumT
  rw [take_snoc hk, List.map_append, List.sum_append]
  simp
theorem cntT_succ {l : List Bun} {most : Int} {k : Nat} (hk : k < l.length) : cntT l most (k + 1) = cntT l most k + (if most < 2 * (ix l k).mass then 1 else 0) := by
  unfold cntT
  rw [take_snoc hk, List.countP_append]
  simp [twoB, List.countP_cons]
theorem cntT_le (l : List Bun) (most : Int) (k : Nat) : cntT l most k ≤ k := Nat.le_trans List.countP_le_length (by simp; omega)
theorem okA_mass {l : List Bun} {k : Nat} (h : okA l k = true) : 0 ≤ (ix l k).mass ∧ (ix l k).mass ≤ 1099511627776 := by
  simp [okA] at h; omega
theorem sumT_range {l : List Bun} (hv : vB l = true) : ∀ k, k ≤ l.length → 0 ≤ sumT l k ∧ sumT l k ≤ 1099511627776 * k
  | 0, _ => by simp [sumT]
  | k + 1, h => by
    have ih := sumT_range hv k (by omega)
    have := okA_mass ((vB_yes.1 hv).2 k (by omega))
    rw [sumT_succ (by omega)]
    omega
def boundF (l : List Bun) (most : Int) : Int := max (max ((sumT l l.length + most - 1).tdiv most) (cntT l most l.length)) (min l.length 1)
def boundR (l : List Bun) (most : Int) : Int × Int := if errG l most = 0 then (boundF l most, 0) else (0, errG l most)
theorem errG_ok {l : List Bun} {most : Int} (h : errG l most = 0) : vB l = true ∧ 1 ≤ most ∧ most ≤ 1099511627776 ∧ ∀ k, k < l.length → (ix l k).mass ≤ most := by
  unfold errG at h
  split at h
  · omega
  · rename_i hv
    split at h
    · omega
    · rename_i hm
      split at h
      · omega
      · rename_i ha
        have hv : vB l = true := by simpa using hv
        refine ⟨hv, by omega, by omega, fun k hk => ?_⟩
        have ha : l.any (heavyB most) = false := by simpa using ha
        rw [List.any_eq_false] at ha
        have := ha _ (ix_mem hk)
        simp [heavyB] at this
        omega
theorem quo_range {n m : Int} (hn : 0 ≤ n) (hm : 1 ≤ m) : 0 ≤ n.tdiv m ∧ n.tdiv m ≤ n := by
  rw [Int.tdiv_eq_ediv_of_nonneg hn]
  exact ⟨Int.ediv_nonneg hn (by omega), Int.ediv_le_self _ hn⟩
theorem bound_pu (l : List Bun) (most : Int) (c : Nat) (hs : strOk l) (hl : l.length ≤ 9223372036854775807) : Pu Try.prog 13 [.s 0 0 0 l.length c 4, .v (.int .i64 most)] [rB l] (.t [.v (.int .i64 (boundR l most).1), .v (.int .i64 (boundR l most).2)]) := by
  refine pu_of_ex true [] mixed Try.call13 Try.func13 rfl Try.ntmps13 Try.results13 (by decide +kernel) rfl rfl rfl ?_
  simp only [push_cast, ↓branch_true, ↓branch_false, Nat.reduceBEq, Nat.reduceAdd, Nat.reduceMul, Nat.reduceSub, Int.reduceToNat, reduceCtorEq, branch_decide, branch_not, branch_beq, branch_bne]
  refine sp_call (given_pu l most c hs hl) rfl [0] rfl (by simp only [push_cast, ↓branch_true, ↓branch_false, Nat.reduceBEq, Nat.reduceAdd, Nat.reduceMul, Nat.reduceSub, Int.reduceToNat, reduceCtorEq, branch_decide, branch_not, branch_beq, branch_bne]) (by simp only [push_cast, ↓branch_true, ↓branch_false, Nat.reduceBEq, Nat.reduceAdd, Nat.reduceMul, Nat.reduceSub, Int.reduceToNat, reduceCtorEq, branch_decide, branch_not, branch_beq, branch_bne]) ?_
  simp only [push_cast, ↓branch_true, ↓branch_false, Nat.reduceBEq, Nat.reduceAdd, Nat.reduceMul, Nat.reduceSub, Int.reduceToNat, reduceCtorEq, branch_decide, branch_not, branch_beq, branch_bne]
  refine ⟨fun h => ?_, fun h => ?_⟩
  rotate_left
  · simp [boundR, h]
  obtain ⟨hv, hm1, hm2, hm3⟩ := errG_ok h
  have hlen := (vB_yes.1 hv).1
  refine tr_loop mixed (by kernel_rfl) (fun (k : Nat) => [(19, .v (.int .i64 k)), (18, .v (.int .i64 l.length)), (17, .s 0 0 0 l.length c 4), (7, .v (.int .i64 (sumT l k))), (8, .v (.int .i64 (cntT l most k))), (0, .s 0 0 0 l.length c 4), (1, .v (.int .i64 most))])
    (fun _ => [rB l]) (fun k => k ≤ l.length) (fun k => l.length - k) 0 (Nat.zero_le _) (Mt.wk (rl := [0]) ⟨by kernel_rfl, ?_, ?_⟩) ?_
  · simp only [push_cast, ↓branch_true, ↓branch_false, Nat.reduceBEq, Nat.reduceAdd, Nat.reduceMul, Nat.reduceSub, Int.reduceToNat, reduceCtorEq, branch_decide, branch_not, branch_beq, branch_bne]
    simp [sumT, cntT]
  · simp only [push_cast, ↓branch_true, ↓branch_false, Nat.reduceBEq, Nat.reduceAdd, Nat.reduceMul, Nat.reduceSub, Int.reduceToNat, reduceCtorEq, branch_decide, branch_not, branch_beq, branch_bne]
  rintro k h1
  simp only [push_cast, ↓branch_true, ↓branch_false, Nat.reduceBEq, Nat.reduceAdd, Nat.reduceMul, Nat.reduceSub, Int.reduceToNat, reduceCtorEq, branch_decide, branch_not, branch_beq, branch_bne]
  have hsr := sumT_range hv k h1
  have hcl := cntT_le l most k
  refine ⟨fun h4 => ?_, fun h4 => ?_⟩
  · repeat (with_reducible refine And.intro (by omega) ?_)
    have hk : k < l.length := by omega
    have hmk := okA_mass ((vB_yes.1 hv).2 k hk)
    have e1 := sumT_succ hk
    have e2 := cntT_succ (most := most) hk
    repeat (with_reducible refine And.intro (by omega) ?_)
    refine ⟨fun h5 => ?_, fun h5 => ?_⟩
    · repeat (with_reducible refine And.intro (by omega) ?_)
      rw [if_pos h5] at e2
      refine lpK_normal (k + 1) [0] (by omega) (by omega) (by kernel_rfl) ?_ ?_
      · simp only [push_cast, ↓branch_true, ↓branch_false, Nat.reduceBEq, Nat.reduceAdd, Nat.reduceMul, Nat.reduceSub, Int.reduceToNat, reduceCtorEq, branch_decide, branch_not, branch_beq, branch_bne, e1, e2]
      · simp only [push_cast, ↓branch_true, ↓branch_false, Nat.reduceBEq, Nat.reduceAdd, Nat.reduceMul, Nat.reduceSub, Int.reduceToNat, reduceCtorEq, branch_decide, branch_not, branch_beq, branch_bne]
    · repeat (with_reducible refine And.intro (by omega) ?_)
      rw [if_neg h5] at e2
      refine lpK_normal (k + 1) [0] (by omega) (by omega) (by kernel_rfl) ?_ ?_
      · simp only [push_cast, ↓branch_true, ↓branch_false, Nat.reduceBEq, Nat.reduceAdd, Nat.reduceMul, Nat.reduceSub, Int.reduceToNat, reduceCtorEq, branch_decide, branch_not, branch_beq, branch_bne, e1, e2]
      · simp only [push_cast, ↓branch_true, ↓branch_false, Nat.reduceBEq, Nat.reduceAdd, Nat.reduceMul, Nat.reduceSub, Int.reduceToNat, reduceCtorEq, branch_decide, branch_not, branch_beq, branch_bne]
  · have e : k = l.length := by omega
    subst e
    obtain ⟨q0, q1⟩ := quo_range (n := sumT l l.length + most - 1) (m := most) (by omega) hm1
    repeat (with_reducible refine And.intro (by omega) ?_)
    have : errG l most = 0 := h
    simp [boundR, this, boundF]
theorem rbound_pu (l : List Bun) (most : Int) (c : Nat) (hv : vB l = true) (hm1 : 1 ≤ most) (hm2 : most ≤ 1099511627776) : Pu Try.prog 15 [.s 0 0 0 l.length c 4, .v (.int .i64 most)] [rB l] (.v (.int .i64 (boundF l most))) := by
  have hlen := (vB_yes.1 hv).1
  refine pu_of_ex true [] mixed Try.call15 Try.func15 rfl Try.ntmps15 Try.results15 (by decide +kernel) rfl rfl rfl ?_
  simp only [push_cast, ↓branch_true, ↓branch_false, Nat.reduceBEq, Nat.reduceAdd, Nat.reduceMul, Nat.reduceSub, Int.reduceToNat, reduceCtorEq, branch_decide, branch_not, branch_beq, branch_bne]
  refine tr_loop0 mixed (by kernel_rfl) (fun (k : Nat) => [(7, .v (.int .i64 k)), (5, .v (.int .i64 (sumT l k))), (6, .v (.int .i64 (cntT l most k))), (0, .s 0 0 0 l.length c 4), (1, .v (.int .i64 most))])
    (fun k => k ≤ l.length) (fun k => l.length - k) 0 (Nat.zero_le _) ?_ ?_
  · simp only [push_cast, ↓branch_true, ↓branch_false, Nat.reduceBEq, Nat.reduceAdd, Nat.reduceMul, Nat.reduceSub, Int.reduceToNat, reduceCtorEq, branch_decide, branch_not, branch_beq, branch_bne]
    simp [sumT, cntT]
  rintro k h1
  simp only [push_cast, ↓branch_true, ↓branch_false, Nat.reduceBEq, Nat.reduceAdd, Nat.reduceMul, Nat.reduceSub, Int.reduceToNat, reduceCtorEq, branch_decide, branch_not, branch_beq, branch_bne]
  have hsr := sumT_range hv k h1
  have hcl := cntT_le l most k
  refine ⟨fun h4 => ?_, fun h4 => ?_⟩
  · repeat (with_reducible refine And.intro (by omega) ?_)
    have hk : k < l.length := by omega
    have hmk := okA_mass ((vB_yes.1 hv).2 k hk)
    have e1 := sumT_succ hk
    have e2 := cntT_succ (most := most) hk
    repeat (with_reducible refine And.intro (by omega) ?_)
    refine ⟨fun h5 => ?_, fun h5 => ?_⟩
    · repeat (with_reducible refine And.intro (by omega) ?_)
      rw [if_pos h5] at e2
      refine lp0_normal (k + 1) (by omega) (by omega) ?_
      simp only [push_cast, ↓branch_true, ↓branch_false, Nat.reduceBEq, Nat.reduceAdd, Nat.reduceMul, Nat.reduceSub, Int.reduceToNat, reduceCtorEq, branch_decide, branch_not, branch_beq, branch_bne, e1, e2]
    · repeat (with_reducible refine And.intro (by omega) ?_)
      rw [if_neg h5] at e2
      refine lp0_normal (k + 1) (by omega) (by omega) ?_
      simp only [push_cast, ↓branch_true, ↓branch_false, Nat.reduceBEq, Nat.reduceAdd, Nat.reduceMul, Nat.reduceSub, Int.reduceToNat, reduceCtorEq, branch_decide, branch_not, branch_beq, branch_bne, e1, e2]
  · have e : k = l.length := by omega
    subst e
    obtain ⟨q0, q1⟩ := quo_range (n := sumT l l.length + most - 1) (m := most) (by omega) hm1
    repeat (with_reducible refine And.intro (by omega) ?_)
    refine ⟨fun h5 => ?_, fun h5 => ?_⟩
    · have : min (l.length : Int) 1 = 1 := by omega
      simp only [boundF, this]
      congr 2
      omega
    · have : min (l.length : Int) 1 = 0 := by omega
      simp only [boundF, this]
      congr 2
      omega
end Go.Proofs.Ytdinkpefoljigaa
