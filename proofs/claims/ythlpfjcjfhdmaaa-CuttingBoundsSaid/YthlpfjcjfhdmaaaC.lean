/- Contracts: List, Valid of stock. -/
import Derived.Test.YthlpfjcjfhdmaaaB
set_option maxRecDepth 100000
set_option linter.unusedSimpArgs false
set_option linter.unusedVariables false
namespace Go.Proofs.Ythlpfjcjfhdmaaa
open Go.RowKit
def cntT (l : List Pc) (k : Nat) : Int := ((l.take k).map Pc.cnt).sum
theorem cntT_succ {l : List Pc} {k : Nat} (hk : k < l.length) : cntT l (k + 1) = cntT l k + (ix l k).cnt := by
  unfold cntT
  rw [take_snoc hk, List.map_append, List.sum_append]
  simp
/-- How many pieces there are. -/
def cntL (l : List Pc) : Int := cntT l l.length
theorem cntT_range {l : List Pc} (ho : orderB l = true) : ∀ k, k ≤ l.length → (k : Int) ≤ cntT l k ∧ cntT l k ≤ 1000000 * k
  | 0, _ => by simp [cntT]
  | k + 1, h => by
    have := cntT_range ho k (by omega)
    have h2 := order_at ho (k := k) (by omega)
    rw [cntT_succ (by omega)]
    omega
theorem cntT_mono {l : List Pc} (ho : orderB l = true) {j : Nat} : ∀ k, j ≤ k → k ≤ l.length → cntT l j ≤ cntT l k
  | 0, h, _ => by rw [show j = 0 by omega]; exact Int.le_refl _
  | k + 1, h, hk => by
    by_cases e : j = k + 1
    · rw [e]; exact Int.le_refl _
    · have := cntT_mono (j := j) ho k (by omega) (by omega)
      have h2 := order_at ho (k := k) (by omega)
      rw [cntT_succ (by omega)]
      omega
theorem appF_c {n m : Nat} {f : Nat → Int} {x : Int} (k : Nat) : appF n m (fun k => [.v (.int .i64 (f k))]) (fun _ => [.v (.int .i64 x)]) k = [.v (.int .i64 (bif decide (k < n) then f k else x))] := by
  unfold appF
  split <;> (cases decide (k < n) <;> simp [mrgL, mrg1_eq])
def listE (l : List Pc) : Int := if orderB l = false then 1 else if 1000 < cntL l then 4 else 0
set_option maxHeartbeats 1000000 in
theorem list_sp (l : List Pc) (c : Nat) (hl : l.length ≤ 9223372036854775807) : Sp Try.prog 48 [.s 0 0 0 l.length c 2] [rPc l] (fun r H => ∃ (n cap : Nat) (f : Nat → Int), r = .t [.s 1 0 0 n cap 1, .v (.int .i64 (listE l))] ∧ H = [rPc l, rOwn 3 n cap f]) := by
  refine sp_weak ?_
  refine sp_of_ex true [] mixed Try.call48 Try.func48 rfl Try.ntmps48 Try.results48 (by decide +kernel) rfl ?_
  simp only [push_cast, ↓branch_true, ↓branch_false, Nat.reduceBEq, Nat.reduceAdd, Nat.reduceMul, Nat.reduceSub, Int.reduceToNat, reduceCtorEq, branch_decide, branch_not, branch_beq, branch_bne]
  refine sp_call (order_pu l c hl) rfl [0] rfl (by simp only [push_cast, ↓branch_true, ↓branch_false, Nat.reduceBEq, Nat.reduceAdd, Nat.reduceMul, Nat.reduceSub, Int.reduceToNat, reduceCtorEq, branch_decide, branch_not, branch_beq, branch_bne]) (by simp only [push_cast, ↓branch_true, ↓branch_false, Nat.reduceBEq, Nat.reduceAdd, Nat.reduceMul, Nat.reduceSub, Int.reduceToNat, reduceCtorEq, branch_decide, branch_not, branch_beq, branch_bne]) ?_
  simp only [push_cast, ↓branch_true, ↓branch_false, Nat.reduceBEq, Nat.reduceAdd, Nat.reduceMul, Nat.reduceSub, Int.reduceToNat, reduceCtorEq, branch_decide, branch_not, branch_beq, branch_bne]
  cases ho : orderB l with
  | false =>
    have e : listE l = 1 := if_pos ho
    simp only [push_cast, ↓branch_true, ↓branch_false, Nat.reduceBEq, Nat.reduceAdd, Nat.reduceMul, Nat.reduceSub, Int.reduceToNat, reduceCtorEq, branch_decide, branch_not, branch_beq, branch_bne]
    rw [e]
    refine ⟨_, _, [0, 1], ?_, by kernel_rfl, ?_, 0, 0, fun _ => 0, rfl, rfl⟩
    · simp only [push_cast, ↓branch_true, ↓branch_false, Nat.reduceBEq, Nat.reduceAdd, Nat.reduceMul, Nat.reduceSub, Int.reduceToNat, reduceCtorEq, branch_decide, branch_not, branch_beq, branch_bne]
    · simp only [push_cast, ↓branch_true, ↓branch_false, Nat.reduceBEq, Nat.reduceAdd, Nat.reduceMul, Nat.reduceSub, Int.reduceToNat, reduceCtorEq, branch_decide, branch_not, branch_beq, branch_bne]
  | true =>
  have hlen := order_len ho
  simp only [push_cast, ↓branch_true, ↓branch_false, Nat.reduceBEq, Nat.reduceAdd, Nat.reduceMul, Nat.reduceSub, Int.reduceToNat, reduceCtorEq, branch_decide, branch_not, branch_beq, branch_bne]
  refine tr_loop mixed (by kernel_rfl) (fun (k : Nat) => [(15, .v (.int .i64 k)), (14, .v (.int .i64 l.length)), (13, .s 0 0 0 l.length c 2), (4, .v (.int .i64 (cntT l k))), (0, .s 0 0 0 l.length c 2)])
    (fun _ => [rPc l]) (fun k => k ≤ l.length) (fun k => l.length - k) 0 (Nat.zero_le _) (Mt.wk (rl := [0]) ⟨by kernel_rfl, ?_, ?_⟩) ?_
  · simp only [push_cast, ↓branch_true, ↓branch_false, Nat.reduceBEq, Nat.reduceAdd, Nat.reduceMul, Nat.reduceSub, Int.reduceToNat, reduceCtorEq, branch_decide, branch_not, branch_beq, branch_bne]
    rfl
  · simp only [push_cast, ↓branch_true, ↓branch_false, Nat.reduceBEq, Nat.reduceAdd, Nat.reduceMul, Nat.reduceSub, Int.reduceToNat, reduceCtorEq, branch_decide, branch_not, branch_beq, branch_bne]
  intro k hk
  have hr := cntT_range ho k hk
  simp only [push_cast, ↓branch_true, ↓branch_false, Nat.reduceBEq, Nat.reduceAdd, Nat.reduceMul, Nat.reduceSub, Int.reduceToNat, reduceCtorEq, branch_decide, branch_not, branch_beq, branch_bne]
  refine ⟨fun h => ?_, fun h => ?_⟩
  · have h2 := order_at ho (k := k) (by omega)
    have e1 := cntT_succ (l := l) (k := k) (by omega)
    repeat (with_reducible refine And.intro (by omega) ?_)
    refine lpK_normal (k + 1) [0] (by omega) (by omega) (by kernel_rfl) ?_ ?_
    · simp only [push_cast, ↓branch_true, ↓branch_false, Nat.reduceBEq, Nat.reduceAdd, Nat.reduceMul, Nat.reduceSub, Int.reduceToNat, reduceCtorEq, branch_decide, branch_not, branch_beq, branch_bne, e1]
    · simp only [push_cast, ↓branch_true, ↓branch_false, Nat.reduceBEq, Nat.reduceAdd, Nat.reduceMul, Nat.reduceSub, Int.reduceToNat, reduceCtorEq, branch_decide, branch_not, branch_beq, branch_bne]
  · obtain rfl : k = l.length := by omega
    refine ⟨fun h3 => ?_, fun h3 => ?_⟩
    · have e : listE l = 4 := by rw [listE, if_neg (by simp [ho]), if_pos (show 1000 < cntL l from h3)]
      rw [e]
      refine ⟨_, _, [0, 1], ?_, by kernel_rfl, ?_, 0, 0, fun _ => 0, rfl, rfl⟩
      · simp only [push_cast, ↓branch_true, ↓branch_false, Nat.reduceBEq, Nat.reduceAdd, Nat.reduceMul, Nat.reduceSub, Int.reduceToNat, reduceCtorEq, branch_decide, branch_not, branch_beq, branch_bne]
      · simp only [push_cast, ↓branch_true, ↓branch_false, Nat.reduceBEq, Nat.reduceAdd, Nat.reduceMul, Nat.reduceSub, Int.reduceToNat, reduceCtorEq, branch_decide, branch_not, branch_beq, branch_bne]
    have e : listE l = 0 := by rw [listE, if_neg (by simp [ho]), if_neg (show ¬ 1000 < cntL l from h3)]
    rw [e]
    refine tr_loop mixed (by kernel_rfl) (fun (x : Nat × Nat × Nat × (Nat → Int)) => [(28, .v (.int .i64 x.1)), (27, .v (.int .i64 l.length)), (26, .s 0 0 0 l.length c 2), (7, .s 1 0 0 x.2.1 x.2.2.1 1), (0, .s 0 0 0 l.length c 2)])
      (fun x => [rPc l, rOwn 3 x.2.1 x.2.2.1 x.2.2.2]) (fun x => x.1 ≤ l.length ∧ (x.2.1 : Int) = cntT l x.1 ∧ x.2.1 ≤ x.2.2.1) (fun x => l.length - x.1) (0, 0, 0, fun _ => 0) ⟨Nat.zero_le _, rfl, Nat.le_refl _⟩ (Mt.wk (rl := [0, 1]) ⟨by kernel_rfl, ?_, ?_⟩) ?_
    · simp only [push_cast, ↓branch_true, ↓branch_false, Nat.reduceBEq, Nat.reduceAdd, Nat.reduceMul, Nat.reduceSub, Int.reduceToNat, reduceCtorEq, branch_decide, branch_not, branch_beq, branch_bne]
    · simp only [push_cast, ↓branch_true, ↓branch_false, Nat.reduceBEq, Nat.reduceAdd, Nat.reduceMul, Nat.reduceSub, Int.reduceToNat, reduceCtorEq, branch_decide, branch_not, branch_beq, branch_bne]
    rintro ⟨k, m, cap, f⟩ ⟨g1, g2, g3⟩
    simp only at g1 g2 g3
    simp only [push_cast, ↓branch_true, ↓branch_false, Nat.reduceBEq, Nat.reduceAdd, Nat.reduceMul, Nat.reduceSub, Int.reduceToNat, reduceCtorEq, branch_decide, branch_not, branch_beq, branch_bne]
    refine ⟨fun h4 => ?_, fun h4 => ?_⟩
    · have h2 := order_at ho (k := k) (by omega)
      have e1 := cntT_succ (l := l) (k := k) (by omega)
      have e2 := cntT_mono ho (j := k + 1) l.length (by omega) (Nat.le_refl _)
      unfold cntL at h3
      obtain ⟨n, hn⟩ : ∃ n : Nat, (ix l k).cnt = n := ⟨(ix l k).cnt.toNat, by omega⟩
      rw [hn]
      repeat (with_reducible refine And.intro (by omega) ?_)
      refine sp_at (repeat_sp (ix l k).len n 1 (by omega) (by omega)) [3] rfl ?_ ?_ ?_
      · simp only [push_cast, ↓branch_true, ↓branch_false, Nat.reduceBEq, Nat.reduceAdd, Nat.reduceMul, Nat.reduceSub, Int.reduceToNat, reduceCtorEq, branch_decide, branch_not, branch_beq, branch_bne]
      · simp only [push_cast, ↓branch_true, ↓branch_false, Nat.reduceBEq, Nat.reduceAdd, Nat.reduceMul, Nat.reduceSub, Int.reduceToNat, reduceCtorEq, branch_decide, branch_not, branch_beq, branch_bne]
        intro i hi q hq
        obtain rfl : q = 0 := by omega
        simp only [push_cast, ↓branch_true, ↓branch_false, Nat.reduceBEq, Nat.reduceAdd, Nat.reduceMul, Nat.reduceSub, Int.reduceToNat, reduceCtorEq, branch_decide, branch_not, branch_beq, branch_bne]
      rintro _ _ ⟨cap2, hcap2, rfl, rfl⟩
      simp only [push_cast, ↓branch_true, ↓branch_false, Nat.reduceBEq, Nat.reduceAdd, Nat.reduceMul, Nat.reduceSub, Int.reduceToNat, reduceCtorEq, branch_decide, branch_not, branch_beq, branch_bne]
      refine ⟨by omega, src_ints _ _, appZ_of (fun h => by omega) fun _ => .inr ?_⟩
      repeat (with_reducible refine And.intro (by omega) ?_)
      intro cap3 hcap3
      repeat (with_reducible refine And.intro (by omega) ?_)
      refine lpK_normal (k + 1, m + n, cap3, fun q => bif decide (q < m) then f q else (ix l k).len) [0, 5] ⟨by simp only; omega, by simp only; omega, hcap3⟩ (by simp only; omega) (by kernel_rfl) ?_ ?_
      · simp only [push_cast, ↓branch_true, ↓branch_false, Nat.reduceBEq, Nat.reduceAdd, Nat.reduceMul, Nat.reduceSub, Int.reduceToNat, reduceCtorEq, branch_decide, branch_not, branch_beq, branch_bne]
      · simp only [push_cast, ↓branch_true, ↓branch_false, Nat.reduceBEq, Nat.reduceAdd, Nat.reduceMul, Nat.reduceSub, Int.reduceToNat, reduceCtorEq, branch_decide, branch_not, branch_beq, branch_bne]
        intro i hi q hq
        rw [appF_c]
        simp only [push_cast, ↓branch_true, ↓branch_false, Nat.reduceBEq, Nat.reduceAdd, Nat.reduceMul, Nat.reduceSub, Int.reduceToNat, reduceCtorEq, branch_decide, branch_not, branch_beq, branch_bne]
    · refine ⟨_, _, [0, 1], ?_, by kernel_rfl, ?_, m, cap, f, rfl, rfl⟩
      · simp only [push_cast, ↓branch_true, ↓branch_false, Nat.reduceBEq, Nat.reduceAdd, Nat.reduceMul, Nat.reduceSub, Int.reduceToNat, reduceCtorEq, branch_decide, branch_not, branch_beq, branch_bne]
      · simp only [push_cast, ↓branch_true, ↓branch_false, Nat.reduceBEq, Nat.reduceAdd, Nat.reduceMul, Nat.reduceSub, Int.reduceToNat, reduceCtorEq, branch_decide, branch_not, branch_beq, branch_bne]
end Go.Proofs.Ythlpfjcjfhdmaaa
