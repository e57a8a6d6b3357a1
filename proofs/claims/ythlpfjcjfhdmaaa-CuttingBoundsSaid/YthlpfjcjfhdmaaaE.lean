/- Contracts: valid stock. -/
import Derived.Test.YthlpfjcjfhdmaaaC
set_option maxRecDepth 100000
set_option linter.unusedSimpArgs false
set_option linter.unusedVariables false
namespace Go.Proofs.Ythlpfjcjfhdmaaa
open Go.RowKit
def rSt (l : List Pc) : Ob := ⟨65, true, .row 2 1 (fun _ => l.length) (fun _ => 0) (fun _ k => cPc (ix l k))⟩
attribute [push_cast] rSt
def hasI (P : List Int) (n : Int) : Bool := P.contains n
theorem hasI_snoc (P : List Int) (i n : Int) : hasI (P ++ [i]) n = (n == i || hasI P n) := by
  unfold hasI
  rw [List.contains_append, Bool.or_comm, Bool.eq_iff_iff]
  simp
theorem hasI_iff {P : List Int} {n : Int} : hasI P n = true ↔ n ∈ P := by unfold hasI; simp
def lensL (l : List Pc) (k : Nat) : List Int := (l.take k).map Pc.len
theorem lensL_succ {l : List Pc} {k : Nat} (h : k < l.length) : lensL l (k + 1) = lensL l k ++ [(ix l k).len] := by
  unfold lensL
  rw [take_snoc h, List.map_append]; rfl
theorem lensL_len {l : List Pc} {k : Nat} (h : k ≤ l.length) : (lensL l k).length = k := by simp [lensL]; omega
theorem hasL_iff {l : List Pc} {k : Nat} (hk : k ≤ l.length) (x : Int) : hasI (lensL l k) x = true ↔ ∃ q, q < k ∧ (ix l q).len = x := by
  rw [hasI_iff]
  unfold lensL
  rw [List.mem_map]
  constructor
  · rintro ⟨b, hb, e⟩
    obtain ⟨j, hj, rfl⟩ := List.mem_iff_getElem.1 hb
    have hjk : j < k := by simp at hj; omega
    refine ⟨j, hjk, ?_⟩
    rw [List.getElem_take, ← ix_eq (by omega)] at e
    exact e
  · rintro ⟨q, hq, e⟩
    refine ⟨ix l q, ?_, e⟩
    rw [ix_eq (by omega)]
    exact List.mem_iff_getElem.2 ⟨q, by simp; omega, by simp⟩
def okS (l : List Pc) (k : Nat) : Bool := lenB (ix l k).len && (decide (-1 ≤ (ix l k).cnt) && (decide ((ix l k).cnt ≤ 1000000) && !hasI (lensL l k) (ix l k).len))
def stB (l : List Pc) : Bool := decide (l.length ≤ 10) && (List.range l.length).all (okS l)
theorem stB_yes {l : List Pc} : stB l = true ↔ l.length ≤ 10 ∧ ∀ k, k < l.length → okS l k = true := by simp [stB]
theorem stB_no {l : List Pc} {k : Nat} (hk : k < l.length) (h : okS l k = false) : stB l = false := by
  cases e : stB l with
  | false => rfl
  | true => rw [(stB_yes.1 e).2 k hk] at h; cases h
set_option maxHeartbeats 1000000 in
theorem validS_pu (l : List Pc) (c : Nat) (hl : l.length ≤ 9223372036854775807) : Pu Try.prog 46 [.s 0 0 0 l.length c 2] [rSt l] (.v (.bool (stB l))) := by
  refine pu_of_ex true [] mixed Try.call46 Try.func46 rfl Try.ntmps46 Try.results46 (by decide +kernel) rfl rfl rfl ?_
  simp only [push_cast, ↓branch_true, ↓branch_false, Nat.reduceBEq, Nat.reduceAdd, Nat.reduceMul, Nat.reduceSub, Int.reduceToNat, reduceCtorEq, branch_decide, branch_not, branch_beq, branch_bne]
  refine ⟨fun h => by simp [stB, show ¬ l.length ≤ 10 by omega], fun h => ?_⟩
  have hlen : l.length ≤ 10 := by omega
  refine tr_loop mixed (by kernel_rfl) (fun (k : Nat) => [(12, .v (.int .i64 k)), (11, .v (.int .i64 l.length)), (10, .s 0 0 0 l.length c 2), (3, .m 1), (0, .s 0 0 0 l.length c 2)])
    (fun k => [rSt l, ⟨104, false, .mp (.int .i64) (lensL l k).length (gI (hasI (lensL l k)))⟩]) (fun k => k ≤ l.length ∧ ∀ j, j < k → okS l j = true) (fun k => l.length - k) 0 ⟨Nat.zero_le _, fun j hj => by omega⟩ (Mt.wk (rl := [0, 1]) ⟨by kernel_rfl, ?_, ?_⟩) ?_
  · simp only [push_cast, ↓branch_true, ↓branch_false, Nat.reduceBEq, Nat.reduceAdd, Nat.reduceMul, Nat.reduceSub, Int.reduceToNat, reduceCtorEq, branch_decide, branch_not, branch_beq, branch_bne]
  · simp only [push_cast, ↓branch_true, ↓branch_false, Nat.reduceBEq, Nat.reduceAdd, Nat.reduceMul, Nat.reduceSub, Int.reduceToNat, reduceCtorEq, branch_decide, branch_not, branch_beq, branch_bne]
    exact ⟨rfl, gI_no (fun x => by simp [lensL, hasI]) _⟩
  rintro k ⟨h1, h2⟩
  simp only [push_cast, ↓branch_true, ↓branch_false, Nat.reduceBEq, Nat.reduceAdd, Nat.reduceMul, Nat.reduceSub, Int.reduceToNat, reduceCtorEq, branch_decide, branch_not, branch_beq, branch_bne]
  refine ⟨fun h3 => ?_, fun h3 => ?_⟩
  rotate_left
  · obtain rfl : k = l.length := by omega
    rw [stB_yes.2 ⟨hlen, h2⟩]
  have hk : k < l.length := by omega
  have no : okS l k = false → stB l = false := stB_no hk
  repeat (with_reducible refine And.intro (by omega) ?_)
  refine sp_call (length_pu (ix l k).len) rfl [] rfl (by simp only [push_cast, ↓branch_true, ↓branch_false, Nat.reduceBEq, Nat.reduceAdd, Nat.reduceMul, Nat.reduceSub, Int.reduceToNat, reduceCtorEq, branch_decide, branch_not, branch_beq, branch_bne]) (by simp only [push_cast, ↓branch_true, ↓branch_false, Nat.reduceBEq, Nat.reduceAdd, Nat.reduceMul, Nat.reduceSub, Int.reduceToNat, reduceCtorEq, branch_decide, branch_not, branch_beq, branch_bne]) ?_
  simp only [push_cast, ↓branch_true, ↓branch_false, Nat.reduceBEq, Nat.reduceAdd, Nat.reduceMul, Nat.reduceSub, Int.reduceToNat, reduceCtorEq, branch_decide, branch_not, branch_beq, branch_bne]
  cases hL : lenB (ix l k).len with
  | false =>
    simp only [push_cast, ↓branch_true, ↓branch_false, Nat.reduceBEq, Nat.reduceAdd, Nat.reduceMul, Nat.reduceSub, Int.reduceToNat, reduceCtorEq, branch_decide, branch_not, branch_beq, branch_bne]
    rw [no (by simp [okS, hL])]
  | true =>
  simp only [push_cast, ↓branch_true, ↓branch_false, Nat.reduceBEq, Nat.reduceAdd, Nat.reduceMul, Nat.reduceSub, Int.reduceToNat, reduceCtorEq, branch_decide, branch_not, branch_beq, branch_bne]
  refine ⟨fun h4 => by rw [no (by simp [okS, hL]; omega)], fun h4 => ⟨fun h5 => by rw [no (by simp [okS, hL]; omega)], fun h5 => ?_⟩⟩
  cases hh : hasI (lensL l k) (ix l k).len with
  | true =>
    simp only [push_cast, ↓branch_true, ↓branch_false, Nat.reduceBEq, Nat.reduceAdd, Nat.reduceMul, Nat.reduceSub, Int.reduceToNat, reduceCtorEq, branch_decide, branch_not, branch_beq, branch_bne]
    rw [no (by simp [okS, hL, hh])]
  | false =>
  simp only [push_cast, ↓branch_true, ↓branch_false, Nat.reduceBEq, Nat.reduceAdd, Nat.reduceMul, Nat.reduceSub, Int.reduceToNat, reduceCtorEq, branch_decide, branch_not, branch_beq, branch_bne]
  have hok : okS l k = true := by simp [okS, hL, hh]; omega
  have hle := lensL_len h1
  have hle2 := lensL_len (l := l) (k := k + 1) (by omega)
  repeat (with_reducible refine And.intro (by omega) ?_)
  refine lpK_normal (k + 1) [0, 1] ⟨by omega, fun j hj => ?_⟩ (by omega) (by kernel_rfl) ?_ ?_
  · by_cases e : j = k
    · rw [e]; exact hok
    · exact h2 j (by omega)
  · simp only [push_cast, ↓branch_true, ↓branch_false, Nat.reduceBEq, Nat.reduceAdd, Nat.reduceMul, Nat.reduceSub, Int.reduceToNat, reduceCtorEq, branch_decide, branch_not, branch_beq, branch_bne]
  · simp only [push_cast, ↓branch_true, ↓branch_false, Nat.reduceBEq, Nat.reduceAdd, Nat.reduceMul, Nat.reduceSub, Int.reduceToNat, reduceCtorEq, branch_decide, branch_not, branch_beq, branch_bne]
    refine ⟨by omega, gI_up fun x => ?_⟩
    rw [lensL_succ hk, hasI_snoc]
theorem rbetween_eq (n lo hi : Int) : Pu Try.prog 53 [.v (.int .i64 n), .v (.int .i64 lo), .v (.int .i64 hi)] [] (.v (.bool (decide (lo ≤ n) && decide (n ≤ hi)))) := between_pu n lo hi
set_option maxHeartbeats 1000000 in
theorem rvalidS_pu (l : List Pc) (c : Nat) (hl : l.length ≤ 9223372036854775807) : Pu Try.prog 14 [.s 0 0 0 l.length c 2] [rSt l] (.v (.bool (stB l))) := by
  refine pu_of_ex true [] mixed Try.call14 Try.func14 rfl Try.ntmps14 Try.results14 (by decide +kernel) rfl rfl rfl ?_
  simp only [push_cast, ↓branch_true, ↓branch_false, Nat.reduceBEq, Nat.reduceAdd, Nat.reduceMul, Nat.reduceSub, Int.reduceToNat, reduceCtorEq, branch_decide, branch_not, branch_beq, branch_bne]
  refine ⟨fun h => by simp [stB, show ¬ l.length ≤ 10 by omega], fun h => ?_⟩
  have hlen : l.length ≤ 10 := by omega
  refine tr_loop0 mixed (by kernel_rfl) (fun (k : Nat) => [(3, .v (.int .i64 k)), (0, .s 0 0 0 l.length c 2)]) (fun k => k ≤ l.length ∧ ∀ j, j < k → okS l j = true) (fun k => l.length - k) 0 ⟨Nat.zero_le _, fun j hj => by omega⟩ ?_ ?_
  · simp only [push_cast, ↓branch_true, ↓branch_false, Nat.reduceBEq, Nat.reduceAdd, Nat.reduceMul, Nat.reduceSub, Int.reduceToNat, reduceCtorEq, branch_decide, branch_not, branch_beq, branch_bne]
  rintro k ⟨h1, h2⟩
  simp only [push_cast, ↓branch_true, ↓branch_false, Nat.reduceBEq, Nat.reduceAdd, Nat.reduceMul, Nat.reduceSub, Int.reduceToNat, reduceCtorEq, branch_decide, branch_not, branch_beq, branch_bne]
  refine ⟨fun h3 => ?_, fun h3 => ?_⟩
  rotate_left
  · obtain rfl : k = l.length := by omega
    rw [stB_yes.2 ⟨hlen, h2⟩]
  have hk : k < l.length := by omega
  have no : okS l k = false → stB l = false := stB_no hk
  have hlb : (decide (1 ≤ (ix l k).len) && decide ((ix l k).len ≤ 1048576)) = lenB (ix l k).len := rfl
  repeat (with_reducible refine And.intro (by omega) ?_)
  refine sp_call (between_pu (ix l k).len 1 1048576) rfl [] rfl (by simp only [push_cast, ↓branch_true, ↓branch_false, Nat.reduceBEq, Nat.reduceAdd, Nat.reduceMul, Nat.reduceSub, Int.reduceToNat, reduceCtorEq, branch_decide, branch_not, branch_beq, branch_bne]) (by simp only [push_cast, ↓branch_true, ↓branch_false, Nat.reduceBEq, Nat.reduceAdd, Nat.reduceMul, Nat.reduceSub, Int.reduceToNat, reduceCtorEq, branch_decide, branch_not, branch_beq, branch_bne]) ?_
  simp only [push_cast, ↓branch_true, ↓branch_false, Nat.reduceBEq, Nat.reduceAdd, Nat.reduceMul, Nat.reduceSub, Int.reduceToNat, reduceCtorEq, branch_decide, branch_not, branch_beq, branch_bne]
  rw [hlb]
  cases hL : lenB (ix l k).len with
  | false =>
    simp only [push_cast, ↓branch_true, ↓branch_false, Nat.reduceBEq, Nat.reduceAdd, Nat.reduceMul, Nat.reduceSub, Int.reduceToNat, reduceCtorEq, branch_decide, branch_not, branch_beq, branch_bne]
    rw [no (by simp [okS, hL])]
  | true =>
  simp only [push_cast, ↓branch_true, ↓branch_false, Nat.reduceBEq, Nat.reduceAdd, Nat.reduceMul, Nat.reduceSub, Int.reduceToNat, reduceCtorEq, branch_decide, branch_not, branch_beq, branch_bne]
  repeat (with_reducible refine And.intro (by omega) ?_)
  refine sp_call (between_pu (ix l k).cnt (-1) 1000000) rfl [] rfl (by simp only [push_cast, ↓branch_true, ↓branch_false, Nat.reduceBEq, Nat.reduceAdd, Nat.reduceMul, Nat.reduceSub, Int.reduceToNat, reduceCtorEq, branch_decide, branch_not, branch_beq, branch_bne]) (by simp only [push_cast, ↓branch_true, ↓branch_false, Nat.reduceBEq, Nat.reduceAdd, Nat.reduceMul, Nat.reduceSub, Int.reduceToNat, reduceCtorEq, branch_decide, branch_not, branch_beq, branch_bne]) ?_
  simp only [push_cast, ↓branch_true, ↓branch_false, Nat.reduceBEq, Nat.reduceAdd, Nat.reduceMul, Nat.reduceSub, Int.reduceToNat, reduceCtorEq, branch_decide, branch_not, branch_beq, branch_bne]
  cases hC : (decide (-1 ≤ (ix l k).cnt) && decide ((ix l k).cnt ≤ 1000000)) with
  | false =>
    simp only [push_cast, ↓branch_true, ↓branch_false, Nat.reduceBEq, Nat.reduceAdd, Nat.reduceMul, Nat.reduceSub, Int.reduceToNat, reduceCtorEq, branch_decide, branch_not, branch_beq, branch_bne]
    rw [no (by unfold okS; rw [← Bool.and_assoc (decide (-1 ≤ (ix l k).cnt)), hC]; simp)]
  | true =>
  simp only [push_cast, ↓branch_true, ↓branch_false, Nat.reduceBEq, Nat.reduceAdd, Nat.reduceMul, Nat.reduceSub, Int.reduceToNat, reduceCtorEq, branch_decide, branch_not, branch_beq, branch_bne]
  refine tr_loop0 mixed (by kernel_rfl) (fun (j : Nat) => [(4, .v (.int .i64 j)), (3, .v (.int .i64 k)), (0, .s 0 0 0 l.length c 2)]) (fun j => j ≤ k ∧ ∀ q, q < j → (ix l q).len ≠ (ix l k).len) (fun j => k - j) 0 ⟨Nat.zero_le _, fun j hj => by omega⟩ ?_ ?_
  · simp only [push_cast, ↓branch_true, ↓branch_false, Nat.reduceBEq, Nat.reduceAdd, Nat.reduceMul, Nat.reduceSub, Int.reduceToNat, reduceCtorEq, branch_decide, branch_not, branch_beq, branch_bne]
  rintro j ⟨g1, g2⟩
  simp only [push_cast, ↓branch_true, ↓branch_false, Nat.reduceBEq, Nat.reduceAdd, Nat.reduceMul, Nat.reduceSub, Int.reduceToNat, reduceCtorEq, branch_decide, branch_not, branch_beq, branch_bne]
  refine ⟨fun h4 => ?_, fun h4 => ?_⟩
  · repeat (with_reducible refine And.intro (by omega) ?_)
    refine ⟨fun h5 => by rw [no (by simp [okS, hL, (hasL_iff h1 _).2 ⟨j, by omega, h5⟩])], fun h5 => ?_⟩
    repeat (with_reducible refine And.intro (by omega) ?_)
    refine lp0_normal (j + 1) ⟨by omega, fun q hq => ?_⟩ (by omega) ?_
    · by_cases e : q = j
      · rw [e]; exact h5
      · exact g2 q (by omega)
    · simp only [push_cast, ↓branch_true, ↓branch_false, Nat.reduceBEq, Nat.reduceAdd, Nat.reduceMul, Nat.reduceSub, Int.reduceToNat, reduceCtorEq, branch_decide, branch_not, branch_beq, branch_bne]
  · obtain rfl : j = k := by omega
    have hh : hasI (lensL l j) (ix l j).len = false := by
      cases e : hasI (lensL l j) (ix l j).len with
      | false => rfl
      | true =>
        obtain ⟨q, hq, e⟩ := (hasL_iff h1 _).1 e
        exact absurd e (g2 q hq)
    have hok : okS l j = true := by unfold okS; rw [← Bool.and_assoc (decide (-1 ≤ (ix l j).cnt)), hC, hL, hh]; rfl
    repeat (with_reducible refine And.intro (by omega) ?_)
    refine lp0_normal (j + 1) ⟨by omega, fun q hq => ?_⟩ (by omega) ?_
    · by_cases e : q = j
      · rw [e]; exact hok
      · exact h2 q (by omega)
    · simp only [push_cast, ↓branch_true, ↓branch_false, Nat.reduceBEq, Nat.reduceAdd, Nat.reduceMul, Nat.reduceSub, Int.reduceToNat, reduceCtorEq, branch_decide, branch_not, branch_beq, branch_bne]
end Go.Proofs.Ythlpfjcjfhdmaaa
