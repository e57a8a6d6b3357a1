/- Contracts: orders. -/
import Derived.Test.YtgbldceimdjblaaB
set_option maxRecDepth 100000
set_option linter.unusedSimpArgs false
set_option linter.unusedVariables false
namespace Go.Proofs.Ytgbldceimdjblaa
open Go.RowKit
theorem indexV_pu (l : List Int) (v : Int) (c : Nat) (hl : l.length ≤ 9223372036854775806) : Pu Try.prog 55 [.s 0 0 0 l.length c 1, .v (.int .i64 v)] [rInt 3 l] (.v (.int .i64 (idxB (fun y => decide (v = y)) l 0))) := by
  refine pu_of_ex true [] mixed Try.call55 Try.func55 rfl Try.ntmps55 Try.results55 (by decide +kernel) rfl rfl rfl ?_
  simp only [push_cast, ↓branch_true, ↓branch_false, Nat.reduceBEq, Nat.reduceAdd, Nat.reduceMul, Nat.reduceSub, Int.reduceToNat, reduceCtorEq, branch_decide, branch_not, branch_beq, branch_bne]
  refine tr_loop0 mixed (by kernel_rfl) (fun (k : Nat) => [(8, .v (.int .i64 k)), (7, .v (.int .i64 l.length)), (0, .s 0 0 0 l.length c 1), (1, .v (.int .i64 v))]) (fun k => k ≤ l.length ∧ ∀ j, j < k → decide (v = ix l j) = false) (fun k => l.length - k) 0 ⟨Nat.zero_le _, fun j h => by omega⟩ ?_ ?_
  · simp only [push_cast, ↓branch_true, ↓branch_false, Nat.reduceBEq, Nat.reduceAdd, Nat.reduceMul, Nat.reduceSub, Int.reduceToNat, reduceCtorEq, branch_decide, branch_not, branch_beq, branch_bne]
  rintro k ⟨hk, hn⟩
  simp only [push_cast, ↓branch_true, ↓branch_false, Nat.reduceBEq, Nat.reduceAdd, Nat.reduceMul, Nat.reduceSub, Int.reduceToNat, reduceCtorEq, branch_decide, branch_not, branch_beq, branch_bne]
  refine ⟨fun h => ?_, fun h => ?_⟩
  · repeat (with_reducible refine And.intro (by omega) ?_)
    refine ⟨fun h2 => ?_, fun h2 => ?_⟩
    · rw [idxB_at _ l 0 k (by omega) hn (by simp [h2])]; simp
    · repeat (with_reducible refine And.intro (by omega) ?_)
      refine lp0_normal (k + 1) ⟨by omega, fun j hj => ?_⟩ (by omega) ?_
      · by_cases e : j = k
        · subst e; simp [h2]
        · exact hn j (by omega)
      · simp only [push_cast, ↓branch_true, ↓branch_false, Nat.reduceBEq, Nat.reduceAdd, Nat.reduceMul, Nat.reduceSub, Int.reduceToNat, reduceCtorEq, branch_decide, branch_not, branch_beq, branch_bne]
  · obtain rfl : k = l.length := by omega
    rw [idxB_none _ l 0 fun j hj => hn j (by omega)]
theorem containsV_pu (l : List Int) (v : Int) (c : Nat) (hl : l.length ≤ 9223372036854775806) : Pu Try.prog 33 [.s 0 0 0 l.length c 1, .v (.int .i64 v)] [rInt 3 l] (.v (.bool (l.any fun y => decide (v = y)))) := by
  refine pu_of_ex true [] mixed Try.call33 Try.func33 rfl Try.ntmps33 Try.results33 (by decide +kernel) rfl rfl rfl ?_
  simp only [push_cast, ↓branch_true, ↓branch_false, Nat.reduceBEq, Nat.reduceAdd, Nat.reduceMul, Nat.reduceSub, Int.reduceToNat, reduceCtorEq, branch_decide, branch_not, branch_beq, branch_bne]
  refine sp_call (indexV_pu l v c hl) rfl [0] rfl (by simp only [push_cast, ↓branch_true, ↓branch_false, Nat.reduceBEq, Nat.reduceAdd, Nat.reduceMul, Nat.reduceSub, Int.reduceToNat, reduceCtorEq, branch_decide, branch_not, branch_beq, branch_bne]) (by simp only [push_cast, ↓branch_true, ↓branch_false, Nat.reduceBEq, Nat.reduceAdd, Nat.reduceMul, Nat.reduceSub, Int.reduceToNat, reduceCtorEq, branch_decide, branch_not, branch_beq, branch_bne]) ?_
  simp only [push_cast, ↓branch_true, ↓branch_false, Nat.reduceBEq, Nat.reduceAdd, Nat.reduceMul, Nat.reduceSub, Int.reduceToNat, reduceCtorEq, branch_decide, branch_not, branch_beq, branch_bne]
  rw [idxB_any _ l 0 (Int.le_refl 0)]
def scanE (f : Nat → Int) : Nat → Nat → Int
  | _, 0 => 0
  | i, d + 1 => if f i ≠ 0 then f i else scanE f (i + 1) d
theorem scan_at {f : Nat → Int} : ∀ (d i k : Nat), i ≤ k → k < i + d → (∀ j, i ≤ j → j < k → f j = 0) → f k ≠ 0 → scanE f i d = f k
  | 0, i, k, h1, h2, _, _ => by omega
  | d + 1, i, k, h1, h2, h3, h4 => by
    rw [scanE]
    by_cases e : i = k
    · subst e; rw [if_pos h4]
    · rw [if_neg (by simp [h3 i (Nat.le_refl _) (by omega)])]
      exact scan_at d (i + 1) k (by omega) (by omega) (fun j hj => h3 j (by omega)) h4
theorem scan_none {f : Nat → Int} : ∀ (d i : Nat), (∀ j, i ≤ j → j < i + d → f j = 0) → scanE f i d = 0
  | 0, _, _ => rfl
  | d + 1, i, h => by
    rw [scanE, if_neg (by simp [h i (Nat.le_refl _) (by omega)])]
    exact scan_none d (i + 1) fun j hj hj2 => h j (by omega) (by omega)
theorem scan_zero {f : Nat → Int} : ∀ (d i : Nat), scanE f i d = 0 → ∀ j, i ≤ j → j < i + d → f j = 0
  | 0, _, _, j, h1, h2 => by omega
  | d + 1, i, h, j, h1, h2 => by
    rw [scanE] at h
    by_cases c : f i = 0
    · rw [if_neg (by simp [c])] at h
      by_cases e : j = i
      · subst e; exact c
      · exact scan_zero d (i + 1) h j (by omega) (by omega)
    · rw [if_pos c] at h; exact absurd h c
def badO (n : Int) (o : List Int) (i : Nat) : Int := if ix o i < 0 ∨ n ≤ ix o i then 2 else if (o.take i).any (fun y => decide (ix o i = y)) = true then 10 else 0
/-- What is wrong with an order. -/
def ordE (n : Int) (o : List Int) : Int := if (o.length : Int) = n then scanE (badO n o) 0 o.length else 3
theorem ordered_pu (n : Int) (o : List Int) (c : Nat) (hoc : o.length ≤ c) (hl : o.length ≤ 9223372036854775806) : Pu Try.prog 53 [.v (.int .i64 n), .s 0 0 0 o.length c 1] [rInt 3 o] (.v (.int .i64 (ordE n o))) := by
  refine pu_of_ex true [] mixed Try.call53 Try.func53 rfl Try.ntmps53 Try.results53 (by decide +kernel) rfl rfl rfl ?_
  simp only [push_cast, ↓branch_true, ↓branch_false, Nat.reduceBEq, Nat.reduceAdd, Nat.reduceMul, Nat.reduceSub, Int.reduceToNat, reduceCtorEq, branch_decide, branch_not, branch_beq, branch_bne]
  refine ⟨fun hn => ?_, fun hn => by simp [ordE, hn]⟩
  have he : ordE n o = scanE (badO n o) 0 o.length := by rw [ordE, if_pos hn]
  rw [he]
  refine tr_loop0 mixed (by kernel_rfl) (fun (k : Nat) => [(13, .v (.int .i64 k)), (12, .v (.int .i64 o.length)), (11, .s 0 0 0 o.length c 1), (0, .v (.int .i64 n)), (1, .s 0 0 0 o.length c 1)]) (fun k => k ≤ o.length ∧ ∀ j, j < k → badO n o j = 0) (fun k => o.length - k) 0 ⟨Nat.zero_le _, fun j h => by omega⟩ ?_ ?_
  · simp only [push_cast, ↓branch_true, ↓branch_false, Nat.reduceBEq, Nat.reduceAdd, Nat.reduceMul, Nat.reduceSub, Int.reduceToNat, reduceCtorEq, branch_decide, branch_not, branch_beq, branch_bne]
  rintro k ⟨r1, r2⟩
  have at_ : k < o.length → badO n o k ≠ 0 → scanE (badO n o) 0 o.length = badO n o k := fun h1 h2 => scan_at _ _ k (Nat.zero_le _) (by omega) (fun j _ hj => r2 j hj) h2
  simp only [push_cast, ↓branch_true, ↓branch_false, Nat.reduceBEq, Nat.reduceAdd, Nat.reduceMul, Nat.reduceSub, Int.reduceToNat, reduceCtorEq, branch_decide, branch_not, branch_beq, branch_bne]
  refine ⟨fun h => ?_, fun h => ?_⟩
  · have hk : k < o.length := by omega
    repeat (with_reducible refine And.intro (by omega) ?_)
    refine ⟨fun h1 => ?_, fun h1 => ⟨fun h2 => ?_, fun h2 => ?_⟩⟩
    · have hb : badO n o k = 2 := by unfold badO; rw [if_pos (.inl h1)]
      rw [at_ hk (by omega), hb]
    · have hb : badO n o k = 2 := by unfold badO; rw [if_pos (.inr h2)]
      rw [at_ hk (by omega), hb]
    · repeat (with_reducible refine And.intro (by omega) ?_)
      have hlt : (o.take k).length = k := by simp; omega
      have hc := containsV_pu (o.take k) (ix o k) (c - 0) (by omega)
      rw [hlt] at hc
      refine sp_call hc rfl [0] rfl ?_ ?_ ?_
      · simp only [push_cast, ↓branch_true, ↓branch_false, Nat.reduceBEq, Nat.reduceAdd, Nat.reduceMul, Nat.reduceSub, Int.reduceToNat, reduceCtorEq, branch_decide, branch_not, branch_beq, branch_bne]
        exact (Nat.sub_zero k).symm
      · simp only [push_cast, ↓branch_true, ↓branch_false, Nat.reduceBEq, Nat.reduceAdd, Nat.reduceMul, Nat.reduceSub, Int.reduceToNat, reduceCtorEq, branch_decide, branch_not, branch_beq, branch_bne]
        refine fun i hi => ⟨by omega, fun j hj => ?_⟩
        rw [ix_take (by omega) (Nat.le_of_lt hk)]
      simp only [push_cast, ↓branch_true, ↓branch_false, Nat.reduceBEq, Nat.reduceAdd, Nat.reduceMul, Nat.reduceSub, Int.reduceToNat, reduceCtorEq, branch_decide, branch_not, branch_beq, branch_bne]
      simp only [branch]
      refine ⟨fun ha => ?_, fun ha => ?_⟩
      · have hb : badO n o k = 10 := by unfold badO; rw [if_neg (by omega), if_pos ha]
        rw [at_ hk (by omega), hb]
      · repeat (with_reducible refine And.intro (by omega) ?_)
        refine lp0_normal (k + 1) ⟨by omega, fun j hj => ?_⟩ (by omega) ?_
        · by_cases e : j = k
          · subst e; unfold badO; rw [if_neg (by omega), if_neg (by simp [ha])]
          · exact r2 j (by omega)
        · simp only [push_cast, ↓branch_true, ↓branch_false, Nat.reduceBEq, Nat.reduceAdd, Nat.reduceMul, Nat.reduceSub, Int.reduceToNat, reduceCtorEq, branch_decide, branch_not, branch_beq, branch_bne]
  · obtain rfl : k = o.length := by omega
    rw [scan_none _ _ fun j _ hj => r2 j (by omega)]
theorem anyV_take {o : List Int} {i : Nat} {v : Int} (hi : i ≤ o.length) : ((o.take i).any fun y => decide (v = y)) = true ↔ ∃ j, j < i ∧ ix o j = v := by
  rw [List.any_eq_true]
  constructor
  · rintro ⟨y, hy, h⟩
    obtain ⟨j, hj, rfl⟩ := List.getElem_of_mem hy
    have hj' : j < i := by simp at hj; omega
    refine ⟨j, hj', ?_⟩
    rw [← ix_take hj' hi, ix_eq hj]
    exact (of_decide_eq_true h).symm
  · rintro ⟨j, hj, h⟩
    have hj' : j < (o.take i).length := by simp; omega
    exact ⟨ix (o.take i) j, ix_mem hj', by rw [ix_take hj hi]; exact decide_eq_true h.symm⟩
theorem rorder_pu (n : Int) (o : List Int) (c : Nat) (hl : o.length ≤ 9223372036854775806) : Pu Try.prog 22 [.v (.int .i64 n), .s 0 0 0 o.length c 1] [rInt 3 o] (.v (.int .i64 (ordE n o))) := by
  refine pu_of_ex true [] mixed Try.call22 Try.func22 rfl Try.ntmps22 Try.results22 (by decide +kernel) rfl rfl rfl ?_
  simp only [push_cast, ↓branch_true, ↓branch_false, Nat.reduceBEq, Nat.reduceAdd, Nat.reduceMul, Nat.reduceSub, Int.reduceToNat, reduceCtorEq, branch_decide, branch_not, branch_beq, branch_bne]
  refine ⟨fun hn => ?_, fun hn => by simp [ordE, hn]⟩
  have he : ordE n o = scanE (badO n o) 0 o.length := by rw [ordE, if_pos hn]
  rw [he]
  refine tr_loop0 mixed (by kernel_rfl) (fun (k : Nat) => [(5, .v (.int .i64 k)), (0, .v (.int .i64 n)), (1, .s 0 0 0 o.length c 1)]) (fun k => k ≤ o.length ∧ ∀ j, j < k → badO n o j = 0) (fun k => o.length - k) 0 ⟨Nat.zero_le _, fun j h => by omega⟩ ?_ ?_
  · simp only [push_cast, ↓branch_true, ↓branch_false, Nat.reduceBEq, Nat.reduceAdd, Nat.reduceMul, Nat.reduceSub, Int.reduceToNat, reduceCtorEq, branch_decide, branch_not, branch_beq, branch_bne]
  rintro k ⟨r1, r2⟩
  have at_ : k < o.length → badO n o k ≠ 0 → scanE (badO n o) 0 o.length = badO n o k := fun h1 h2 => scan_at _ _ k (Nat.zero_le _) (by omega) (fun j _ hj => r2 j hj) h2
  simp only [push_cast, ↓branch_true, ↓branch_false, Nat.reduceBEq, Nat.reduceAdd, Nat.reduceMul, Nat.reduceSub, Int.reduceToNat, reduceCtorEq, branch_decide, branch_not, branch_beq, branch_bne]
  refine ⟨fun h => ?_, fun h => ?_⟩
  · have hk : k < o.length := by omega
    repeat (with_reducible refine And.intro (by omega) ?_)
    refine ⟨fun h1 => ?_, fun h1 => ?_⟩
    · have hb : badO n o k = 2 := by unfold badO; rw [if_pos (.inl h1)]
      rw [at_ hk (by omega), hb]
    repeat (with_reducible refine And.intro (by omega) ?_)
    refine ⟨fun h2 => ?_, fun h2 => ?_⟩
    · have hb : badO n o k = 2 := by unfold badO; rw [if_pos (.inr h2)]
      rw [at_ hk (by omega), hb]
    refine tr_loop0 mixed (by kernel_rfl) (fun (j : Nat) => [(6, .v (.int .i64 j)), (5, .v (.int .i64 k)), (0, .v (.int .i64 n)), (1, .s 0 0 0 o.length c 1)]) (fun j => j ≤ k ∧ ∀ i, i < j → ix o i ≠ ix o k) (fun j => k - j) 0 ⟨Nat.zero_le _, fun j h => by omega⟩ ?_ ?_
    · simp only [push_cast, ↓branch_true, ↓branch_false, Nat.reduceBEq, Nat.reduceAdd, Nat.reduceMul, Nat.reduceSub, Int.reduceToNat, reduceCtorEq, branch_decide, branch_not, branch_beq, branch_bne]
    rintro j ⟨s1, s2⟩
    simp only [push_cast, ↓branch_true, ↓branch_false, Nat.reduceBEq, Nat.reduceAdd, Nat.reduceMul, Nat.reduceSub, Int.reduceToNat, reduceCtorEq, branch_decide, branch_not, branch_beq, branch_bne]
    refine ⟨fun h3 => ?_, fun h3 => ?_⟩
    · repeat (with_reducible refine And.intro (by omega) ?_)
      refine ⟨fun h4 => ?_, fun h4 => ?_⟩
      · have hb : badO n o k = 10 := by unfold badO; rw [if_neg (by omega), if_pos ((anyV_take (Nat.le_of_lt hk)).2 ⟨j, by omega, h4⟩)]
        rw [at_ hk (by omega), hb]
      · repeat (with_reducible refine And.intro (by omega) ?_)
        refine lp0_normal (j + 1) ⟨by omega, fun i hi => ?_⟩ (by omega) ?_
        · by_cases e : i = j
          · subst e; exact h4
          · exact s2 i (by omega)
        · simp only [push_cast, ↓branch_true, ↓branch_false, Nat.reduceBEq, Nat.reduceAdd, Nat.reduceMul, Nat.reduceSub, Int.reduceToNat, reduceCtorEq, branch_decide, branch_not, branch_beq, branch_bne]
    · repeat (with_reducible refine And.intro (by omega) ?_)
      refine lp0_normal (k + 1) ⟨by omega, fun i hi => ?_⟩ (by omega) ?_
      · by_cases e : i = k
        · subst e
          unfold badO
          rw [if_neg (by omega), if_neg]
          intro ha
          obtain ⟨m, hm, h5⟩ := (anyV_take (Nat.le_of_lt hk)).1 ha
          exact s2 m (by omega) h5
        · exact r2 i (by omega)
      · simp only [push_cast, ↓branch_true, ↓branch_false, Nat.reduceBEq, Nat.reduceAdd, Nat.reduceMul, Nat.reduceSub, Int.reduceToNat, reduceCtorEq, branch_decide, branch_not, branch_beq, branch_bne]
  · obtain rfl : k = o.length := by omega
    rw [scan_none _ _ fun j _ hj => r2 j (by omega)]
def givenE (l : List Jb) (o : List Int) : Int := if validB l = true then ordE l.length o else 1
theorem given_pu (l : List Jb) (o : List Int) (c co : Nat) (hlc : l.length ≤ c) (hoc : o.length ≤ co) (hl : l.length ≤ 9223372036854775807) (ho : o.length ≤ 9223372036854775806) : Pu Try.prog 46 [.s 0 0 0 l.length c 3, .s 1 0 0 o.length co 1] [rJb l, rInt 3 o] (.v (.int .i64 (givenE l o))) := by
  refine pu_of_ex true [] mixed Try.call46 Try.func46 rfl Try.ntmps46 Try.results46 (by decide +kernel) rfl rfl rfl ?_
  simp only [push_cast, ↓branch_true, ↓branch_false, Nat.reduceBEq, Nat.reduceAdd, Nat.reduceMul, Nat.reduceSub, Int.reduceToNat, reduceCtorEq, branch_decide, branch_not, branch_beq, branch_bne]
  refine sp_call (valid_pu l c hlc hl) rfl [0] rfl (by simp only [push_cast, ↓branch_true, ↓branch_false, Nat.reduceBEq, Nat.reduceAdd, Nat.reduceMul, Nat.reduceSub, Int.reduceToNat, reduceCtorEq, branch_decide, branch_not, branch_beq, branch_bne]) (by simp only [push_cast, ↓branch_true, ↓branch_false, Nat.reduceBEq, Nat.reduceAdd, Nat.reduceMul, Nat.reduceSub, Int.reduceToNat, reduceCtorEq, branch_decide, branch_not, branch_beq, branch_bne]) ?_
  simp only [push_cast, ↓branch_true, ↓branch_false, Nat.reduceBEq, Nat.reduceAdd, Nat.reduceMul, Nat.reduceSub, Int.reduceToNat, reduceCtorEq, branch_decide, branch_not, branch_beq, branch_bne]
  simp only [branch]
  refine ⟨fun h => ?_, fun h => by simp [givenE, h]⟩
  refine sp_call (ordered_pu l.length o co hoc ho) rfl [1] rfl (by simp only [push_cast, ↓branch_true, ↓branch_false, Nat.reduceBEq, Nat.reduceAdd, Nat.reduceMul, Nat.reduceSub, Int.reduceToNat, reduceCtorEq, branch_decide, branch_not, branch_beq, branch_bne]) (by simp only [push_cast, ↓branch_true, ↓branch_false, Nat.reduceBEq, Nat.reduceAdd, Nat.reduceMul, Nat.reduceSub, Int.reduceToNat, reduceCtorEq, branch_decide, branch_not, branch_beq, branch_bne]) ?_
  simp only [push_cast, ↓branch_true, ↓branch_false, Nat.reduceBEq, Nat.reduceAdd, Nat.reduceMul, Nat.reduceSub, Int.reduceToNat, reduceCtorEq, branch_decide, branch_not, branch_beq, branch_bne]
  simp [givenE, h]
theorem ordE_0 {n : Nat} {o : List Int} (h : ordE n o = 0) : o.length = n ∧ ∀ j, j < o.length → 0 ≤ ix o j ∧ ix o j < n ∧ ∀ i, i < j → ix o i ≠ ix o j := by
  unfold ordE at h
  split at h
  · rename_i hn
    refine ⟨by omega, fun j hj => ?_⟩
    have hb := scan_zero _ _ h j (Nat.zero_le _) (by omega)
    unfold badO at hb
    split at hb
    · omega
    · split at hb
      · omega
      · rename_i h1 h2
        refine ⟨by omega, by omega, fun i hi he => h2 ((anyV_take (Nat.le_of_lt hj)).2 ⟨i, hi, he⟩)⟩
  · omega
end Go.Proofs.Ytgbldceimdjblaa
