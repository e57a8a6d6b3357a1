/- Contracts: what a list of numbers may be. -/
import Derived.Test.YtapbhppfecfobaaDoorC
set_option maxRecDepth 100000
set_option linter.unusedSimpArgs false
set_option linter.unusedVariables false
namespace Go.Proofs.YtapbhppfecfobaaDoor
open Go.RowKit
/-- A row of numbers that is only read. -/
def rR (l : List Int) : Ob := ⟨3, true, .row 1 1 (fun _ => l.length) (fun _ => 0) (fun _ k => [.v (.int .i64 (ix l k))])⟩
attribute [push_cast] rR
def idxB {α : Type} (p : α → Bool) : List α → Int → Int
  | [], _ => -1
  | x :: l, k => bif p x then k else idxB p l (k + 1)
theorem idxB_snoc {α : Type} (p : α → Bool) (x : α) : ∀ (l : List α) (k : Int), (∀ y ∈ l, p y = false) → idxB p (l ++ [x]) k = bif p x then k + l.length else -1
  | [], k, _ => by simp [idxB]
  | y :: l, k, h => by
    simp only [List.cons_append, idxB, h y (List.mem_cons_self), cond_false]
    rw [idxB_snoc p x l (k + 1) fun z hz => h z (List.mem_cons_of_mem _ hz)]
    simp only [List.length_cons]
    cases p x <;> simp
    omega
theorem idxB_at {α : Type} [Inhabited α] (p : α → Bool) : ∀ (l : List α) (i : Int) (k : Nat), k < l.length → (∀ j, j < k → p (ix l j) = false) → p (ix l k) = true → idxB p l i = i + k
  | [], i, k, hk, _, _ => by simp at hk
  | x :: l, i, 0, _, _, hp => by
    have : p x = true := hp
    simp [idxB, this]
  | x :: l, i, k + 1, hk, hn, hp => by
    have h0 : p x = false := hn 0 (by omega)
    simp only [idxB, h0, cond_false]
    rw [idxB_at p l (i + 1) k (by simpa using hk) (fun j hj => hn (j + 1) (by omega)) hp]
    push_cast
    omega
theorem idxB_none {α : Type} [Inhabited α] (p : α → Bool) : ∀ (l : List α) (i : Int), (∀ j, j < l.length → p (ix l j) = false) → idxB p l i = -1
  | [], i, _ => rfl
  | x :: l, i, hn => by
    have h0 : p x = false := hn 0 (by simp)
    simp only [idxB, h0, cond_false]
    exact idxB_none p l (i + 1) fun j hj => hn (j + 1) (by simpa using hj)
theorem idxB_any {α : Type} (p : α → Bool) : ∀ (l : List α) (i : Int), 0 ≤ i → decide (0 ≤ idxB p l i) = l.any p
  | [], i, _ => rfl
  | x :: l, i, h => by
    have ih := idxB_any p l (i + 1) (by omega)
    simp only [idxB, List.any_cons]
    by_cases hp : p x = true
    · simp [hp, h]
    · have hp : p x = false := by simpa using hp
      simp [hp]
      simpa using ih
theorem indexI_pu (l : List Int) (c : Nat) (g : FuncId) (fs cs : List SV) (H : List Ob) (p : Int → Bool) (hro : roB H = true) (hl : l.length ≤ 9223372036854775807)
    (hp : ∀ x ∈ l, Pu Tryd.prog g (fs ++ [.v (.int .i64 x)] ++ cs) (rR l :: H) (.v (.bool (p x)))) : Pu Tryd.prog 55 [.s 0 0 0 l.length c 1, .f (.func g) fs cs] (rR l :: H) (.v (.int .i64 (idxB p l 0))) := by
  refine pu_of_ex true [] mixed Tryd.call55 Tryd.func55 rfl Tryd.ntmps55 Tryd.results55 (by decide +kernel) rfl (by simp [roB, hro, rR]) rfl ?_
  simp only [push_cast, ↓branch_true, ↓branch_false, Nat.reduceBEq, Nat.reduceAdd, Nat.reduceMul, Nat.reduceSub, Int.reduceToNat, reduceCtorEq, branch_decide, branch_not, branch_beq, branch_bne]
  refine tr_loop0 mixed (by kernel_rfl) (fun (k : Nat) => [(8, .v (.int .i64 k)), (7, .v (.int .i64 l.length)), (0, .s 0 0 0 l.length c 1), (1, .f (.func g) fs cs)]) (fun k => k ≤ l.length ∧ ∀ j, j < k → p (ix l j) = false) (fun k => l.length - k) 0 ⟨Nat.zero_le _, fun j h => by omega⟩ ?_ ?_
  · simp only [push_cast, ↓branch_true, ↓branch_false, Nat.reduceBEq, Nat.reduceAdd, Nat.reduceMul, Nat.reduceSub, Int.reduceToNat, reduceCtorEq, branch_decide, branch_not, branch_beq, branch_bne]
  · rintro k ⟨hk, hn⟩
    simp only [push_cast, ↓branch_true, ↓branch_false, Nat.reduceBEq, Nat.reduceAdd, Nat.reduceMul, Nat.reduceSub, Int.reduceToNat, reduceCtorEq, branch_decide, branch_not, branch_beq, branch_bne]
    refine ⟨fun h1 => ?_, fun h1 => ?_⟩
    · repeat (with_reducible refine And.intro (by omega) ?_)
      have hp1 := hp _ (ix_mem (l := l) (k := k) (by omega))
      refine sp_pu (by simpa only [push_cast] using hp1) ?_
      simp only [push_cast, ↓branch_true, ↓branch_false, Nat.reduceBEq, Nat.reduceAdd, Nat.reduceMul, Nat.reduceSub, Int.reduceToNat, reduceCtorEq, branch_decide, branch_not, branch_beq, branch_bne]
      simp only [branch]
      refine ⟨fun h2 => ?_, fun h2 => ?_⟩
      · rw [idxB_at p l 0 k (by omega) hn h2]; simp
      · repeat (with_reducible refine And.intro (by omega) ?_)
        refine lp0_normal (k + 1) ⟨by omega, fun j hj => ?_⟩ (by omega) ?_
        · by_cases e : j = k
          · rw [e]; exact h2
          · exact hn j (by omega)
        · simp only [push_cast, ↓branch_true, ↓branch_false, Nat.reduceBEq, Nat.reduceAdd, Nat.reduceMul, Nat.reduceSub, Int.reduceToNat, reduceCtorEq, branch_decide, branch_not, branch_beq, branch_bne]
    · rw [idxB_none p l 0 fun j hj => hn j (by omega)]
theorem containsI_pu (l : List Int) (c : Nat) (g : FuncId) (fs cs : List SV) (H : List Ob) (p : Int → Bool) (hro : roB H = true) (hl : l.length ≤ 9223372036854775807)
    (hp : ∀ x ∈ l, Pu Tryd.prog g (fs ++ [.v (.int .i64 x)] ++ cs) (rR l :: H) (.v (.bool (p x)))) : Pu Tryd.prog 36 [.s 0 0 0 l.length c 1, .f (.func g) fs cs] (rR l :: H) (.v (.bool (l.any p))) := by
  refine pu_of_ex true [] mixed Tryd.call36 Tryd.func36 rfl Tryd.ntmps36 Tryd.results36 (by decide +kernel) rfl (by simp [roB, hro, rR]) rfl ?_
  simp only [push_cast, ↓branch_true, ↓branch_false, Nat.reduceBEq, Nat.reduceAdd, Nat.reduceMul, Nat.reduceSub, Int.reduceToNat, reduceCtorEq, branch_decide, branch_not, branch_beq, branch_bne]
  refine sp_pu (indexI_pu l c g fs cs H p hro hl hp) ?_
  simp only [push_cast, ↓branch_true, ↓branch_false, Nat.reduceBEq, Nat.reduceAdd, Nat.reduceMul, Nat.reduceSub, Int.reduceToNat, reduceCtorEq, branch_decide, branch_not, branch_beq, branch_bne]
  rw [idxB_any p l 0 (Int.le_refl 0)]
def badN (n : Int) : Bool := decide (n < -1125899906842624) || decide (1125899906842624 < n)
def givE (l : List Int) : Int := if 16 < l.length then 6 else if l.any badN then 1 else 0
theorem badN_pu (n : Int) (H : List Ob) (hr : roB H = true) : Pu Tryd.prog 56 [.v (.int .i64 n)] H (.v (.bool (badN n))) := by
  refine pu_of_ex true [] mixed Tryd.call56 Tryd.func56 rfl Tryd.ntmps56 Tryd.results56 (by decide +kernel) rfl hr rfl ?_
  simp only [push_cast, ↓branch_true, ↓branch_false, Nat.reduceBEq, Nat.reduceAdd, Nat.reduceMul, Nat.reduceSub, Int.reduceToNat, reduceCtorEq, branch_decide, branch_not, branch_beq, branch_bne]
  unfold badN
  refine ⟨fun h => by simp [h], fun h => by simp [h]⟩
theorem given_pu (l : List Int) (c : Nat) (hl : l.length ≤ 9223372036854775807) : Pu Tryd.prog 42 [.s 0 0 0 l.length c 1] [rR l] (.v (.int .i64 (givE l))) := by
  refine pu_of_ex true [] mixed Tryd.call42 Tryd.func42 rfl Tryd.ntmps42 Tryd.results42 (by decide +kernel) rfl rfl rfl ?_
  simp only [push_cast, ↓branch_true, ↓branch_false, Nat.reduceBEq, Nat.reduceAdd, Nat.reduceMul, Nat.reduceSub, Int.reduceToNat, reduceCtorEq, branch_decide, branch_not, branch_beq, branch_bne]
  unfold givE
  refine ⟨fun h1 => by rw [if_pos (by omega)], fun h1 => ?_⟩
  rw [if_neg (by omega)]
  refine sp_pu (containsI_pu l c 56 [] [] [] badN rfl hl fun x _ => badN_pu x _ rfl) ?_
  cases l.any badN with
  | true =>
    simp only [push_cast, ↓branch_true, ↓branch_false, Nat.reduceBEq, Nat.reduceAdd, Nat.reduceMul, Nat.reduceSub, Int.reduceToNat, reduceCtorEq, branch_decide, branch_not, branch_beq, branch_bne]
  | false =>
    simp only [push_cast, ↓branch_true, ↓branch_false, Nat.reduceBEq, Nat.reduceAdd, Nat.reduceMul, Nat.reduceSub, Int.reduceToNat, reduceCtorEq, branch_decide, branch_not, branch_beq, branch_bne]
theorem given_0 {l : List Int} (h : givE l = 0) : l.length ≤ 16 ∧ ∀ x ∈ l, -1125899906842624 ≤ x ∧ x ≤ 1125899906842624 := by
  unfold givE at h
  split at h
  · omega
  · split at h
    · omega
    · rename_i h1 h2
      refine ⟨by omega, fun x hx => ?_⟩
      have : badN x = false := by
        cases e : badN x with
        | false => rfl
        | true => exact absurd (List.any_eq_true.2 ⟨x, hx, e⟩) h2
      simp only [badN, Bool.or_eq_false_iff, decide_eq_false_iff_not] at this
      omega
theorem rgiven_pu (l : List Int) (c : Nat) (hl : l.length ≤ 9223372036854775807) : Pu Tryd.prog 13 [.s 0 0 0 l.length c 1] [rR l] (.v (.int .i64 (givE l))) := by
  refine pu_of_ex true [] mixed Tryd.call13 Tryd.func13 rfl Tryd.ntmps13 Tryd.results13 (by decide +kernel) rfl rfl rfl ?_
  simp only [push_cast, ↓branch_true, ↓branch_false, Nat.reduceBEq, Nat.reduceAdd, Nat.reduceMul, Nat.reduceSub, Int.reduceToNat, reduceCtorEq, branch_decide, branch_not, branch_beq, branch_bne]
  unfold givE
  refine ⟨fun h1 => by rw [if_pos (by omega)], fun h1 => ?_⟩
  rw [if_neg (by omega)]
  refine tr_loop0 mixed (by kernel_rfl) (fun (k : Nat) => [(3, .v (.int .i64 k)), (0, .s 0 0 0 l.length c 1)]) (fun k => k ≤ l.length ∧ ∀ j, j < k → badN (ix l j) = false) (fun k => l.length - k) 0 ⟨Nat.zero_le _, fun j h => by omega⟩ ?_ ?_
  · simp only [push_cast, ↓branch_true, ↓branch_false, Nat.reduceBEq, Nat.reduceAdd, Nat.reduceMul, Nat.reduceSub, Int.reduceToNat, reduceCtorEq, branch_decide, branch_not, branch_beq, branch_bne]
  rintro k ⟨hk, hn⟩
  simp only [push_cast, ↓branch_true, ↓branch_false, Nat.reduceBEq, Nat.reduceAdd, Nat.reduceMul, Nat.reduceSub, Int.reduceToNat, reduceCtorEq, branch_decide, branch_not, branch_beq, branch_bne]
  have yes : k < l.length → badN (ix l k) = true → l.any badN = true := fun h hb => List.any_eq_true.2 ⟨_, ix_mem h, hb⟩
  refine ⟨fun h => ?_, fun h => ?_⟩
  · repeat (with_reducible refine And.intro (by omega) ?_)
    refine ⟨fun h5 => ?_, fun h5 => ?_⟩
    · rw [if_pos (yes (by omega) (by simp [badN, h5]))]
    · repeat (with_reducible refine And.intro (by omega) ?_)
      refine ⟨fun h6 => ?_, fun h6 => ?_⟩
      · rw [if_pos (yes (by omega) (by simp [badN, h6]))]
      · repeat (with_reducible refine And.intro (by omega) ?_)
        refine lp0_normal (k + 1) ⟨by omega, fun j hj => ?_⟩ (by omega) ?_
        · by_cases e : j = k
          · subst e; simp [badN, h5, h6]
          · exact hn j (by omega)
        · simp only [push_cast, ↓branch_true, ↓branch_false, Nat.reduceBEq, Nat.reduceAdd, Nat.reduceMul, Nat.reduceSub, Int.reduceToNat, reduceCtorEq, branch_decide, branch_not, branch_beq, branch_bne]
  · have : ¬ l.any badN = true := fun h => by
      obtain ⟨x, hx, h6⟩ := List.any_eq_true.1 h
      obtain ⟨j, hj, rfl⟩ := List.getElem_of_mem hx
      have := hn j (by omega)
      rw [ix_eq hj] at this
      rw [this] at h6; cases h6
    rw [if_neg this]
end Go.Proofs.YtapbhppfecfobaaDoor
