/- Contracts: what is wrong with bundles; the bound. -/
import Derived.Test.YtdinkpefoljigaaB
set_option maxRecDepth 100000
set_option linter.unusedSimpArgs false
set_option linter.unusedVariables false
namespace Go.Proofs.Ytdinkpefoljigaa
open Go.RowKit
/-- The number of the first element with a property. -/
def idxB {α : Type} (p : α → Bool) : List α → Int → Int
  | [], _ => -1
  | x :: l, k => bif p x then k else idxB p l (k + 1)
theorem idxB_snoc {α : Type} (p : α → Bool) (x : α) : ∀ (l : List α) (k : Int), (∀ y ∈ l, p y = false) → idxB p (l ++ [x]) k = bif p x then k + l.length else -1
  | [], k, _ => by simp [idxB]
  | y :: l, k, h => by
    simp only [List.cons_append, idxB, h y (List.mem_cons_self), cond_false]
    rw [idxB_snoc p x l (k + 1) fun z hz => h z (List.mem_cons_of_mem _ hz)]
    simp only [List.length_cons]
    cases p x <;> simp
    omega
theorem idxB_at {α : Type} [Inhabited α] (p : α → Bool) : ∀ (l : List α) (i : Int) (k : Nat), k < l.length → (∀ j, j < k → p (ix l j) = false) → p (ix l k) = true → idxB p l i = i + k
  | [], i, k, hk, _, _ => by simp at hk
  | x :: l, i, 0, _, _, hp => by
    have : p x = true := hp
    simp [idxB, this]
  | x :: l, i, k + 1, hk, hn, hp => by
    have h0 : p x = false := hn 0 (by omega)
    simp only [idxB, h0, cond_false]
    rw [idxB_at p l (i + 1) k (by simpa using hk) (fun j hj => hn (j + 1) (by omega)) hp]
    push_cast
    omega
theorem idxB_none {α : Type} [Inhabited α] (p : α → Bool) : ∀ (l : List α) (i : Int), (∀ j, j < l.length → p (ix l j) = false) → idxB p l i = -1
  | [], i, _ => rfl
  | x :: l, i, hn => by
    have h0 : p x = false := hn 0 (by simp)
    simp only [idxB, h0, cond_false]
    exact idxB_none p l (i + 1) fun j hj => hn (j + 1) (by simpa using hj)
theorem idxB_any {α : Type} (p : α → Bool) : ∀ (l : List α) (i : Int), 0 ≤ i → decide (0 ≤ idxB p l i) = l.any p
  | [], i, _ => rfl
  | x :: l, i, h => by
    have ih := idxB_any p l (i + 1) (by omega)
    simp only [idxB, List.any_cons]
    by_cases hp : p x = true
    · simp [hp, h]
    · have hp : p x = false := by simpa using hp
      simp [hp]
      simpa using ih
theorem indexB_pu (l : List Bun) (c : Nat) (g : FuncId) (fs cs : List SV) (H : List Ob) (p : Bun → Bool) (hro : roB H = true) (hl : l.length ≤ 9223372036854775807)
    (hp : ∀ x ∈ l, Pu Try.prog g (fs ++ [.a (cB x)] ++ cs) (rB l :: H) (.v (.bool (p x)))) : Pu Try.prog 68 [.s 0 0 0 l.length c 4, .f (.func g) fs cs] (rB l :: H) (.v (.int .i64 (idxB p l 0))) := by
  refine pu_of_ex true [] mixed Try.call68 Try.func68 rfl Try.ntmps68 Try.results68 (by decide +kernel) rfl (by simp [roB, hro, rB]) rfl ?_
  simp only [push_cast, ↓branch_true, ↓branch_false, Nat.reduceBEq, Nat.reduceAdd, Nat.reduceMul, Nat.reduceSub, Int.reduceToNat, reduceCtorEq, branch_decide, branch_not, branch_beq, branch_bne]
  refine tr_loop0 mixed (by kernel_rfl) (fun (k : Nat) => [(8, .v (.int .i64 k)), (7, .v (.int .i64 l.length)), (0, .s 0 0 0 l.length c 4), (1, .f (.func g) fs cs)]) (fun k => k ≤ l.length ∧ ∀ j, j < k → p (ix l j) = false) (fun k => l.length - k) 0 ⟨Nat.zero_le _, fun j h => by omega⟩ ?_ ?_
  · simp only [push_cast, ↓branch_true, ↓branch_false, Nat.reduceBEq, Nat.reduceAdd, Nat.reduceMul, Nat.reduceSub, Int.reduceToNat, reduceCtorEq, branch_decide, branch_not, branch_beq, branch_bne]
  · rintro k ⟨hk, hn⟩
    simp only [push_cast, ↓branch_true, ↓branch_false, Nat.reduceBEq, Nat.reduceAdd, Nat.reduceMul, Nat.reduceSub, Int.reduceToNat, reduceCtorEq, branch_decide, branch_not, branch_beq, branch_bne]
    refine ⟨fun h1 => ?_, fun h1 => ?_⟩
    · repeat (with_reducible refine And.intro (by omega) ?_)
      have hp1 := hp _ (ix_mem (l := l) (k := k) (by omega))
      refine sp_pu (by simpa only [push_cast] using hp1) ?_
      simp only [push_cast, ↓branch_true, ↓branch_false, Nat.reduceBEq, Nat.reduceAdd, Nat.reduceMul, Nat.reduceSub, Int.reduceToNat, reduceCtorEq, branch_decide, branch_not, branch_beq, branch_bne]
      simp only [branch]
      refine ⟨fun h2 => ?_, fun h2 => ?_⟩
      · rw [idxB_at p l 0 k (by omega) hn h2]; simp
      · repeat (with_reducible refine And.intro (by omega) ?_)
        refine lp0_normal (k + 1) ⟨by omega, fun j hj => ?_⟩ (by omega) ?_
        · by_cases e : j = k
          · rw [e]; exact h2
          · exact hn j (by omega)
        · simp only [push_cast, ↓branch_true, ↓branch_false, Nat.reduceBEq, Nat.reduceAdd, Nat.reduceMul, Nat.reduceSub, Int.reduceToNat, reduceCtorEq, branch_decide, branch_not, branch_beq, branch_bne]
    · rw [idxB_none p l 0 fun j hj => hn j (by omega)]
theorem containsB_pu (l : List Bun) (c : Nat) (g : FuncId) (fs cs : List SV) (H : List Ob) (p : Bun → Bool) (hro : roB H = true) (hl : l.length ≤ 9223372036854775807)
    (hp : ∀ x ∈ l, Pu Try.prog g (fs ++ [.a (cB x)] ++ cs) (rB l :: H) (.v (.bool (p x)))) : Pu Try.prog 57 [.s 0 0 0 l.length c 4, .f (.func g) fs cs] (rB l :: H) (.v (.bool (l.any p))) := by
  refine pu_of_ex true [] mixed Try.call57 Try.func57 rfl Try.ntmps57 Try.results57 (by decide +kernel) rfl (by simp [roB, hro, rB]) rfl ?_
  simp only [push_cast, ↓branch_true, ↓branch_false, Nat.reduceBEq, Nat.reduceAdd, Nat.reduceMul, Nat.reduceSub, Int.reduceToNat, reduceCtorEq, branch_decide, branch_not, branch_beq, branch_bne]
  refine sp_pu (indexB_pu l c g fs cs H p hro hl hp) ?_
  simp only [push_cast, ↓branch_true, ↓branch_false, Nat.reduceBEq, Nat.reduceAdd, Nat.reduceMul, Nat.reduceSub, Int.reduceToNat, reduceCtorEq, branch_decide, branch_not, branch_beq, branch_bne]
  rw [idxB_any p l 0 (Int.le_refl 0)]

def oM (most : Int) : Ob := ⟨3, true, .st [.v (.int .i64 most)]⟩
attribute [push_cast] oM
def heavyB (most : Int) (b : Bun) : Bool := decide (most < b.mass)
theorem given1_pu (b : Bun) (most : Int) : Pu Try.prog 58 [.a (cB b), .p 0 0 0] [oM most] (.v (.bool (heavyB most b))) := by
  refine pu_of_ex true [] mixed Try.call58 Try.func58 rfl Try.ntmps58 Try.results58 (by decide +kernel) rfl rfl rfl ?_
  simp only [push_cast, ↓branch_true, ↓branch_false, Nat.reduceBEq, Nat.reduceAdd, Nat.reduceMul, Nat.reduceSub, Int.reduceToNat, reduceCtorEq, branch_decide, branch_not, branch_beq, branch_bne]
  unfold heavyB
  rfl
theorem within_pu (most : Int) : Pu Try.prog 45 [.v (.int .i64 most)] [] (.v (.bool (decide (1 ≤ most) && decide (most ≤ 1099511627776)))) := by
  refine pu_of_ex true [] mixed Try.call45 Try.func45 rfl Try.ntmps45 Try.results45 (by decide +kernel) rfl rfl rfl ?_
  simp only [push_cast, ↓branch_true, ↓branch_false, Nat.reduceBEq, Nat.reduceAdd, Nat.reduceMul, Nat.reduceSub, Int.reduceToNat, reduceCtorEq, branch_decide, branch_not, branch_beq, branch_bne]
  repeat' (with_reducible (first | apply And.intro | intro _))
  all_goals simp [*]
/-- The error number of bundles and a greatest mass. -/
def errG (l : List Bun) (most : Int) : Int := if vB l = false then 1 else if ¬ (1 ≤ most ∧ most ≤ 1099511627776) then 2 else if l.any (heavyB most) = true then 20 else 0
theorem given_pu (l : List Bun) (most : Int) (c : Nat) (hs : strOk l) (hl : l.length ≤ 9223372036854775807) : Pu Try.prog 41 [.s 0 0 0 l.length c 4, .v (.int .i64 most)] [rB l] (.v (.int .i64 (errG l most))) := by
  refine pu_of_ex true [] mixed Try.call41 Try.func41 rfl Try.ntmps41 Try.results41 (by decide +kernel) rfl rfl rfl ?_
  simp only [push_cast, ↓branch_true, ↓branch_false, Nat.reduceBEq, Nat.reduceAdd, Nat.reduceMul, Nat.reduceSub, Int.reduceToNat, reduceCtorEq, branch_decide, branch_not, branch_beq, branch_bne]
  refine sp_call (valid_pu l c hs hl) rfl [0] rfl (by simp only [push_cast, ↓branch_true, ↓branch_false, Nat.reduceBEq, Nat.reduceAdd, Nat.reduceMul, Nat.reduceSub, Int.reduceToNat, reduceCtorEq, branch_decide, branch_not, branch_beq, branch_bne]) (by simp only [push_cast, ↓branch_true, ↓branch_false, Nat.reduceBEq, Nat.reduceAdd, Nat.reduceMul, Nat.reduceSub, Int.reduceToNat, reduceCtorEq, branch_decide, branch_not, branch_beq, branch_bne]) ?_
  simp only [push_cast, ↓branch_true, ↓branch_false, Nat.reduceBEq, Nat.reduceAdd, Nat.reduceMul, Nat.reduceSub, Int.reduceToNat, reduceCtorEq, branch_decide, branch_not, branch_beq, branch_bne]
  cases hv : vB l with
  | false =>
    simp only [push_cast, ↓branch_true, ↓branch_false, Nat.reduceBEq, Nat.reduceAdd, Nat.reduceMul, Nat.reduceSub, Int.reduceToNat, reduceCtorEq, branch_decide, branch_not, branch_beq, branch_bne]
    simp [errG, hv]
  | true =>
  simp only [push_cast, ↓branch_true, ↓branch_false, Nat.reduceBEq, Nat.reduceAdd, Nat.reduceMul, Nat.reduceSub, Int.reduceToNat, reduceCtorEq, branch_decide, branch_not, branch_beq, branch_bne]
  refine sp_call (within_pu most) rfl [] rfl (by simp only [push_cast, ↓branch_true, ↓branch_false, Nat.reduceBEq, Nat.reduceAdd, Nat.reduceMul, Nat.reduceSub, Int.reduceToNat, reduceCtorEq, branch_decide, branch_not, branch_beq, branch_bne]) (by simp only [push_cast, ↓branch_true, ↓branch_false, Nat.reduceBEq, Nat.reduceAdd, Nat.reduceMul, Nat.reduceSub, Int.reduceToNat, reduceCtorEq, branch_decide, branch_not, branch_beq, branch_bne]) ?_
  simp only [push_cast, ↓branch_true, ↓branch_false, Nat.reduceBEq, Nat.reduceAdd, Nat.reduceMul, Nat.reduceSub, Int.reduceToNat, reduceCtorEq, branch_decide, branch_not, branch_beq, branch_bne]
  cases hw : (decide (1 ≤ most) && decide (most ≤ 1099511627776)) with
  | false =>
    simp only [push_cast, ↓branch_true, ↓branch_false, Nat.reduceBEq, Nat.reduceAdd, Nat.reduceMul, Nat.reduceSub, Int.reduceToNat, reduceCtorEq, branch_decide, branch_not, branch_beq, branch_bne]
    have : ¬ (1 ≤ most ∧ most ≤ 1099511627776) := by simpa using hw
    simp only [errG, hv, this]; simp
  | true =>
  have hw2 : 1 ≤ most ∧ most ≤ 1099511627776 := by simpa using hw
  simp only [push_cast, ↓branch_true, ↓branch_false, Nat.reduceBEq, Nat.reduceAdd, Nat.reduceMul, Nat.reduceSub, Int.reduceToNat, reduceCtorEq, branch_decide, branch_not, branch_beq, branch_bne]
  refine sp_call (containsB_pu l c 58 [] [.p 1 0 0] [oM most] (heavyB most) rfl hl fun x hx => ?_) rfl [0, 1] rfl ?_ ?_ ?_
  · exact pu_at (given1_pu x most) rfl [1] rfl (by (simp only [push_cast, ↓branch_true, ↓branch_false, Nat.reduceBEq, Nat.reduceAdd, Nat.reduceMul, Nat.reduceSub, Int.reduceToNat, reduceCtorEq, branch_decide, branch_not, branch_beq, branch_bne])) (by (simp only [push_cast, ↓branch_true, ↓branch_false, Nat.reduceBEq, Nat.reduceAdd, Nat.reduceMul, Nat.reduceSub, Int.reduceToNat, reduceCtorEq, branch_decide, branch_not, branch_beq, branch_bne]))
  · simp only [push_cast, ↓branch_true, ↓branch_false, Nat.reduceBEq, Nat.reduceAdd, Nat.reduceMul, Nat.reduceSub, Int.reduceToNat, reduceCtorEq, branch_decide, branch_not, branch_beq, branch_bne]
  · simp only [push_cast, ↓branch_true, ↓branch_false, Nat.reduceBEq, Nat.reduceAdd, Nat.reduceMul, Nat.reduceSub, Int.reduceToNat, reduceCtorEq, branch_decide, branch_not, branch_beq, branch_bne]
  cases ha : l.any (heavyB most) with
  | true =>
    simp only [push_cast, ↓branch_true, ↓branch_false, Nat.reduceBEq, Nat.reduceAdd, Nat.reduceMul, Nat.reduceSub, Int.reduceToNat, reduceCtorEq, branch_decide, branch_not, branch_beq, branch_bne]
    simp [errG, hv, hw2, ha]
  | false =>
    simp only [push_cast, ↓branch_true, ↓branch_false, Nat.reduceBEq, Nat.reduceAdd, Nat.reduceMul, Nat.reduceSub, Int.reduceToNat, reduceCtorEq, branch_decide, branch_not, branch_beq, branch_bne]
    simp [errG, hv, hw2, ha]
theorem rgiven_pu (l : List Bun) (most : Int) (c : Nat) (hs : strOk l) (hl : l.length ≤ 9223372036854775807) : Pu Try.prog 14 [.s 0 0 0 l.length c 4, .v (.int .i64 most)] [rB l] (.v (.int .i64 (errG l most))) := by
  refine pu_of_ex true [] mixed Try.call14 Try.func14 rfl Try.ntmps14 Try.results14 (by decide +kernel) rfl rfl rfl ?_
  simp only [push_cast, ↓branch_true, ↓branch_false, Nat.reduceBEq, Nat.reduceAdd, Nat.reduceMul, Nat.reduceSub, Int.reduceToNat, reduceCtorEq, branch_decide, branch_not, branch_beq, branch_bne]
  refine sp_call (rvalid_pu l c hs hl) rfl [0] rfl (by simp only [push_cast, ↓branch_true, ↓branch_false, Nat.reduceBEq, Nat.reduceAdd, Nat.reduceMul, Nat.reduceSub, Int.reduceToNat, reduceCtorEq, branch_decide, branch_not, branch_beq, branch_bne]) (by simp only [push_cast, ↓branch_true, ↓branch_false, Nat.reduceBEq, Nat.reduceAdd, Nat.reduceMul, Nat.reduceSub, Int.reduceToNat, reduceCtorEq, branch_decide, branch_not, branch_beq, branch_bne]) ?_
  simp only [push_cast, ↓branch_true, ↓branch_false, Nat.reduceBEq, Nat.reduceAdd, Nat.reduceMul, Nat.reduceSub, Int.reduceToNat, reduceCtorEq, branch_decide, branch_not, branch_beq, branch_bne]
  cases hv : vB l with
  | false =>
    simp only [push_cast, ↓branch_true, ↓branch_false, Nat.reduceBEq, Nat.reduceAdd, Nat.reduceMul, Nat.reduceSub, Int.reduceToNat, reduceCtorEq, branch_decide, branch_not, branch_beq, branch_bne]
    simp [errG, hv]
  | true =>
  simp only [push_cast, ↓branch_true, ↓branch_false, Nat.reduceBEq, Nat.reduceAdd, Nat.reduceMul, Nat.reduceSub, Int.reduceToNat, reduceCtorEq, branch_decide, branch_not, branch_beq, branch_bne]
  refine ⟨fun h => ?_, fun h => ⟨fun h2 => ?_, fun h2 => ?_⟩⟩
  · have : ¬ (1 ≤ most ∧ most ≤ 1099511627776) := by omega
    simp only [errG, hv, this]; simp
  · have : ¬ (1 ≤ most ∧ most ≤ 1099511627776) := by omega
    simp only [errG, hv, this]; simp
  · have hw2 : 1 ≤ most ∧ most ≤ 1099511627776 := by omega
    refine tr_loop0 mixed (by kernel_rfl) (fun (k : Nat) => [(5, .v (.int .i64 k)), (0, .s 0 0 0 l.length c 4), (1, .v (.int .i64 most))]) (fun k => k ≤ l.length ∧ ∀ i, i < k → heavyB most (ix l i) = false) (fun k => l.length - k) 0 ⟨Nat.zero_le _, fun i hi => by omega⟩ ?_ ?_
    · simp only [push_cast, ↓branch_true, ↓branch_false, Nat.reduceBEq, Nat.reduceAdd, Nat.reduceMul, Nat.reduceSub, Int.reduceToNat, reduceCtorEq, branch_decide, branch_not, branch_beq, branch_bne]
    rintro k ⟨h1, h3⟩
    simp only [push_cast, ↓branch_true, ↓branch_false, Nat.reduceBEq, Nat.reduceAdd, Nat.reduceMul, Nat.reduceSub, Int.reduceToNat, reduceCtorEq, branch_decide, branch_not, branch_beq, branch_bne]
    refine ⟨fun h4 => ?_, fun h4 => ?_⟩
    · repeat (with_reducible refine And.intro (by omega) ?_)
      have hk : k < l.length := by omega
      refine ⟨fun h5 => ?_, fun h5 => ?_⟩
      · have : l.any (heavyB most) = true := List.any_eq_true.2 ⟨_, ix_mem hk, by simp [heavyB, h5]⟩
        simp [errG, hv, hw2, this]
      · repeat (with_reducible refine And.intro (by omega) ?_)
        refine lp0_normal (k + 1) ⟨by omega, fun i hi => ?_⟩ (by omega) ?_
        · by_cases e : i = k
          · subst e; simpa [heavyB] using h5
          · exact h3 i (by omega)
        · simp only [push_cast, ↓branch_true, ↓branch_false, Nat.reduceBEq, Nat.reduceAdd, Nat.reduceMul, Nat.reduceSub, Int.reduceToNat, reduceCtorEq, branch_decide, branch_not, branch_beq, branch_bne]
    · have : l.any (heavyB most) = false := by
        rw [List.any_eq_false]
        intro b hb
        obtain ⟨i, hi, rfl⟩ := List.mem_iff_getElem.1 hb
        rw [← ix_eq hi, h3 i (by omega)]
        simp
      simp [errG, hv, hw2, this]
end Go.Proofs.Ytdinkpefoljigaa
