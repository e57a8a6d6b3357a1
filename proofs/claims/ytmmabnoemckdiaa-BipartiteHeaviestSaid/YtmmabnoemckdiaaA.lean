/- Edges; Valid; IndexFunc and ContainsFunc of edges. -/
import Derived.Test.YtmmabnoemckdiaaTi
import Derived.Test.YtmmabnoemckdiaaIn
set_option maxRecDepth 100000
set_option linter.unusedSimpArgs false
set_option linter.unusedVariables false
namespace Go.Proofs.Ytmmabnoemckdiaa
open Go.RowKit
structure Ed where
  x : Int
  y : Int
instance : Inhabited Ed := ⟨⟨0, 0⟩⟩
def cEd (p : Ed) : List SV := [.v (.int .i64 p.x), .v (.int .i64 p.y)]
/-- A row of edges that is only read. -/
def rEd (l : List Ed) : Ob := ⟨49, true, .row 2 1 (fun _ => l.length) (fun _ => 0) (fun _ k => cEd (ix l k))⟩
attribute [push_cast] rEd cEd
/-- The number of the first element with a property. -/
def idxB {α : Type} (p : α → Bool) : List α → Int → Int
  | [], _ => -1
  | x :: l, k => bif p x then k else idxB p l (k + 1)
theorem idxB_at {α : Type} [Inhabited α] (p : α → Bool) : ∀ (l : List α) (i : Int) (k : Nat), k < l.length → (∀ j, j < k → p (ix l j) = false) → p (ix l k) = true → idxB p l i = i + k
  | [], i, k, hk, _, _ => by simp at hk
  | x :: l, i, 0, _, _, hp => by
    have : p x = true := hp
    simp [idxB, this]
  | x :: l, i, k + 1, hk, hn, hp => by
    have h0 : p x = false := hn 0 (by omega)
    simp only [idxB, h0, cond_false]
    rw [idxB_at p l (i + 1) k (by simpa using hk) (fun j hj => hn (j + 1) (by omega)) hp]
    push_cast
    omega
theorem idxB_none {α : Type} [Inhabited α] (p : α → Bool) : ∀ (l : List α) (i : Int), (∀ j, j < l.length → p (ix l j) = false) → idxB p l i = -1
  | [], i, _ => rfl
  | x :: l, i, hn => by
    have h0 : p x = false := hn 0 (by simp)
    simp only [idxB, h0, cond_false]
    exact idxB_none p l (i + 1) fun j hj => hn (j + 1) (by simpa using hj)
theorem idxB_any {α : Type} (p : α → Bool) : ∀ (l : List α) (i : Int), 0 ≤ i → decide (0 ≤ idxB p l i) = l.any p
  | [], i, _ => rfl
  | x :: l, i, h => by
    have ih := idxB_any p l (i + 1) (by omega)
    simp only [idxB, List.any_cons]
    by_cases hp : p x = true
    · simp [hp, h]
    · have hp : p x = false := by simpa using hp
      simp [hp]
      simpa using ih
theorem indexEd_pu (l : List Ed) (c : Nat) (g : FuncId) (fs cs : List SV) (H : List Ob) (p : Ed → Bool) (hro : roB H = true) (hl : l.length ≤ 9223372036854775807)
    (hp : ∀ x ∈ l, Pu Try.prog g (fs ++ [.a (cEd x)] ++ cs) (rEd l :: H) (.v (.bool (p x)))) : Pu Try.prog 61 [.s 0 0 0 l.length c 2, .f (.func g) fs cs] (rEd l :: H) (.v (.int .i64 (idxB p l 0))) := by
  refine pu_of_ex true [] mixed Try.call61 Try.func61 rfl Try.ntmps61 Try.results61 (by decide +kernel) rfl (by simp [roB, hro, rEd]) rfl ?_
  simp only [push_cast, ↓branch_true, ↓branch_false, Nat.reduceBEq, Nat.reduceAdd, Nat.reduceMul, Nat.reduceSub, Int.reduceToNat, reduceCtorEq, branch_decide, branch_not, branch_beq, branch_bne, Int.reduceAdd, Int.reduceEq, Int.reduceLE, Int.reduceLT, Nat.reduceLT, Nat.reduceLeDiff, false_imp_iff, true_imp_iff]
  refine tr_loop0 mixed (by kernel_rfl) (fun (k : Nat) => [(8, .v (.int .i64 k)), (7, .v (.int .i64 l.length)), (0, .s 0 0 0 l.length c 2), (1, .f (.func g) fs cs)]) (fun k => k ≤ l.length ∧ ∀ j, j < k → p (ix l j) = false) (fun k => l.length - k) 0 ⟨Nat.zero_le _, fun j h => by omega⟩ ?_ ?_
  · simp only [push_cast, ↓branch_true, ↓branch_false, Nat.reduceBEq, Nat.reduceAdd, Nat.reduceMul, Nat.reduceSub, Int.reduceToNat, reduceCtorEq, branch_decide, branch_not, branch_beq, branch_bne, Int.reduceAdd, Int.reduceEq, Int.reduceLE, Int.reduceLT, Nat.reduceLT, Nat.reduceLeDiff, false_imp_iff, true_imp_iff]
  · rintro k ⟨hk, hn⟩
    simp only [push_cast, ↓branch_true, ↓branch_false, Nat.reduceBEq, Nat.reduceAdd, Nat.reduceMul, Nat.reduceSub, Int.reduceToNat, reduceCtorEq, branch_decide, branch_not, branch_beq, branch_bne, Int.reduceAdd, Int.reduceEq, Int.reduceLE, Int.reduceLT, Nat.reduceLT, Nat.reduceLeDiff, false_imp_iff, true_imp_iff]
    refine ⟨fun h1 => ?_, fun h1 => ?_⟩
    · repeat (with_reducible refine And.intro (by omega) ?_)
      have hp1 := hp _ (ix_mem (l := l) (k := k) (by omega))
      refine sp_pu (by simpa only [push_cast] using hp1) ?_
      simp only [push_cast, ↓branch_true, ↓branch_false, Nat.reduceBEq, Nat.reduceAdd, Nat.reduceMul, Nat.reduceSub, Int.reduceToNat, reduceCtorEq, branch_decide, branch_not, branch_beq, branch_bne, Int.reduceAdd, Int.reduceEq, Int.reduceLE, Int.reduceLT, Nat.reduceLT, Nat.reduceLeDiff, false_imp_iff, true_imp_iff]
      simp only [branch]
      refine ⟨fun h2 => ?_, fun h2 => ?_⟩
      · rw [idxB_at p l 0 k (by omega) hn h2]; simp
      · repeat (with_reducible refine And.intro (by omega) ?_)
        refine lp0_normal (k + 1) ⟨by omega, fun j hj => ?_⟩ (by omega) ?_
        · by_cases e : j = k
          · rw [e]; exact h2
          · exact hn j (by omega)
        · simp only [push_cast, ↓branch_true, ↓branch_false, Nat.reduceBEq, Nat.reduceAdd, Nat.reduceMul, Nat.reduceSub, Int.reduceToNat, reduceCtorEq, branch_decide, branch_not, branch_beq, branch_bne, Int.reduceAdd, Int.reduceEq, Int.reduceLE, Int.reduceLT, Nat.reduceLT, Nat.reduceLeDiff, false_imp_iff, true_imp_iff]
    · rw [idxB_none p l 0 fun j hj => hn j (by omega)]
theorem containsEd_pu (l : List Ed) (c : Nat) (g : FuncId) (fs cs : List SV) (H : List Ob) (p : Ed → Bool) (hro : roB H = true) (hl : l.length ≤ 9223372036854775807)
    (hp : ∀ x ∈ l, Pu Try.prog g (fs ++ [.a (cEd x)] ++ cs) (rEd l :: H) (.v (.bool (p x)))) : Pu Try.prog 29 [.s 0 0 0 l.length c 2, .f (.func g) fs cs] (rEd l :: H) (.v (.bool (l.any p))) := by
  refine pu_of_ex true [] mixed Try.call29 Try.func29 rfl Try.ntmps29 Try.results29 (by decide +kernel) rfl (by simp [roB, hro, rEd]) rfl ?_
  simp only [push_cast, ↓branch_true, ↓branch_false, Nat.reduceBEq, Nat.reduceAdd, Nat.reduceMul, Nat.reduceSub, Int.reduceToNat, reduceCtorEq, branch_decide, branch_not, branch_beq, branch_bne, Int.reduceAdd, Int.reduceEq, Int.reduceLE, Int.reduceLT, Nat.reduceLT, Nat.reduceLeDiff, false_imp_iff, true_imp_iff]
  refine sp_pu (indexEd_pu l c g fs cs H p hro hl hp) ?_
  simp only [push_cast, ↓branch_true, ↓branch_false, Nat.reduceBEq, Nat.reduceAdd, Nat.reduceMul, Nat.reduceSub, Int.reduceToNat, reduceCtorEq, branch_decide, branch_not, branch_beq, branch_bne, Int.reduceAdd, Int.reduceEq, Int.reduceLE, Int.reduceLT, Nat.reduceLT, Nat.reduceLeDiff, false_imp_iff, true_imp_iff]
  rw [idxB_any p l 0 (Int.le_refl 0)]
theorem vb {a b : Bool} (h : a = b) : SV.v (.bool a) = SV.v (.bool b) := by rw [h]
def inE (n m : Int) (e : Ed) : Bool := decide (0 ≤ e.x) && (decide (e.x < n) && (decide (0 ≤ e.y) && decide (e.y < m)))
theorem valid1_pu (l : List Ed) (n m : Int) (e : Ed) : Pu Try.prog 54 [.a (cEd e), .p 1 0 0, .p 2 0 0] [rEd l, ⟨3, true, .st [.v (.int .i64 n)]⟩, ⟨3, true, .st [.v (.int .i64 m)]⟩] (.v (.bool (!inE n m e))) := by
  refine pu_of_ex true [] mixed Try.call54 Try.func54 rfl Try.ntmps54 Try.results54 (by decide +kernel) rfl rfl rfl ?_
  simp only [push_cast, ↓branch_true, ↓branch_false, Nat.reduceBEq, Nat.reduceAdd, Nat.reduceMul, Nat.reduceSub, Int.reduceToNat, reduceCtorEq, branch_decide, branch_not, branch_beq, branch_bne, Int.reduceAdd, Int.reduceEq, Int.reduceLE, Int.reduceLT, Nat.reduceLT, Nat.reduceLeDiff, false_imp_iff, true_imp_iff]
  refine ⟨fun h => vb (by simp [inE]; omega), fun h1 => ⟨fun h => vb (by simp [inE]; omega), fun h2 => ⟨fun h => vb (by simp [inE]; omega), fun h3 => vb (by rw [Bool.eq_iff_iff]; simp [inE]; omega)⟩⟩⟩
def validE (n m : Int) (l : List Ed) : Bool := decide (0 ≤ n) && (decide (n ≤ 60) && (decide (0 ≤ m) && (decide (m ≤ 60) && (decide (l.length ≤ 1000) && l.all (inE n m)))))
theorem any_not {α : Type} (p : α → Bool) : ∀ (l : List α), (l.any fun x => !p x) = !l.all p
  | [] => rfl
  | x :: l => by simp [any_not p l, Bool.not_and]
theorem valid_pu (l : List Ed) (n m : Int) (c : Nat) (hl : l.length ≤ 9223372036854775807) : Pu Try.prog 23 [.v (.int .i64 n), .v (.int .i64 m), .s 0 0 0 l.length c 2] [rEd l] (.v (.bool (validE n m l))) := by
  refine pu_of_ex true [] mixed Try.call23 Try.func23 rfl Try.ntmps23 Try.results23 (by decide +kernel) rfl rfl rfl ?_
  simp only [push_cast, ↓branch_true, ↓branch_false, Nat.reduceBEq, Nat.reduceAdd, Nat.reduceMul, Nat.reduceSub, Int.reduceToNat, reduceCtorEq, branch_decide, branch_not, branch_beq, branch_bne, Int.reduceAdd, Int.reduceEq, Int.reduceLE, Int.reduceLT, Nat.reduceLT, Nat.reduceLeDiff, false_imp_iff, true_imp_iff]
  refine ⟨fun h => vb (by simp [validE]; omega), fun h1 => ⟨fun h => vb (by simp [validE]; omega), fun h2 => ⟨fun h => vb (by simp [validE]; omega), fun h3 => ⟨fun h => vb (by simp [validE]; omega), fun h4 => ⟨fun h => vb (by simp [validE]; omega), fun h5 => ?_⟩⟩⟩⟩⟩
  refine sp_call (containsEd_pu l c 54 [] [.p 1 0 0, .p 2 0 0] [⟨3, true, .st [.v (.int .i64 n)]⟩, ⟨3, true, .st [.v (.int .i64 m)]⟩] (fun e => !inE n m e) rfl hl fun e _ => valid1_pu l n m e) rfl [0, 1, 2] rfl ?_ ?_ ?_
  · simp only [push_cast, ↓branch_true, ↓branch_false, Nat.reduceBEq, Nat.reduceAdd, Nat.reduceMul, Nat.reduceSub, Int.reduceToNat, reduceCtorEq, branch_decide, branch_not, branch_beq, branch_bne, Int.reduceAdd, Int.reduceEq, Int.reduceLE, Int.reduceLT, Nat.reduceLT, Nat.reduceLeDiff, false_imp_iff, true_imp_iff]
    try trivial
  · simp only [push_cast, ↓branch_true, ↓branch_false, Nat.reduceBEq, Nat.reduceAdd, Nat.reduceMul, Nat.reduceSub, Int.reduceToNat, reduceCtorEq, branch_decide, branch_not, branch_beq, branch_bne, Int.reduceAdd, Int.reduceEq, Int.reduceLE, Int.reduceLT, Nat.reduceLT, Nat.reduceLeDiff, false_imp_iff, true_imp_iff]
    try trivial
  simp only [push_cast, ↓branch_true, ↓branch_false, Nat.reduceBEq, Nat.reduceAdd, Nat.reduceMul, Nat.reduceSub, Int.reduceToNat, reduceCtorEq, branch_decide, branch_not, branch_beq, branch_bne, Int.reduceAdd, Int.reduceEq, Int.reduceLE, Int.reduceLT, Nat.reduceLT, Nat.reduceLeDiff, false_imp_iff, true_imp_iff]
  rw [any_not]
  refine vb ?_
  unfold validE
  rw [Bool.not_not, decide_eq_true (by omega : 0 ≤ n), decide_eq_true (by omega : n ≤ 60), decide_eq_true (by omega : 0 ≤ m), decide_eq_true (by omega : m ≤ 60), decide_eq_true (by omega : l.length ≤ 1000)]
  rfl
end Go.Proofs.Ytmmabnoemckdiaa
