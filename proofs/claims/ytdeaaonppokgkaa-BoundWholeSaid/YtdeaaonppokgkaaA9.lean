/- Contracts of small functions: lengths, orders. -/
import Derived.Test.YtdeaaonppokgkaaTi
set_option maxRecDepth 100000
set_option linter.unusedSimpArgs false
set_option linter.unusedVariables false
-- 
namespace Go.Proofs.Ytdeaaonppokgkaa.Pat
open Go.RowKit
structure Pc where
  len : Int
  cnt : Int
instance : Inhabited Pc := ⟨⟨0, 0⟩⟩
def cPc (p : Pc) : List SV := [.v (.int .i64 p.len), .v (.int .i64 p.cnt)]
/-- A row of pieces that is only read. -/
def rPc (l : List Pc) : Ob := ⟨45, true, .row 2 1 (fun _ => l.length) (fun _ => 0) (fun _ k => cPc (ix l k))⟩
attribute [push_cast] rPc cPc
def lenB (n : Int) : Bool := decide (1 ≤ n) && decide (n ≤ 1048576)
theorem length_pu (n : Int) : Pu Try.prog 81 [.v (.int .i64 n)] [] (.v (.bool (lenB n))) := by
  refine pu_of_ex true [] mixed Try.call81 Try.func81 rfl Try.ntmps81 Try.results81 (by decide +kernel) rfl rfl rfl ?_
  simp only [push_cast, ↓branch_true, ↓branch_false, Nat.reduceBEq, Nat.reduceAdd, Nat.reduceMul, Nat.reduceSub, Int.reduceToNat, reduceCtorEq, branch_decide, branch_not, branch_beq, branch_bne]
  unfold lenB
  exact ⟨fun h => by simp [h], fun h => by simp [h]⟩
def badB (p : Pc) : Bool := !lenB p.len || decide (p.cnt < 1) || decide (1000000 < p.cnt)
theorem bad_pu (p : Pc) : Pu Try.prog 80 [.a (cPc p)] [] (.v (.bool (badB p))) := by
  refine pu_of_ex true [] mixed Try.call80 Try.func80 rfl Try.ntmps80 Try.results80 (by decide +kernel) rfl rfl rfl ?_
  simp only [push_cast, ↓branch_true, ↓branch_false, Nat.reduceBEq, Nat.reduceAdd, Nat.reduceMul, Nat.reduceSub, Int.reduceToNat, reduceCtorEq, branch_decide, branch_not, branch_beq, branch_bne]
  refine sp_call (length_pu p.len) rfl [] rfl (by simp only [push_cast, ↓branch_true, ↓branch_false, Nat.reduceBEq, Nat.reduceAdd, Nat.reduceMul, Nat.reduceSub, Int.reduceToNat, reduceCtorEq, branch_decide, branch_not, branch_beq, branch_bne]) (by simp only [push_cast, ↓branch_true, ↓branch_false, Nat.reduceBEq, Nat.reduceAdd, Nat.reduceMul, Nat.reduceSub, Int.reduceToNat, reduceCtorEq, branch_decide, branch_not, branch_beq, branch_bne]) ?_
  simp only [push_cast, ↓branch_true, ↓branch_false, Nat.reduceBEq, Nat.reduceAdd, Nat.reduceMul, Nat.reduceSub, Int.reduceToNat, reduceCtorEq, branch_decide, branch_not, branch_beq, branch_bne]
  simp only [branch, badB]
  refine ⟨fun h => ⟨fun h2 => ?_, fun h2 => ?_⟩, fun h => ?_⟩ <;> simp [*]
/-- The number of the first element with a property. -/
def idxB {α : Type} (p : α → Bool) : List α → Int → Int
  | [], _ => -1
  | x :: l, k => bif p x then k else idxB p l (k + 1)
theorem idxB_snoc {α : Type} (p : α → Bool) (x : α) : ∀ (l : List α) (k : Int), (∀ y ∈ l, p y = false) → idxB p (l ++ [x]) k = bif p x then k + l.length else -1
  | [], k, _ => by simp [idxB]
  | y :: l, k, h => by
    simp only [List.cons_append, idxB, h y (List.mem_cons_self), cond_false]
    rw [idxB_snoc p x l (k + 1) fun z hz => h z (List.mem_cons_of_mem _ hz)]
    simp only [List.length_cons]
    cases p x <;> simp
    omega
theorem idxB_at {α : Type} [Inhabited α] (p : α → Bool) : ∀ (l : List α) (i : Int) (k : Nat), k < l.length → (∀ j, j < k → p (ix l j) = false) → p (ix l k) = true → idxB p l i = i + k
  | [], i, k, hk, _, _ => by simp at hk
  | x :: l, i, 0, _, _, hp => by
    have : p x = true := hp
    simp [idxB, this]
  | x :: l, i, k + 1, hk, hn, hp => by
    have h0 : p x = false := hn 0 (by omega)
    simp only [idxB, h0, cond_false]
    rw [idxB_at p l (i + 1) k (by simpa using hk) (fun j hj => hn (j + 1) (by omega)) hp]
    push_cast
    omega
theorem idxB_none {α : Type} [Inhabited α] (p : α → Bool) : ∀ (l : List α) (i : Int), (∀ j, j < l.length → p (ix l j) = false) → idxB p l i = -1
  | [], i, _ => rfl
  | x :: l, i, hn => by
    have h0 : p x = false := hn 0 (by simp)
    simp only [idxB, h0, cond_false]
    exact idxB_none p l (i + 1) fun j hj => hn (j + 1) (by simpa using hj)
theorem idxB_any {α : Type} (p : α → Bool) : ∀ (l : List α) (i : Int), 0 ≤ i → decide (0 ≤ idxB p l i) = l.any p
  | [], i, _ => rfl
  | x :: l, i, h => by
    have ih := idxB_any p l (i + 1) (by omega)
    simp only [idxB, List.any_cons]
    by_cases hp : p x = true
    · simp [hp, h]
    · have hp : p x = false := by simpa using hp
      simp [hp]
      simpa using ih
theorem indexPc_pu (l : List Pc) (c : Nat) (g : FuncId) (fs cs : List SV) (H : List Ob) (p : Pc → Bool) (hro : roB H = true) (hl : l.length ≤ 9223372036854775807)
    (hp : ∀ x ∈ l, Pu Try.prog g (fs ++ [.a (cPc x)] ++ cs) (rPc l :: H) (.v (.bool (p x)))) : Pu Try.prog 82 [.s 0 0 0 l.length c 2, .f (.func g) fs cs] (rPc l :: H) (.v (.int .i64 (idxB p l 0))) := by
  refine pu_of_ex true [] mixed Try.call82 Try.func82 rfl Try.ntmps82 Try.results82 (by decide +kernel) rfl (by simp [roB, hro, rPc]) rfl ?_
  simp only [push_cast, ↓branch_true, ↓branch_false, Nat.reduceBEq, Nat.reduceAdd, Nat.reduceMul, Nat.reduceSub, Int.reduceToNat, reduceCtorEq, branch_decide, branch_not, branch_beq, branch_bne]
  refine tr_loop0 mixed (by kernel_rfl) (fun (k : Nat) => [(8, .v (.int .i64 k)), (7, .v (.int .i64 l.length)), (0, .s 0 0 0 l.length c 2), (1, .f (.func g) fs cs)]) (fun k => k ≤ l.length ∧ ∀ j, j < k → p (ix l j) = false) (fun k => l.length - k) 0 ⟨Nat.zero_le _, fun j h => by omega⟩ ?_ ?_
  · simp only [push_cast, ↓branch_true, ↓branch_false, Nat.reduceBEq, Nat.reduceAdd, Nat.reduceMul, Nat.reduceSub, Int.reduceToNat, reduceCtorEq, branch_decide, branch_not, branch_beq, branch_bne]
  · rintro k ⟨hk, hn⟩
    simp only [push_cast, ↓branch_true, ↓branch_false, Nat.reduceBEq, Nat.reduceAdd, Nat.reduceMul, Nat.reduceSub, Int.reduceToNat, reduceCtorEq, branch_decide, branch_not, branch_beq, branch_bne]
    refine ⟨fun h1 => ?_, fun h1 => ?_⟩
    · repeat (with_reducible refine And.intro (by omega) ?_)
      have hp1 := hp _ (ix_mem (l := l) (k := k) (by omega))
      refine sp_pu (by simpa only [push_cast] using hp1) ?_
      simp only [push_cast, ↓branch_true, ↓branch_false, Nat.reduceBEq, Nat.reduceAdd, Nat.reduceMul, Nat.reduceSub, Int.reduceToNat, reduceCtorEq, branch_decide, branch_not, branch_beq, branch_bne]
      simp only [branch]
      refine ⟨fun h2 => ?_, fun h2 => ?_⟩
      · rw [idxB_at p l 0 k (by omega) hn h2]; simp
      · repeat (with_reducible refine And.intro (by omega) ?_)
        refine lp0_normal (k + 1) ⟨by omega, fun j hj => ?_⟩ (by omega) ?_
        · by_cases e : j = k
          · rw [e]; exact h2
          · exact hn j (by omega)
        · simp only [push_cast, ↓branch_true, ↓branch_false, Nat.reduceBEq, Nat.reduceAdd, Nat.reduceMul, Nat.reduceSub, Int.reduceToNat, reduceCtorEq, branch_decide, branch_not, branch_beq, branch_bne]
    · rw [idxB_none p l 0 fun j hj => hn j (by omega)]
theorem containsPc_pu (l : List Pc) (c : Nat) (g : FuncId) (fs cs : List SV) (H : List Ob) (p : Pc → Bool) (hro : roB H = true) (hl : l.length ≤ 9223372036854775807)
    (hp : ∀ x ∈ l, Pu Try.prog g (fs ++ [.a (cPc x)] ++ cs) (rPc l :: H) (.v (.bool (p x)))) : Pu Try.prog 55 [.s 0 0 0 l.length c 2, .f (.func g) fs cs] (rPc l :: H) (.v (.bool (l.any p))) := by
  refine pu_of_ex true [] mixed Try.call55 Try.func55 rfl Try.ntmps55 Try.results55 (by decide +kernel) rfl (by simp [roB, hro, rPc]) rfl ?_
  simp only [push_cast, ↓branch_true, ↓branch_false, Nat.reduceBEq, Nat.reduceAdd, Nat.reduceMul, Nat.reduceSub, Int.reduceToNat, reduceCtorEq, branch_decide, branch_not, branch_beq, branch_bne]
  refine sp_pu (indexPc_pu l c g fs cs H p hro hl hp) ?_
  simp only [push_cast, ↓branch_true, ↓branch_false, Nat.reduceBEq, Nat.reduceAdd, Nat.reduceMul, Nat.reduceSub, Int.reduceToNat, reduceCtorEq, branch_decide, branch_not, branch_beq, branch_bne]
  rw [idxB_any p l 0 (Int.le_refl 0)]
def orderB (l : List Pc) : Bool := decide (l.length ≤ 200) && !l.any badB
theorem order_pu (l : List Pc) (c : Nat) (hl : l.length ≤ 9223372036854775807) : Pu Try.prog 54 [.s 0 0 0 l.length c 2] [rPc l] (.v (.bool (orderB l))) := by
  refine pu_of_ex true [] mixed Try.call54 Try.func54 rfl Try.ntmps54 Try.results54 (by decide +kernel) rfl rfl rfl ?_
  simp only [push_cast, ↓branch_true, ↓branch_false, Nat.reduceBEq, Nat.reduceAdd, Nat.reduceMul, Nat.reduceSub, Int.reduceToNat, reduceCtorEq, branch_decide, branch_not, branch_beq, branch_bne]
  unfold orderB
  refine ⟨fun h1 => ?_, fun h1 => ?_⟩
  · refine sp_pu (containsPc_pu l c 80 [] [] [] badB rfl hl fun x _ => ?_) ?_
    · refine pu_at (bad_pu x) rfl [] rfl ?_ ?_ <;> (simp only [push_cast, ↓branch_true, ↓branch_false, Nat.reduceBEq, Nat.reduceAdd, Nat.reduceMul, Nat.reduceSub, Int.reduceToNat, reduceCtorEq, branch_decide, branch_not, branch_beq, branch_bne])
    · simp only [push_cast, ↓branch_true, ↓branch_false, Nat.reduceBEq, Nat.reduceAdd, Nat.reduceMul, Nat.reduceSub, Int.reduceToNat, reduceCtorEq, branch_decide, branch_not, branch_beq, branch_bne]
      have : l.length ≤ 200 := by omega
      simp [this]
  · have : ¬ l.length ≤ 200 := by omega
    simp [this]
/-- What is wrong with a length, an order and a number: 0 for nothing. -/
def givenE (length : Int) (l : List Pc) (n : Int) : Int := if orderB l = false then 1 else if length < 1 ∨ 1048576 < length then 2 else if n = l.length then 0 else 3
theorem given_pu (length n : Int) (l : List Pc) (c : Nat) (hl : l.length ≤ 9223372036854775807) : Pu Try.prog 58 [.v (.int .i64 length), .s 0 0 0 l.length c 2, .v (.int .i64 n)] [rPc l] (.v (.int .i64 (givenE length l n))) := by
  refine pu_of_ex true [] mixed Try.call58 Try.func58 rfl Try.ntmps58 Try.results58 (by decide +kernel) rfl rfl rfl ?_
  simp only [push_cast, ↓branch_true, ↓branch_false, Nat.reduceBEq, Nat.reduceAdd, Nat.reduceMul, Nat.reduceSub, Int.reduceToNat, reduceCtorEq, branch_decide, branch_not, branch_beq, branch_bne]
  refine sp_call (order_pu l c hl) rfl [0] rfl (by simp only [push_cast, ↓branch_true, ↓branch_false, Nat.reduceBEq, Nat.reduceAdd, Nat.reduceMul, Nat.reduceSub, Int.reduceToNat, reduceCtorEq, branch_decide, branch_not, branch_beq, branch_bne]) (by simp only [push_cast, ↓branch_true, ↓branch_false, Nat.reduceBEq, Nat.reduceAdd, Nat.reduceMul, Nat.reduceSub, Int.reduceToNat, reduceCtorEq, branch_decide, branch_not, branch_beq, branch_bne]) ?_
  simp only [push_cast, ↓branch_true, ↓branch_false, Nat.reduceBEq, Nat.reduceAdd, Nat.reduceMul, Nat.reduceSub, Int.reduceToNat, reduceCtorEq, branch_decide, branch_not, branch_beq, branch_bne]
  simp only [branch, givenE]
  repeat' (with_reducible (first | apply And.intro | intro _))
  all_goals simp [*]
/-- What is left of a length behind a pattern's numbers, if it fits. -/
def leftO : Int → List Pc → List Int → Option Int
  | length, p :: l, n :: ns => if n < 0 ∨ p.cnt < n ∨ length / p.len < n then none else leftO (length - n * p.len) l ns
  | length, _, _ => some length
theorem leftO_step {length : Int} {l : List Pc} {ns : List Int} {k : Nat} (h1 : k < l.length) (h2 : k < ns.length) : leftO length (l.drop k) (ns.drop k) = if ix ns k < 0 ∨ (ix l k).cnt < ix ns k ∨ length / (ix l k).len < ix ns k then none else leftO (length - ix ns k * (ix l k).len) (l.drop (k + 1)) (ns.drop (k + 1)) := by
  rw [drop_ix h1, drop_ix h2, leftO]
theorem order_at {l : List Pc} (h : orderB l = true) {k : Nat} (hk : k < l.length) : 1 ≤ (ix l k).len ∧ (ix l k).len ≤ 1048576 ∧ 1 ≤ (ix l k).cnt ∧ (ix l k).cnt ≤ 1000000 := by
  simp only [orderB, Bool.and_eq_true, Bool.not_eq_true', List.any_eq_false] at h
  have := h.2 _ (ix_mem hk)
  simp only [badB, lenB, Bool.or_eq_true, Bool.not_eq_true', Bool.and_eq_false_iff, decide_eq_true_eq, decide_eq_false_iff_not] at this
  omega
theorem left_pu (length : Int) (l : List Pc) (ns : List Int) (c c2 : Nat) (h0 : 0 ≤ length) (h1 : length ≤ 1048576) (ho : orderB l = true) (he : ns.length = l.length) :
    Pu Try.prog 79 [.v (.int .i64 length), .s 0 0 0 l.length c 2, .s 1 0 0 ns.length c2 1] [rPc l, rInt 3 ns] (.t [.v (.int .i64 ((leftO length l ns).getD 0)), .v (.bool (leftO length l ns).isSome)]) := by
  have hl : l.length ≤ 200 := by
    simp only [orderB, Bool.and_eq_true, decide_eq_true_eq] at ho
    exact ho.1
  refine pu_of_ex true [] mixed Try.call79 Try.func79 rfl Try.ntmps79 Try.results79 (by decide +kernel) rfl rfl rfl ?_
  simp only [push_cast, ↓branch_true, ↓branch_false, Nat.reduceBEq, Nat.reduceAdd, Nat.reduceMul, Nat.reduceSub, Int.reduceToNat, reduceCtorEq, branch_decide, branch_not, branch_beq, branch_bne]
  refine tr_loop0 mixed (by kernel_rfl) (fun (x : Nat × Int) => [(12, .v (.int .i64 x.1)), (0, .v (.int .i64 x.2)), (11, .v (.int .i64 ns.length)), (10, .s 1 0 0 ns.length c2 1), (1, .s 0 0 0 l.length c 2)]) (fun x => x.1 ≤ ns.length ∧ 0 ≤ x.2 ∧ x.2 ≤ 1048576 ∧ leftO length l ns = leftO x.2 (l.drop x.1) (ns.drop x.1)) (fun x => ns.length - x.1) (0, length) ⟨Nat.zero_le _, h0, h1, by simp⟩ ?_ ?_
  · simp only [push_cast, ↓branch_true, ↓branch_false, Nat.reduceBEq, Nat.reduceAdd, Nat.reduceMul, Nat.reduceSub, Int.reduceToNat, reduceCtorEq, branch_decide, branch_not, branch_beq, branch_bne]
  · rintro ⟨k, m⟩ ⟨hk, hm0, hm1, hr⟩
    simp only [push_cast, ↓branch_true, ↓branch_false, Nat.reduceBEq, Nat.reduceAdd, Nat.reduceMul, Nat.reduceSub, Int.reduceToNat, reduceCtorEq, branch_decide, branch_not, branch_beq, branch_bne]
    refine ⟨fun h1 => ?_, fun h1 => ?_⟩
    · repeat (with_reducible refine And.intro (by omega) ?_)
      have hst := leftO_step (length := m) (l := l) (ns := ns) (k := k) (by omega) (by omega)
      have hat := order_at ho (k := k) (by omega)
      simp only at hk hm0 hm1 hr
      rw [hst] at hr
      simp only [Int.tdiv_eq_ediv_of_nonneg hm0]
      have hq : 0 ≤ m / (ix l k).len ∧ m / (ix l k).len ≤ m := ⟨Int.ediv_nonneg hm0 (by omega), Int.ediv_le_self _ hm0⟩
      refine ⟨fun h2 => ?_, fun h2 => ?_⟩
      · rw [hr, if_pos (.inl h2)]; rfl
      · repeat (with_reducible refine And.intro (by omega) ?_)
        refine ⟨fun h3 => ?_, fun h3 => ?_⟩
        · rw [hr, if_pos (.inr (.inl h3))]; rfl
        · repeat (with_reducible refine And.intro (by omega) ?_)
          refine ⟨fun h4 => ?_, fun h4 => ?_⟩
          · rw [hr, if_pos (.inr (.inr h4))]; rfl
          · have hm : ix ns k * (ix l k).len ≤ m := by
              have h5 : ix ns k ≤ m / (ix l k).len := by omega
              have := Int.mul_le_of_le_ediv (by omega) h5
              omega
            have hz : 0 ≤ ix ns k * (ix l k).len := Int.mul_nonneg (by omega) (by omega)
            repeat (with_reducible refine And.intro (by omega) ?_)
            refine lp0_normal (k + 1, m - ix ns k * (ix l k).len) ⟨by simp only; omega, by simp only; omega, by simp only; omega, ?_⟩ (by simp only; omega) ?_
            · rw [hr, if_neg (by omega)]
            · simp only [push_cast, ↓branch_true, ↓branch_false, Nat.reduceBEq, Nat.reduceAdd, Nat.reduceMul, Nat.reduceSub, Int.reduceToNat, reduceCtorEq, branch_decide, branch_not, branch_beq, branch_bne]
    · have e : k = ns.length := by simp only at hk; omega
      subst e
      simp only [List.drop_length, he, leftO] at hr
      rw [hr]
      rfl
end Go.Proofs.Ytdeaaonppokgkaa.Pat
