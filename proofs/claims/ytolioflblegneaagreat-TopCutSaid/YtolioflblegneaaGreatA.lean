/- Contracts of small functions: lengths, orders. Contracts: bits.Mul, slices.Repeat, List. Contracts: List, Valid of stock. -/
import Derived.Test.YtolioflblegneaaGreatIn
import Derived.Test.YtolioflblegneaaGreatTi
set_option maxRecDepth 100000
set_option linter.unusedSimpArgs false
set_option linter.unusedVariables false
namespace Go.Proofs.YtolioflblegneaaGreat
open Go.RowKit
structure Pc where
  len : Int
  cnt : Int
instance : Inhabited Pc := ⟨⟨0, 0⟩⟩
def cPc (p : Pc) : List SV := [.v (.int .i64 p.len), .v (.int .i64 p.cnt)]
/-- A row of pieces that is only read. -/
def rPc (l : List Pc) : Ob := ⟨56, true, .row 2 1 (fun _ => l.length) (fun _ => 0) (fun _ k => cPc (ix l k))⟩
attribute [push_cast] rPc cPc
def lenB (n : Int) : Bool := decide (1 ≤ n) && decide (n ≤ 1048576)
theorem length_pu (n : Int) : Pu Tryz.prog 78 [.v (.int .i64 n)] [] (.v (.bool (lenB n))) := by
  refine pu_of_ex true [] mixed Tryz.call78 Tryz.func78 rfl Tryz.ntmps78 Tryz.results78 (by decide +kernel) rfl rfl rfl ?_
  refine sxo ?_
  try with_reducible exact trivial
  unfold lenB
  exact ⟨fun h => by simp [h], fun h => by simp [h]⟩
def badB (p : Pc) : Bool := !lenB p.len || decide (p.cnt < 1) || decide (1000000 < p.cnt)
theorem bad_pu (p : Pc) : Pu Tryz.prog 79 [.a (cPc p)] [] (.v (.bool (badB p))) := by
  refine pu_of_ex true [] mixed Tryz.call79 Tryz.func79 rfl Tryz.ntmps79 Tryz.results79 (by decide +kernel) rfl rfl rfl ?_
  refine sxo ?_
  try with_reducible exact trivial
  refine sp_call (length_pu p.len) rfl [] rfl (by simp only [push_cast, ↓branch_true, ↓branch_false, Nat.reduceBEq, Nat.reduceAdd, Nat.reduceMul, Nat.reduceSub, Int.reduceToNat, reduceCtorEq, branch_decide, branch_not, branch_beq, branch_bne]) (by simp only [push_cast, ↓branch_true, ↓branch_false, Nat.reduceBEq, Nat.reduceAdd, Nat.reduceMul, Nat.reduceSub, Int.reduceToNat, reduceCtorEq, branch_decide, branch_not, branch_beq, branch_bne]) ?_
  refine sxo ?_
  try with_reducible exact trivial
  simp only [branch, badB]
  refine ⟨fun h => ⟨fun h2 => ?_, fun h2 => ?_⟩, fun h => ?_⟩ <;> simp [*]
/-- The number of the first element with a property. -/
def idxB {α : Type} (p : α → Bool) : List α → Int → Int
  | [], _ => -1
  | x :: l, k => bif p x then k else idxB p l (k + 1)
theorem idxB_at {α : Type} [Inhabited α] (p : α → Bool) : ∀ (l : List α) (i : Int) (k : Nat), k < l.length → (∀ j, j < k → p (ix l j) = false) → p (ix l k) = true → idxB p l i = i + k
  | [], i, k, hk, _, _ => by simp at hk
  | x :: l, i, 0, _, _, hp => by
    have : p x = true := hp
    simp [idxB, this]
  | x :: l, i, k + 1, hk, hn, hp => by
    have h0 : p x = false := hn 0 (by omega)
    simp only [idxB, h0, cond_false]
    rw [idxB_at p l (i + 1) k (by simpa using hk) (fun j hj => hn (j + 1) (by omega)) hp]
    push_cast
    omega
theorem idxB_none {α : Type} [Inhabited α] (p : α → Bool) : ∀ (l : List α) (i : Int), (∀ j, j < l.length → p (ix l j) = false) → idxB p l i = -1
  | [], i, _ => rfl
  | x :: l, i, hn => by
    have h0 : p x = false := hn 0 (by simp)
    simp only [idxB, h0, cond_false]
    exact idxB_none p l (i + 1) fun j hj => hn (j + 1) (by simpa using hj)
theorem idxB_any {α : Type} (p : α → Bool) : ∀ (l : List α) (i : Int), 0 ≤ i → decide (0 ≤ idxB p l i) = l.any p
  | [], i, _ => rfl
  | x :: l, i, h => by
    have ih := idxB_any p l (i + 1) (by omega)
    simp only [idxB, List.any_cons]
    by_cases hp : p x = true
    · simp [hp, h]
    · have hp : p x = false := by simpa using hp
      simp [hp]
      simpa using ih
theorem indexPc_pu (l : List Pc) (c : Nat) (g : FuncId) (fs cs : List SV) (H : List Ob) (p : Pc → Bool) (hro : roB H = true) (hl : l.length ≤ 9223372036854775807)
    (hp : ∀ x ∈ l, Pu Tryz.prog g (fs ++ [.a (cPc x)] ++ cs) (rPc l :: H) (.v (.bool (p x)))) : Pu Tryz.prog 69 [.s 0 0 0 l.length c 2, .f (.func g) fs cs] (rPc l :: H) (.v (.int .i64 (idxB p l 0))) := by
  refine pu_of_ex true [] mixed Tryz.call69 Tryz.func69 rfl Tryz.ntmps69 Tryz.results69 (by decide +kernel) rfl (by simp [roB, hro, rPc]) rfl ?_
  refine sxo ?_
  try with_reducible exact trivial
  refine tr_loop0 mixed (by kernel_rfl) (fun (k : Nat) => [(8, .v (.int .i64 k)), (7, .v (.int .i64 l.length)), (0, .s 0 0 0 l.length c 2), (1, .f (.func g) fs cs)]) (fun k => k ≤ l.length ∧ ∀ j, j < k → p (ix l j) = false) (fun k => l.length - k) 0 ⟨Nat.zero_le _, fun j h => by omega⟩ ?_ ?_
  · refine sxo ?_
    try with_reducible exact trivial
  · rintro k ⟨hk, hn⟩
    refine sxo ?_
    try with_reducible exact trivial
    refine ⟨fun h1 => ?_, fun h1 => ?_⟩
    · repeat (with_reducible refine And.intro (by omega) ?_)
      have hp1 := hp _ (ix_mem (l := l) (k := k) (by omega))
      refine sp_pu (by simpa only [push_cast] using hp1) ?_
      refine sxo ?_
      try with_reducible exact trivial
      simp only [branch]
      refine ⟨fun h2 => ?_, fun h2 => ?_⟩
      · rw [idxB_at p l 0 k (by omega) hn h2]; simp
      · repeat (with_reducible refine And.intro (by omega) ?_)
        refine lp0_normal (k + 1) ⟨by omega, fun j hj => ?_⟩ (by omega) ?_
        · by_cases e : j = k
          · rw [e]; exact h2
          · exact hn j (by omega)
        · refine sxo ?_
          try with_reducible exact trivial
    · rw [idxB_none p l 0 fun j hj => hn j (by omega)]
theorem containsPc_pu (l : List Pc) (c : Nat) (g : FuncId) (fs cs : List SV) (H : List Ob) (p : Pc → Bool) (hro : roB H = true) (hl : l.length ≤ 9223372036854775807)
    (hp : ∀ x ∈ l, Pu Tryz.prog g (fs ++ [.a (cPc x)] ++ cs) (rPc l :: H) (.v (.bool (p x)))) : Pu Tryz.prog 29 [.s 0 0 0 l.length c 2, .f (.func g) fs cs] (rPc l :: H) (.v (.bool (l.any p))) := by
  refine pu_of_ex true [] mixed Tryz.call29 Tryz.func29 rfl Tryz.ntmps29 Tryz.results29 (by decide +kernel) rfl (by simp [roB, hro, rPc]) rfl ?_
  refine sxo ?_
  try with_reducible exact trivial
  refine sp_pu (indexPc_pu l c g fs cs H p hro hl hp) ?_
  refine sxo ?_
  try with_reducible exact trivial
  rw [idxB_any p l 0 (Int.le_refl 0)]
def orderB (l : List Pc) : Bool := decide (l.length ≤ 200) && !l.any badB
theorem order_pu (l : List Pc) (c : Nat) (hl : l.length ≤ 9223372036854775807) : Pu Tryz.prog 37 [.s 0 0 0 l.length c 2] [rPc l] (.v (.bool (orderB l))) := by
  refine pu_of_ex true [] mixed Tryz.call37 Tryz.func37 rfl Tryz.ntmps37 Tryz.results37 (by decide +kernel) rfl rfl rfl ?_
  refine sxo ?_
  try with_reducible exact trivial
  unfold orderB
  refine ⟨fun h1 => ?_, fun h1 => ?_⟩
  · refine sp_pu (containsPc_pu l c 79 [] [] [] badB rfl hl fun x _ => ?_) ?_
    · refine pu_at (bad_pu x) rfl [] rfl ?_ ?_ <;> (simp only [push_cast, ↓branch_true, ↓branch_false, Nat.reduceBEq, Nat.reduceAdd, Nat.reduceMul, Nat.reduceSub, Int.reduceToNat, reduceCtorEq, branch_decide, branch_not, branch_beq, branch_bne])
    · refine sxo ?_
      try with_reducible exact trivial
      have : l.length ≤ 200 := by omega
      simp [this]
  · have : ¬ l.length ≤ 200 := by omega
    simp [this]
/-- What is wrong with a length, an order and a number: 0 for nothing. -/
def givenE (length : Int) (l : List Pc) (n : Int) : Int := if orderB l = false then 1 else if length < 1 ∨ 1048576 < length then 2 else if n = l.length then 0 else 3
theorem given_pu (length n : Int) (l : List Pc) (c : Nat) (hl : l.length ≤ 9223372036854775807) : Pu Tryz.prog 125 [.v (.int .i64 length), .s 0 0 0 l.length c 2, .v (.int .i64 n)] [rPc l] (.v (.int .i64 (givenE length l n))) := by
  refine pu_of_ex true [] mixed Tryz.call125 Tryz.func125 rfl Tryz.ntmps125 Tryz.results125 (by decide +kernel) rfl rfl rfl ?_
  refine sxo ?_
  try with_reducible exact trivial
  refine sp_call (order_pu l c hl) rfl [0] rfl (by simp only [push_cast, ↓branch_true, ↓branch_false, Nat.reduceBEq, Nat.reduceAdd, Nat.reduceMul, Nat.reduceSub, Int.reduceToNat, reduceCtorEq, branch_decide, branch_not, branch_beq, branch_bne]) (by simp only [push_cast, ↓branch_true, ↓branch_false, Nat.reduceBEq, Nat.reduceAdd, Nat.reduceMul, Nat.reduceSub, Int.reduceToNat, reduceCtorEq, branch_decide, branch_not, branch_beq, branch_bne]) ?_
  refine sxo ?_
  try with_reducible exact trivial
  simp only [branch, givenE]
  repeat' (with_reducible (first | apply And.intro | intro _))
  all_goals simp [*]
/-- What is left of a length behind a pattern's numbers, if it fits. -/
def leftO : Int → List Pc → List Int → Option Int
  | length, p :: l, n :: ns => if n < 0 ∨ p.cnt < n ∨ length / p.len < n then none else leftO (length - n * p.len) l ns
  | length, _, _ => some length
theorem leftO_step {length : Int} {l : List Pc} {ns : List Int} {k : Nat} (h1 : k < l.length) (h2 : k < ns.length) : leftO length (l.drop k) (ns.drop k) = if ix ns k < 0 ∨ (ix l k).cnt < ix ns k ∨ length / (ix l k).len < ix ns k then none else leftO (length - ix ns k * (ix l k).len) (l.drop (k + 1)) (ns.drop (k + 1)) := by
  rw [drop_ix h1, drop_ix h2, leftO]
theorem order_at {l : List Pc} (h : orderB l = true) {k : Nat} (hk : k < l.length) : 1 ≤ (ix l k).len ∧ (ix l k).len ≤ 1048576 ∧ 1 ≤ (ix l k).cnt ∧ (ix l k).cnt ≤ 1000000 := by
  simp only [orderB, Bool.and_eq_true, Bool.not_eq_true', List.any_eq_false] at h
  have := h.2 _ (ix_mem hk)
  simp only [badB, lenB, Bool.or_eq_true, Bool.not_eq_true', Bool.and_eq_false_iff, decide_eq_true_eq, decide_eq_false_iff_not] at this
  omega
theorem left_pu (length : Int) (l : List Pc) (ns : List Int) (c c2 : Nat) (h0 : 0 ≤ length) (h1 : length ≤ 1048576) (ho : orderB l = true) (he : ns.length = l.length) :
    Pu Tryz.prog 126 [.v (.int .i64 length), .s 0 0 0 l.length c 2, .s 1 0 0 ns.length c2 1] [rPc l, rInt 3 ns] (.t [.v (.int .i64 ((leftO length l ns).getD 0)), .v (.bool (leftO length l ns).isSome)]) := by
  have hl : l.length ≤ 200 := by
    simp only [orderB, Bool.and_eq_true, decide_eq_true_eq] at ho
    exact ho.1
  refine pu_of_ex true [] mixed Tryz.call126 Tryz.func126 rfl Tryz.ntmps126 Tryz.results126 (by decide +kernel) rfl rfl rfl ?_
  refine sxo ?_
  try with_reducible exact trivial
  refine tr_loop0 mixed (by kernel_rfl) (fun (x : Nat × Int) => [(12, .v (.int .i64 x.1)), (0, .v (.int .i64 x.2)), (11, .v (.int .i64 ns.length)), (10, .s 1 0 0 ns.length c2 1), (1, .s 0 0 0 l.length c 2)]) (fun x => x.1 ≤ ns.length ∧ 0 ≤ x.2 ∧ x.2 ≤ 1048576 ∧ leftO length l ns = leftO x.2 (l.drop x.1) (ns.drop x.1)) (fun x => ns.length - x.1) (0, length) ⟨Nat.zero_le _, h0, h1, by simp⟩ ?_ ?_
  · refine sxo ?_
    try with_reducible exact trivial
  · rintro ⟨k, m⟩ ⟨hk, hm0, hm1, hr⟩
    refine sxo ?_
    try with_reducible exact trivial
    refine ⟨fun h1 => ?_, fun h1 => ?_⟩
    · repeat (with_reducible refine And.intro (by omega) ?_)
      have hst := leftO_step (length := m) (l := l) (ns := ns) (k := k) (by omega) (by omega)
      have hat := order_at ho (k := k) (by omega)
      simp only at hk hm0 hm1 hr
      rw [hst] at hr
      simp only [Int.tdiv_eq_ediv_of_nonneg hm0]
      have hq : 0 ≤ m / (ix l k).len ∧ m / (ix l k).len ≤ m := ⟨Int.ediv_nonneg hm0 (by omega), Int.ediv_le_self _ hm0⟩
      refine ⟨fun h2 => ?_, fun h2 => ?_⟩
      · rw [hr, if_pos (.inl h2)]; rfl
      · repeat (with_reducible refine And.intro (by omega) ?_)
        refine ⟨fun h3 => ?_, fun h3 => ?_⟩
        · rw [hr, if_pos (.inr (.inl h3))]; rfl
        · repeat (with_reducible refine And.intro (by omega) ?_)
          refine ⟨fun h4 => ?_, fun h4 => ?_⟩
          · rw [hr, if_pos (.inr (.inr h4))]; rfl
          · have hm : ix ns k * (ix l k).len ≤ m := by
              have h5 : ix ns k ≤ m / (ix l k).len := by omega
              have := Int.mul_le_of_le_ediv (by omega) h5
              omega
            have hz : 0 ≤ ix ns k * (ix l k).len := Int.mul_nonneg (by omega) (by omega)
            repeat (with_reducible refine And.intro (by omega) ?_)
            refine lp0_normal (k + 1, m - ix ns k * (ix l k).len) ⟨by simp only; omega, by simp only; omega, by simp only; omega, ?_⟩ (by simp only; omega) ?_
            · rw [hr, if_neg (by omega)]
            · refine sxo ?_
              try with_reducible exact trivial
    · have e : k = ns.length := by simp only at hk; omega
      subst e
      simp only [List.drop_length, he, leftO] at hr
      rw [hr]
      rfl
theorem order_len {l : List Pc} (h : orderB l = true) : l.length ≤ 200 := by
  simp only [orderB, Bool.and_eq_true, decide_eq_true_eq] at h
  exact h.1
theorem between_pu (n lo hi : Int) : Pu Tryz.prog 35 [.v (.int .i64 n), .v (.int .i64 lo), .v (.int .i64 hi)] [] (.v (.bool (decide (lo ≤ n) && decide (n ≤ hi)))) := by
  refine pu_of_ex true [] mixed Tryz.call35 Tryz.func35 rfl Tryz.ntmps35 Tryz.results35 (by decide +kernel) rfl rfl rfl ?_
  refine sxo ?_
  try with_reducible exact trivial
  repeat' (with_reducible (first | apply And.intro | intro _))
  all_goals simp [*]
theorem rorder_pu (l : List Pc) (c : Nat) (hl : l.length ≤ 9223372036854775806) : Pu Tryz.prog 7 [.s 0 0 0 l.length c 2] [rPc l] (.v (.bool (orderB l))) := by
  refine pu_of_ex true [] mixed Tryz.call7 Tryz.func7 rfl Tryz.ntmps7 Tryz.results7 (by decide +kernel) rfl rfl rfl ?_
  refine sxo ?_
  try with_reducible exact trivial
  refine ⟨fun h0 => ?_, fun h0 => ?_⟩
  · have : ¬ l.length ≤ 200 := by omega
    simp [orderB, this]
  · refine tr_loop0 mixed (by kernel_rfl) (fun (k : Nat) => [(3, .v (.int .i64 k)), (0, .s 0 0 0 l.length c 2)]) (fun k => k ≤ l.length ∧ l.any badB = (l.drop k).any badB) (fun k => l.length - k) 0 ⟨Nat.zero_le _, by simp⟩ ?_ ?_
    · refine sxo ?_
      try with_reducible exact trivial
    · rintro k ⟨hk, hr⟩
      refine sxo ?_
      try with_reducible exact trivial
      have h200 : l.length ≤ 200 := by omega
      refine ⟨fun h1 => ?_, fun h1 => ?_⟩
      · repeat (with_reducible refine And.intro (by omega) ?_)
        rw [drop_ix (by omega), List.any_cons] at hr
        refine sp_call (between_pu (ix l k).len 1 1048576) rfl [] rfl (by simp only [push_cast, ↓branch_true, ↓branch_false, Nat.reduceBEq, Nat.reduceAdd, Nat.reduceMul, Nat.reduceSub, Int.reduceToNat, reduceCtorEq, branch_decide, branch_not, branch_beq, branch_bne]) (by simp only [push_cast, ↓branch_true, ↓branch_false, Nat.reduceBEq, Nat.reduceAdd, Nat.reduceMul, Nat.reduceSub, Int.reduceToNat, reduceCtorEq, branch_decide, branch_not, branch_beq, branch_bne]) ?_
        refine sxo ?_
        try with_reducible exact trivial
        simp only [branch]
        refine ⟨fun h2 => ?_, fun h2 => ?_⟩
        · repeat (with_reducible refine And.intro (by omega) ?_)
          refine sp_call (between_pu (ix l k).cnt 1 1000000) rfl [] rfl (by simp only [push_cast, ↓branch_true, ↓branch_false, Nat.reduceBEq, Nat.reduceAdd, Nat.reduceMul, Nat.reduceSub, Int.reduceToNat, reduceCtorEq, branch_decide, branch_not, branch_beq, branch_bne]) (by simp only [push_cast, ↓branch_true, ↓branch_false, Nat.reduceBEq, Nat.reduceAdd, Nat.reduceMul, Nat.reduceSub, Int.reduceToNat, reduceCtorEq, branch_decide, branch_not, branch_beq, branch_bne]) ?_
          refine sxo ?_
          try with_reducible exact trivial
          simp only [branch]
          refine ⟨fun h3 => ?_, fun h3 => ?_⟩
          · repeat (with_reducible refine And.intro (by omega) ?_)
            have hb : badB (ix l k) = false := by
              simp only [Bool.and_eq_true, decide_eq_true_eq] at h2 h3
              simp [badB, lenB]
              omega
            refine lp0_normal (k + 1) ⟨by omega, by rw [hr, hb, Bool.false_or]⟩ (by omega) ?_
            refine sxo ?_
            try with_reducible exact trivial
          · have hb : badB (ix l k) = true := by
              simp only [Bool.and_eq_true, decide_eq_true_eq, Bool.and_eq_false_iff, decide_eq_false_iff_not] at h2 h3
              simp [badB, lenB]
              omega
            simp [orderB, hr, hb]
        · have hb : badB (ix l k) = true := by
            simp only [Bool.and_eq_false_iff, decide_eq_false_iff_not] at h2
            simp [badB, lenB]
            omega
          simp [orderB, hr, hb]
      · have e : k = l.length := by omega
        subst e
        simp [orderB, hr, h200]
theorem given_0 {length n : Int} {l : List Pc} (h : givenE length l n = 0) : orderB l = true ∧ 1 ≤ length ∧ length ≤ 1048576 ∧ n = l.length := by
  unfold givenE at h
  split at h
  · omega
  · split at h
    · omega
    · split at h
      · rename_i h1 h2 h3
        exact ⟨by simpa using h1, by omega, by omega, h3⟩
      · omega
def validV (length : Int) (l : List Pc) (ns : List Int) : SV := .t [.v (.bool (decide (givenE length l ns.length = 0) && (leftO length l ns).isSome)), .v (.int .i64 (givenE length l ns.length))]
theorem valid_pu (length : Int) (l : List Pc) (ns : List Int) (c c2 : Nat) (hl : l.length ≤ 9223372036854775806) : Pu Tryz.prog 90 [.v (.int .i64 length), .s 0 0 0 l.length c 2, .s 1 0 0 ns.length c2 1] [rPc l, rInt 3 ns] (validV length l ns) := by
  unfold validV
  refine pu_of_ex true [] mixed Tryz.call90 Tryz.func90 rfl Tryz.ntmps90 Tryz.results90 (by decide +kernel) rfl rfl rfl ?_
  refine sxo ?_
  try with_reducible exact trivial
  refine sp_call (given_pu length ns.length l c (by omega)) rfl [0] rfl (by simp only [push_cast, ↓branch_true, ↓branch_false, Nat.reduceBEq, Nat.reduceAdd, Nat.reduceMul, Nat.reduceSub, Int.reduceToNat, reduceCtorEq, branch_decide, branch_not, branch_beq, branch_bne]) (by simp only [push_cast, ↓branch_true, ↓branch_false, Nat.reduceBEq, Nat.reduceAdd, Nat.reduceMul, Nat.reduceSub, Int.reduceToNat, reduceCtorEq, branch_decide, branch_not, branch_beq, branch_bne]) ?_
  refine sxo ?_
  try with_reducible exact trivial
  refine ⟨fun h => ?_, fun h => ?_⟩
  · obtain ⟨h1, h2, h3, h4⟩ := given_0 h
    refine sp_call (left_pu length l ns c c2 (by omega) h3 h1 (by omega)) rfl [0, 1] rfl (by simp only [push_cast, ↓branch_true, ↓branch_false, Nat.reduceBEq, Nat.reduceAdd, Nat.reduceMul, Nat.reduceSub, Int.reduceToNat, reduceCtorEq, branch_decide, branch_not, branch_beq, branch_bne]) (by simp only [push_cast, ↓branch_true, ↓branch_false, Nat.reduceBEq, Nat.reduceAdd, Nat.reduceMul, Nat.reduceSub, Int.reduceToNat, reduceCtorEq, branch_decide, branch_not, branch_beq, branch_bne]) ?_
    refine sxo ?_
    try with_reducible exact trivial
    simp [h]
  · simp [h]
end Go.Proofs.YtolioflblegneaaGreat
namespace Go.Proofs.YtolioflblegneaaGreat
open Go.RowKit
theorem and32 {y : Int} (h0 : 0 ≤ y) (h1 : y ≤ 4294967295) : (BitVec.ofInt 64 y &&& BitVec.ofInt 64 4294967295).toNat = y.toNat := by
  obtain ⟨n, rfl⟩ : ∃ n : Nat, y = n := ⟨y.toNat, by omega⟩
  rw [BitVec.toNat_and]
  simp only [BitVec.toNat_ofInt]
  have e1 : ((n : Int) % ((2 ^ 64 : Nat) : Int)).toNat = n := by omega
  have e2 : ((4294967295 : Int) % ((2 ^ 64 : Nat) : Int)).toNat = 2 ^ 32 - 1 := by decide
  rw [e1, e2, Nat.and_two_pow_sub_one_eq_mod, Nat.mod_eq_of_lt (by omega)]
  rfl
set_option maxHeartbeats 1000000 in
theorem mul64_pu (y : Int) (h0 : 0 ≤ y) (h1 : y ≤ 4294967295) : Pu Tryz.prog 169 [.v (.int .u64 1), .v (.int .u64 y)] [] (.t [.v (.int .u64 0), .v (.int .u64 y)]) := by
  have hb : IntKind.u64.bits = 64 := rfl
  have hw : ∀ z : Int, 0 ≤ z → z ≤ 4294967295 → IntKind.u64.wrap z = z := fun z z0 z1 => by
    refine wrap_inr ?_
    exact ⟨z0, by omega⟩
  have e1 : IntKind.u64.wrap ((BitVec.ofInt IntKind.u64.bits 1 &&& BitVec.ofInt IntKind.u64.bits 4294967295).toNat : Int) = 1 := by decide +kernel
  have e2 : ∀ z : Int, 0 ≤ z → z ≤ 4294967295 → IntKind.u64.wrap ((BitVec.ofInt IntKind.u64.bits z &&& BitVec.ofInt IntKind.u64.bits 4294967295).toNat : Int) = z := fun z z0 z1 => by
    rw [hb, and32 z0 z1, Int.toNat_of_nonneg z0, hw z z0 z1]
  have e3 : Int.fdiv 1 (2 ^ min 32 IntKind.u64.bits) = 0 := by decide +kernel
  have e4 : y.fdiv (2 ^ min 32 IntKind.u64.bits) = 0 := by
    rw [hb]
    show y.fdiv 4294967296 = 0
    rw [Int.fdiv_eq_ediv_of_nonneg _ (by decide)]
    omega
  have e5 : Int.fdiv 0 (2 ^ min 32 IntKind.u64.bits) = 0 := by decide +kernel
  refine pu_of_ex true [] mixed Tryz.call169 Tryz.func169 rfl Tryz.ntmps169 Tryz.results169 (by decide +kernel) rfl rfl rfl ?_
  refine sxo ?_
  try with_reducible exact trivial
  simp only [e1, e2 y h0 h1, e3, e4, e5, Int.one_mul, Int.zero_mul, Int.zero_add, Int.add_zero, Int.mul_zero, e2 0 (by decide) (by decide)]
  repeat' (first | apply And.intro | trivial | omega)
theorem mul_pu (y : Int) (h0 : 0 ≤ y) (h1 : y ≤ 4294967295) : Pu Tryz.prog 122 [.v (.int .u64 1), .v (.int .u64 y)] [] (.t [.v (.int .u64 0), .v (.int .u64 y)]) := by
  refine pu_of_ex true [] mixed Tryz.call122 Tryz.func122 rfl Tryz.ntmps122 Tryz.results122 (by decide +kernel) rfl rfl rfl ?_
  refine sxo ?_
  try with_reducible exact trivial
  refine sp_call (mul64_pu y h0 h1) rfl [] rfl (by simp only [push_cast, ↓branch_true, ↓branch_false, Nat.reduceBEq, Nat.reduceAdd, Nat.reduceMul, Nat.reduceSub, Int.reduceToNat, reduceCtorEq, branch_decide, branch_not, branch_beq, branch_bne]) (by simp only [push_cast, ↓branch_true, ↓branch_false, Nat.reduceBEq, Nat.reduceAdd, Nat.reduceMul, Nat.reduceSub, Int.reduceToNat, reduceCtorEq, branch_decide, branch_not, branch_beq, branch_bne]) ?_
  refine sxo ?_
  try with_reducible exact trivial
theorem src_ints (f : Nat → Int) (n : Nat) : srcOk (fun k => [.v (.int .i64 (f k))]) 1 n := by
  unfold srcOk
  split <;> simp [lenP, lenIs, ones, one1]
def rOne (x : Int) : Ob := ⟨3, true, .row 1 1 (fun _ => 1) (fun _ => 0) (fun _ _ => [.v (.int .i64 x)])⟩
attribute [push_cast] rOne
set_option maxHeartbeats 1000000 in
theorem repeat_sp (x : Int) (n c : Nat) (h1 : 1 ≤ n) (h2 : n ≤ 1000000) : Sp Tryz.prog 80 [.s 0 0 0 1 c 1, .v (.int .i64 n)] [rOne x] (fun r H => ∃ cap, n ≤ cap ∧ r = .s 1 0 0 n cap 1 ∧ H = [rOne x, rOwn 3 n cap (fun _ => x)]) := by
  refine sp_weak ?_
  refine sp_of_ex true [(9, .one 0 (.one 1 (.one 2 (.one 3 (.one 4 (.one 5 (.one 6 (.one 7 (.one 8 (.one 9 .fin))))))))))] mixed Tryz.call80 Tryz.func80 rfl Tryz.ntmps80 Tryz.results80 (by decide +kernel) rfl ?_
  refine sxo ?_
  try with_reducible exact trivial
  refine ⟨fun h => by omega, fun _ => ?_⟩
  repeat (with_reducible refine And.intro (by omega) ?_)
  refine sp_call (mul_pu n (by omega) (by omega)) rfl [] rfl ?_ ?_ ?_
  · simp only [push_cast, ↓branch_true, ↓branch_false, Nat.reduceBEq, Nat.reduceAdd, Nat.reduceMul, Nat.reduceSub, Int.reduceToNat, reduceCtorEq, branch_decide, branch_not, branch_beq, branch_bne, Int.zero_add]
  · refine sxo ?_
    try with_reducible exact trivial
  refine sxo ?_
  try with_reducible exact trivial
  refine ⟨fun h => absurd h (by decide), fun _ => ⟨fun h => by omega, fun _ => ?_⟩⟩
  repeat (with_reducible refine And.intro (by omega) ?_)
  refine ⟨src_ints (fun _ => x) _, ?_⟩
  rw [show min 1 n = 1 by omega]
  refine tr_loop mixed (by kernel_rfl) (fun (y : Nat × (Nat → Int)) => [(8, .v (.int .i64 y.1)), (7, .s 1 0 0 n n 1)])
    (fun y => [rOne x, rOwn 3 n n y.2]) (fun y => 1 ≤ y.1 ∧ y.1 ≤ n ∧ ∀ q, q < y.1 → y.2 q = x) (fun y => n - y.1) (1, fun q => bif decide (q < 1) then x else 0) ⟨Nat.le_refl _, h1, fun q hq => by simp [show q = 0 by omega]⟩ (Mt.wk (rl := [0, 1]) ⟨by kernel_rfl, ?_, ?_⟩) ?_
  · refine sxo ?_
    try with_reducible exact trivial
  · refine sxo ?_
    try with_reducible exact trivial
    intro i hi q hq
    obtain rfl : i = 0 := by omega
    simp [mtL]
  rintro ⟨k, f⟩ ⟨g1, g2, g3⟩
  simp only at g1 g2 g3
  refine sxo ?_
  try with_reducible exact trivial
  refine ⟨fun h3 => ?_, fun h3 => ?_⟩
  · repeat' (with_reducible (first | apply And.intro | intro _))
    all_goals try omega
    · exact src_ints f _
    · obtain ⟨m, hm⟩ : ∃ m, m = min (k - 0) (n - k) := ⟨_, rfl⟩
      rw [← hm]
      refine lpK_normal (k + m, fun q => bif (decide (k ≤ q) && decide (q < k + m)) then f (0 + (q - k)) else f q) [0, 1] ⟨by simp only; omega, by simp only; omega, fun q hq => ?_⟩ (by simp only; omega) (by kernel_rfl) ?_ ?_
      · simp only at hq ⊢
        by_cases e : k ≤ q
        · rw [show (decide (k ≤ q) && decide (q < k + m)) = true by simp; omega]
          exact g3 _ (by omega)
        · rw [show (decide (k ≤ q) && decide (q < k + m)) = false by simp; omega]
          exact g3 q (by omega)
      · refine sxo ?_
        try with_reducible exact trivial
      · refine sxo ?_
        try with_reducible exact trivial
        intro i hi q hq
        obtain rfl : i = 0 := by omega
        exact ⟨rfl, by cases (0 == 0 && (decide (k ≤ q) && decide (q < k + m))) <;> simp [mrgL, mtL]⟩
  · obtain rfl : k = n := by omega
    refine ⟨_, _, [0, 1], ?_, by kernel_rfl, ?_, k, Nat.le_refl _, rfl, rfl⟩
    · refine sxo ?_
      try with_reducible exact trivial
    · refine sxo ?_
      try with_reducible exact trivial
      intro i hi q hq
      rw [g3 q hq]
end Go.Proofs.YtolioflblegneaaGreat
namespace Go.Proofs.YtolioflblegneaaGreat
open Go.RowKit
def cntT (l : List Pc) (k : Nat) : Int := ((l.take k).map Pc.cnt).sum
theorem cntT_succ {l : List Pc} {k : Nat} (hk : k < l.length) : cntT l (k + 1) = cntT l k + (ix l k).cnt := by
  unfold cntT
  rw [take_snoc hk, List.map_append, List.sum_append]
  simp
/-- How many pieces there are. -/
def cntL (l : List Pc) : Int := cntT l l.length
theorem cntT_range {l : List Pc} (ho : orderB l = true) : ∀ k, k ≤ l.length → (k : Int) ≤ cntT l k ∧ cntT l k ≤ 1000000 * k
  | 0, _ => by simp [cntT]
  | k + 1, h => by
    have := cntT_range ho k (by omega)
    have h2 := order_at ho (k := k) (by omega)
    rw [cntT_succ (by omega)]
    omega
theorem cntT_mono {l : List Pc} (ho : orderB l = true) {j : Nat} : ∀ k, j ≤ k → k ≤ l.length → cntT l j ≤ cntT l k
  | 0, h, _ => by rw [show j = 0 by omega]; exact Int.le_refl _
  | k + 1, h, hk => by
    by_cases e : j = k + 1
    · rw [e]; exact Int.le_refl _
    · have := cntT_mono (j := j) ho k (by omega) (by omega)
      have h2 := order_at ho (k := k) (by omega)
      rw [cntT_succ (by omega)]
      omega
theorem appF_c {n m : Nat} {f : Nat → Int} {x : Int} (k : Nat) : appF n m (fun k => [.v (.int .i64 (f k))]) (fun _ => [.v (.int .i64 x)]) k = [.v (.int .i64 (bif decide (k < n) then f k else x))] := by
  unfold appF
  split <;> (cases decide (k < n) <;> simp [mrgL, mrg1_eq])
def listE (l : List Pc) : Int := if orderB l = false then 1 else if 1000 < cntL l then 4 else 0
set_option maxHeartbeats 1000000 in
theorem list_sp (l : List Pc) (c : Nat) (hl : l.length ≤ 9223372036854775807) : Sp Tryz.prog 38 [.s 0 0 0 l.length c 2] [rPc l] (fun r H => ∃ (n cap : Nat) (f : Nat → Int), r = .t [.s 1 0 0 n cap 1, .v (.int .i64 (listE l))] ∧ H = [rPc l, rOwn 3 n cap f]) := by
  refine sp_weak ?_
  refine sp_of_ex true [] mixed Tryz.call38 Tryz.func38 rfl Tryz.ntmps38 Tryz.results38 (by decide +kernel) rfl ?_
  refine sxo ?_
  try with_reducible exact trivial
  refine sp_call (order_pu l c hl) rfl [0] rfl (by simp only [push_cast, ↓branch_true, ↓branch_false, Nat.reduceBEq, Nat.reduceAdd, Nat.reduceMul, Nat.reduceSub, Int.reduceToNat, reduceCtorEq, branch_decide, branch_not, branch_beq, branch_bne]) (by simp only [push_cast, ↓branch_true, ↓branch_false, Nat.reduceBEq, Nat.reduceAdd, Nat.reduceMul, Nat.reduceSub, Int.reduceToNat, reduceCtorEq, branch_decide, branch_not, branch_beq, branch_bne]) ?_
  refine sxo ?_
  try with_reducible exact trivial
  cases ho : orderB l with
  | false =>
    have e : listE l = 1 := if_pos ho
    refine sxo ?_
    try with_reducible exact trivial
    rw [e]
    refine ⟨_, _, [0, 1], ?_, by kernel_rfl, ?_, 0, 0, fun _ => 0, rfl, rfl⟩
    · refine sxo ?_
      try with_reducible exact trivial
    · refine sxo ?_
      try with_reducible exact trivial
  | true =>
  have hlen := order_len ho
  refine sxo ?_
  try with_reducible exact trivial
  refine tr_loop mixed (by kernel_rfl) (fun (k : Nat) => [(15, .v (.int .i64 k)), (14, .v (.int .i64 l.length)), (13, .s 0 0 0 l.length c 2), (4, .v (.int .i64 (cntT l k))), (0, .s 0 0 0 l.length c 2)])
    (fun _ => [rPc l]) (fun k => k ≤ l.length) (fun k => l.length - k) 0 (Nat.zero_le _) (Mt.wk (rl := [0]) ⟨by kernel_rfl, ?_, ?_⟩) ?_
  · refine sxo ?_
    try with_reducible exact trivial
    rfl
  · refine sxo ?_
    try with_reducible exact trivial
  intro k hk
  have hr := cntT_range ho k hk
  refine sxo ?_
  try with_reducible exact trivial
  refine ⟨fun h => ?_, fun h => ?_⟩
  · have h2 := order_at ho (k := k) (by omega)
    have e1 := cntT_succ (l := l) (k := k) (by omega)
    repeat (with_reducible refine And.intro (by omega) ?_)
    refine lpK_normal (k + 1) [0] (by omega) (by omega) (by kernel_rfl) ?_ ?_
    · simp only [push_cast, ↓branch_true, ↓branch_false, Nat.reduceBEq, Nat.reduceAdd, Nat.reduceMul, Nat.reduceSub, Int.reduceToNat, reduceCtorEq, branch_decide, branch_not, branch_beq, branch_bne, e1]
    · refine sxo ?_
      try with_reducible exact trivial
  · obtain rfl : k = l.length := by omega
    refine ⟨fun h3 => ?_, fun h3 => ?_⟩
    · have e : listE l = 4 := by rw [listE, if_neg (by simp [ho]), if_pos (show 1000 < cntL l from h3)]
      rw [e]
      refine ⟨_, _, [0, 1], ?_, by kernel_rfl, ?_, 0, 0, fun _ => 0, rfl, rfl⟩
      · refine sxo ?_
        try with_reducible exact trivial
      · refine sxo ?_
        try with_reducible exact trivial
    have e : listE l = 0 := by rw [listE, if_neg (by simp [ho]), if_neg (show ¬ 1000 < cntL l from h3)]
    rw [e]
    refine tr_loop mixed (by kernel_rfl) (fun (x : Nat × Nat × Nat × (Nat → Int)) => [(28, .v (.int .i64 x.1)), (27, .v (.int .i64 l.length)), (26, .s 0 0 0 l.length c 2), (7, .s 1 0 0 x.2.1 x.2.2.1 1), (0, .s 0 0 0 l.length c 2)])
      (fun x => [rPc l, rOwn 3 x.2.1 x.2.2.1 x.2.2.2]) (fun x => x.1 ≤ l.length ∧ (x.2.1 : Int) = cntT l x.1 ∧ x.2.1 ≤ x.2.2.1) (fun x => l.length - x.1) (0, 0, 0, fun _ => 0) ⟨Nat.zero_le _, rfl, Nat.le_refl _⟩ (Mt.wk (rl := [0, 1]) ⟨by kernel_rfl, ?_, ?_⟩) ?_
    · refine sxo ?_
      try with_reducible exact trivial
    · refine sxo ?_
      try with_reducible exact trivial
    rintro ⟨k, m, cap, f⟩ ⟨g1, g2, g3⟩
    simp only at g1 g2 g3
    refine sxo ?_
    try with_reducible exact trivial
    refine ⟨fun h4 => ?_, fun h4 => ?_⟩
    · have h2 := order_at ho (k := k) (by omega)
      have e1 := cntT_succ (l := l) (k := k) (by omega)
      have e2 := cntT_mono ho (j := k + 1) l.length (by omega) (Nat.le_refl _)
      unfold cntL at h3
      obtain ⟨n, hn⟩ : ∃ n : Nat, (ix l k).cnt = n := ⟨(ix l k).cnt.toNat, by omega⟩
      rw [hn]
      repeat (with_reducible refine And.intro (by omega) ?_)
      refine sp_at (repeat_sp (ix l k).len n 1 (by omega) (by omega)) [3] rfl ?_ ?_ ?_
      · refine sxo ?_
        try with_reducible exact trivial
      · refine sxo ?_
        try with_reducible exact trivial
        intro i hi q hq
        obtain rfl : q = 0 := by omega
        refine sxo ?_
        try with_reducible exact trivial
      rintro _ _ ⟨cap2, hcap2, rfl, rfl⟩
      refine sxo ?_
      try with_reducible exact trivial
      refine ⟨by omega, src_ints _ _, appZ_of (fun h => by omega) fun _ => .inr ?_⟩
      repeat (with_reducible refine And.intro (by omega) ?_)
      intro cap3 hcap3
      repeat (with_reducible refine And.intro (by omega) ?_)
      refine lpK_normal (k + 1, m + n, cap3, fun q => bif decide (q < m) then f q else (ix l k).len) [0, 5] ⟨by simp only; omega, by simp only; omega, hcap3⟩ (by simp only; omega) (by kernel_rfl) ?_ ?_
      · refine sxo ?_
        try with_reducible exact trivial
      · refine sxo ?_
        try with_reducible exact trivial
        intro i hi q hq
        rw [appF_c]
        refine sxo ?_
        try with_reducible exact trivial
    · refine ⟨_, _, [0, 1], ?_, by kernel_rfl, ?_, m, cap, f, rfl, rfl⟩
      · refine sxo ?_
        try with_reducible exact trivial
      · refine sxo ?_
        try with_reducible exact trivial
end Go.Proofs.YtolioflblegneaaGreat
