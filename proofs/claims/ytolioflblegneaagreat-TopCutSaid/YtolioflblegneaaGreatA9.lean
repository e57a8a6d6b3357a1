/- Contracts of small functions: lengths, orders. Contracts: full, Valid, Waste, Maximal; the reference's Order, Given, Sum, Fits, Maximal. Contracts: the bounds of the reference and of the program. Contracts: begin. Contracts: Clone; the search for all. Contract: the search for all maximal patterns. Contract: the search for the best pattern. Contracts: All, Best. Contracts: IndexFunc of ints, Best. Contracts of the patterns' laws that are left, and plain facts. Plain facts: all patterns that fit, in order; the maximal ones; the dearest one. Plain facts: the search for the maximal patterns finds them all; the search for the dearest one finds it. Contracts: the reference's fill and less. Contract: the reference's Each. Contracts at a member of a list of patterns; the reference's All. Contracts: the reference's Price, Best. Contracts: the reference's Fullest and Few; equality of best patterns. PatternAll, PatternBest: the walks. -/
import Derived.Test.YtolioflblegneaaGreatTi
set_option maxRecDepth 100000
set_option linter.unusedSimpArgs false
set_option linter.unusedVariables false
namespace Go.Proofs.YtolioflblegneaaGreat.Pat
open Go.RowKit
structure Pc where
  len : Int
  cnt : Int
instance : Inhabited Pc := ⟨⟨0, 0⟩⟩
def cPc (p : Pc) : List SV := [.v (.int .i64 p.len), .v (.int .i64 p.cnt)]
/-- A row of pieces that is only read. -/
def rPc (l : List Pc) : Ob := ⟨56, true, .row 2 1 (fun _ => l.length) (fun _ => 0) (fun _ k => cPc (ix l k))⟩
attribute [push_cast] rPc cPc
def lenB (n : Int) : Bool := decide (1 ≤ n) && decide (n ≤ 1048576)
theorem length_pu (n : Int) : Pu Tryz.prog 78 [.v (.int .i64 n)] [] (.v (.bool (lenB n))) := by
  refine pu_of_ex true [] mixed Tryz.call78 Tryz.func78 rfl Tryz.ntmps78 Tryz.results78 (by decide +kernel) rfl rfl rfl ?_
  refine sxo ?_
  try with_reducible exact trivial
  unfold lenB
  exact ⟨fun h => by simp [h], fun h => by simp [h]⟩
def badB (p : Pc) : Bool := !lenB p.len || decide (p.cnt < 1) || decide (1000000 < p.cnt)
theorem bad_pu (p : Pc) : Pu Tryz.prog 79 [.a (cPc p)] [] (.v (.bool (badB p))) := by
  refine pu_of_ex true [] mixed Tryz.call79 Tryz.func79 rfl Tryz.ntmps79 Tryz.results79 (by decide +kernel) rfl rfl rfl ?_
  refine sxo ?_
  try with_reducible exact trivial
  refine sp_call (length_pu p.len) rfl [] rfl (by simp only [push_cast, ↓branch_true, ↓branch_false, Nat.reduceBEq, Nat.reduceAdd, Nat.reduceMul, Nat.reduceSub, Int.reduceToNat, reduceCtorEq, branch_decide, branch_not, branch_beq, branch_bne]) (by simp only [push_cast, ↓branch_true, ↓branch_false, Nat.reduceBEq, Nat.reduceAdd, Nat.reduceMul, Nat.reduceSub, Int.reduceToNat, reduceCtorEq, branch_decide, branch_not, branch_beq, branch_bne]) ?_
  refine sxo ?_
  try with_reducible exact trivial
  simp only [branch, badB]
  refine ⟨fun h => ⟨fun h2 => ?_, fun h2 => ?_⟩, fun h => ?_⟩ <;> simp [*]
/-- The number of the first element with a property. -/
def idxB {α : Type} (p : α → Bool) : List α → Int → Int
  | [], _ => -1
  | x :: l, k => bif p x then k else idxB p l (k + 1)
theorem idxB_at {α : Type} [Inhabited α] (p : α → Bool) : ∀ (l : List α) (i : Int) (k : Nat), k < l.length → (∀ j, j < k → p (ix l j) = false) → p (ix l k) = true → idxB p l i = i + k
  | [], i, k, hk, _, _ => by simp at hk
  | x :: l, i, 0, _, _, hp => by
    have : p x = true := hp
    simp [idxB, this]
  | x :: l, i, k + 1, hk, hn, hp => by
    have h0 : p x = false := hn 0 (by omega)
    simp only [idxB, h0, cond_false]
    rw [idxB_at p l (i + 1) k (by simpa using hk) (fun j hj => hn (j + 1) (by omega)) hp]
    push_cast
    omega
theorem idxB_none {α : Type} [Inhabited α] (p : α → Bool) : ∀ (l : List α) (i : Int), (∀ j, j < l.length → p (ix l j) = false) → idxB p l i = -1
  | [], i, _ => rfl
  | x :: l, i, hn => by
    have h0 : p x = false := hn 0 (by simp)
    simp only [idxB, h0, cond_false]
    exact idxB_none p l (i + 1) fun j hj => hn (j + 1) (by simpa using hj)
theorem idxB_any {α : Type} (p : α → Bool) : ∀ (l : List α) (i : Int), 0 ≤ i → decide (0 ≤ idxB p l i) = l.any p
  | [], i, _ => rfl
  | x :: l, i, h => by
    have ih := idxB_any p l (i + 1) (by omega)
    simp only [idxB, List.any_cons]
    by_cases hp : p x = true
    · simp [hp, h]
    · have hp : p x = false := by simpa using hp
      simp [hp]
      simpa using ih
theorem indexPc_pu (l : List Pc) (c : Nat) (g : FuncId) (fs cs : List SV) (H : List Ob) (p : Pc → Bool) (hro : roB H = true) (hl : l.length ≤ 9223372036854775807)
    (hp : ∀ x ∈ l, Pu Tryz.prog g (fs ++ [.a (cPc x)] ++ cs) (rPc l :: H) (.v (.bool (p x)))) : Pu Tryz.prog 69 [.s 0 0 0 l.length c 2, .f (.func g) fs cs] (rPc l :: H) (.v (.int .i64 (idxB p l 0))) := by
  refine pu_of_ex true [] mixed Tryz.call69 Tryz.func69 rfl Tryz.ntmps69 Tryz.results69 (by decide +kernel) rfl (by simp [roB, hro, rPc]) rfl ?_
  refine sxo ?_
  try with_reducible exact trivial
  refine tr_loop0 mixed (by kernel_rfl) (fun (k : Nat) => [(8, .v (.int .i64 k)), (7, .v (.int .i64 l.length)), (0, .s 0 0 0 l.length c 2), (1, .f (.func g) fs cs)]) (fun k => k ≤ l.length ∧ ∀ j, j < k → p (ix l j) = false) (fun k => l.length - k) 0 ⟨Nat.zero_le _, fun j h => by omega⟩ ?_ ?_
  · refine sxo ?_
    try with_reducible exact trivial
  · rintro k ⟨hk, hn⟩
    refine sxo ?_
    try with_reducible exact trivial
    refine ⟨fun h1 => ?_, fun h1 => ?_⟩
    · repeat (with_reducible refine And.intro (by omega) ?_)
      have hp1 := hp _ (ix_mem (l := l) (k := k) (by omega))
      refine sp_pu (by simpa only [push_cast] using hp1) ?_
      refine sxo ?_
      try with_reducible exact trivial
      simp only [branch]
      refine ⟨fun h2 => ?_, fun h2 => ?_⟩
      · rw [idxB_at p l 0 k (by omega) hn h2]; simp
      · repeat (with_reducible refine And.intro (by omega) ?_)
        refine lp0_normal (k + 1) ⟨by omega, fun j hj => ?_⟩ (by omega) ?_
        · by_cases e : j = k
          · rw [e]; exact h2
          · exact hn j (by omega)
        · refine sxo ?_
          try with_reducible exact trivial
    · rw [idxB_none p l 0 fun j hj => hn j (by omega)]
theorem containsPc_pu (l : List Pc) (c : Nat) (g : FuncId) (fs cs : List SV) (H : List Ob) (p : Pc → Bool) (hro : roB H = true) (hl : l.length ≤ 9223372036854775807)
    (hp : ∀ x ∈ l, Pu Tryz.prog g (fs ++ [.a (cPc x)] ++ cs) (rPc l :: H) (.v (.bool (p x)))) : Pu Tryz.prog 29 [.s 0 0 0 l.length c 2, .f (.func g) fs cs] (rPc l :: H) (.v (.bool (l.any p))) := by
  refine pu_of_ex true [] mixed Tryz.call29 Tryz.func29 rfl Tryz.ntmps29 Tryz.results29 (by decide +kernel) rfl (by simp [roB, hro, rPc]) rfl ?_
  refine sxo ?_
  try with_reducible exact trivial
  refine sp_pu (indexPc_pu l c g fs cs H p hro hl hp) ?_
  refine sxo ?_
  try with_reducible exact trivial
  rw [idxB_any p l 0 (Int.le_refl 0)]
def orderB (l : List Pc) : Bool := decide (l.length ≤ 200) && !l.any badB
theorem order_pu (l : List Pc) (c : Nat) (hl : l.length ≤ 9223372036854775807) : Pu Tryz.prog 37 [.s 0 0 0 l.length c 2] [rPc l] (.v (.bool (orderB l))) := by
  refine pu_of_ex true [] mixed Tryz.call37 Tryz.func37 rfl Tryz.ntmps37 Tryz.results37 (by decide +kernel) rfl rfl rfl ?_
  refine sxo ?_
  try with_reducible exact trivial
  unfold orderB
  refine ⟨fun h1 => ?_, fun h1 => ?_⟩
  · refine sp_pu (containsPc_pu l c 79 [] [] [] badB rfl hl fun x _ => ?_) ?_
    · refine pu_at (bad_pu x) rfl [] rfl ?_ ?_ <;> (simp only [push_cast, ↓branch_true, ↓branch_false, Nat.reduceBEq, Nat.reduceAdd, Nat.reduceMul, Nat.reduceSub, Int.reduceToNat, reduceCtorEq, branch_decide, branch_not, branch_beq, branch_bne])
    · refine sxo ?_
      try with_reducible exact trivial
      have : l.length ≤ 200 := by omega
      simp [this]
  · have : ¬ l.length ≤ 200 := by omega
    simp [this]
/-- What is wrong with a length, an order and a number: 0 for nothing. -/
def givenE (length : Int) (l : List Pc) (n : Int) : Int := if orderB l = false then 1 else if length < 1 ∨ 1048576 < length then 2 else if n = l.length then 0 else 3
theorem given_pu (length n : Int) (l : List Pc) (c : Nat) (hl : l.length ≤ 9223372036854775807) : Pu Tryz.prog 125 [.v (.int .i64 length), .s 0 0 0 l.length c 2, .v (.int .i64 n)] [rPc l] (.v (.int .i64 (givenE length l n))) := by
  refine pu_of_ex true [] mixed Tryz.call125 Tryz.func125 rfl Tryz.ntmps125 Tryz.results125 (by decide +kernel) rfl rfl rfl ?_
  refine sxo ?_
  try with_reducible exact trivial
  refine sp_call (order_pu l c hl) rfl [0] rfl (by simp only [push_cast, ↓branch_true, ↓branch_false, Nat.reduceBEq, Nat.reduceAdd, Nat.reduceMul, Nat.reduceSub, Int.reduceToNat, reduceCtorEq, branch_decide, branch_not, branch_beq, branch_bne]) (by simp only [push_cast, ↓branch_true, ↓branch_false, Nat.reduceBEq, Nat.reduceAdd, Nat.reduceMul, Nat.reduceSub, Int.reduceToNat, reduceCtorEq, branch_decide, branch_not, branch_beq, branch_bne]) ?_
  refine sxo ?_
  try with_reducible exact trivial
  simp only [branch, givenE]
  repeat' (with_reducible (first | apply And.intro | intro _))
  all_goals simp [*]
/-- What is left of a length behind a pattern's numbers, if it fits. -/
def leftO : Int → List Pc → List Int → Option Int
  | length, p :: l, n :: ns => if n < 0 ∨ p.cnt < n ∨ length / p.len < n then none else leftO (length - n * p.len) l ns
  | length, _, _ => some length
theorem leftO_step {length : Int} {l : List Pc} {ns : List Int} {k : Nat} (h1 : k < l.length) (h2 : k < ns.length) : leftO length (l.drop k) (ns.drop k) = if ix ns k < 0 ∨ (ix l k).cnt < ix ns k ∨ length / (ix l k).len < ix ns k then none else leftO (length - ix ns k * (ix l k).len) (l.drop (k + 1)) (ns.drop (k + 1)) := by
  rw [drop_ix h1, drop_ix h2, leftO]
theorem order_at {l : List Pc} (h : orderB l = true) {k : Nat} (hk : k < l.length) : 1 ≤ (ix l k).len ∧ (ix l k).len ≤ 1048576 ∧ 1 ≤ (ix l k).cnt ∧ (ix l k).cnt ≤ 1000000 := by
  simp only [orderB, Bool.and_eq_true, Bool.not_eq_true', List.any_eq_false] at h
  have := h.2 _ (ix_mem hk)
  simp only [badB, lenB, Bool.or_eq_true, Bool.not_eq_true', Bool.and_eq_false_iff, decide_eq_true_eq, decide_eq_false_iff_not] at this
  omega
theorem left_pu (length : Int) (l : List Pc) (ns : List Int) (c c2 : Nat) (h0 : 0 ≤ length) (h1 : length ≤ 1048576) (ho : orderB l = true) (he : ns.length = l.length) :
    Pu Tryz.prog 126 [.v (.int .i64 length), .s 0 0 0 l.length c 2, .s 1 0 0 ns.length c2 1] [rPc l, rInt 3 ns] (.t [.v (.int .i64 ((leftO length l ns).getD 0)), .v (.bool (leftO length l ns).isSome)]) := by
  have hl : l.length ≤ 200 := by
    simp only [orderB, Bool.and_eq_true, decide_eq_true_eq] at ho
    exact ho.1
  refine pu_of_ex true [] mixed Tryz.call126 Tryz.func126 rfl Tryz.ntmps126 Tryz.results126 (by decide +kernel) rfl rfl rfl ?_
  refine sxo ?_
  try with_reducible exact trivial
  refine tr_loop0 mixed (by kernel_rfl) (fun (x : Nat × Int) => [(12, .v (.int .i64 x.1)), (0, .v (.int .i64 x.2)), (11, .v (.int .i64 ns.length)), (10, .s 1 0 0 ns.length c2 1), (1, .s 0 0 0 l.length c 2)]) (fun x => x.1 ≤ ns.length ∧ 0 ≤ x.2 ∧ x.2 ≤ 1048576 ∧ leftO length l ns = leftO x.2 (l.drop x.1) (ns.drop x.1)) (fun x => ns.length - x.1) (0, length) ⟨Nat.zero_le _, h0, h1, by simp⟩ ?_ ?_
  · refine sxo ?_
    try with_reducible exact trivial
  · rintro ⟨k, m⟩ ⟨hk, hm0, hm1, hr⟩
    refine sxo ?_
    try with_reducible exact trivial
    refine ⟨fun h1 => ?_, fun h1 => ?_⟩
    · repeat (with_reducible refine And.intro (by omega) ?_)
      have hst := leftO_step (length := m) (l := l) (ns := ns) (k := k) (by omega) (by omega)
      have hat := order_at ho (k := k) (by omega)
      simp only at hk hm0 hm1 hr
      rw [hst] at hr
      simp only [Int.tdiv_eq_ediv_of_nonneg hm0]
      have hq : 0 ≤ m / (ix l k).len ∧ m / (ix l k).len ≤ m := ⟨Int.ediv_nonneg hm0 (by omega), Int.ediv_le_self _ hm0⟩
      refine ⟨fun h2 => ?_, fun h2 => ?_⟩
      · rw [hr, if_pos (.inl h2)]; rfl
      · repeat (with_reducible refine And.intro (by omega) ?_)
        refine ⟨fun h3 => ?_, fun h3 => ?_⟩
        · rw [hr, if_pos (.inr (.inl h3))]; rfl
        · repeat (with_reducible refine And.intro (by omega) ?_)
          refine ⟨fun h4 => ?_, fun h4 => ?_⟩
          · rw [hr, if_pos (.inr (.inr h4))]; rfl
          · have hm : ix ns k * (ix l k).len ≤ m := by
              have h5 : ix ns k ≤ m / (ix l k).len := by omega
              have := Int.mul_le_of_le_ediv (by omega) h5
              omega
            have hz : 0 ≤ ix ns k * (ix l k).len := Int.mul_nonneg (by omega) (by omega)
            repeat (with_reducible refine And.intro (by omega) ?_)
            refine lp0_normal (k + 1, m - ix ns k * (ix l k).len) ⟨by simp only; omega, by simp only; omega, by simp only; omega, ?_⟩ (by simp only; omega) ?_
            · rw [hr, if_neg (by omega)]
            · refine sxo ?_
              try with_reducible exact trivial
    · have e : k = ns.length := by simp only at hk; omega
      subst e
      simp only [List.drop_length, he, leftO] at hr
      rw [hr]
      rfl
end Go.Proofs.YtolioflblegneaaGreat.Pat
namespace Go.Proofs.YtolioflblegneaaGreat.Pat
open Go.RowKit
theorem order_len {l : List Pc} (h : orderB l = true) : l.length ≤ 200 := by
  simp only [orderB, Bool.and_eq_true, decide_eq_true_eq] at h
  exact h.1
theorem between_pu (n lo hi : Int) : Pu Tryz.prog 35 [.v (.int .i64 n), .v (.int .i64 lo), .v (.int .i64 hi)] [] (.v (.bool (decide (lo ≤ n) && decide (n ≤ hi)))) := by
  refine pu_of_ex true [] mixed Tryz.call35 Tryz.func35 rfl Tryz.ntmps35 Tryz.results35 (by decide +kernel) rfl rfl rfl ?_
  refine sxo ?_
  try with_reducible exact trivial
  repeat' (with_reducible (first | apply And.intro | intro _))
  all_goals simp [*]
theorem rorder_pu (l : List Pc) (c : Nat) (hl : l.length ≤ 9223372036854775806) : Pu Tryz.prog 7 [.s 0 0 0 l.length c 2] [rPc l] (.v (.bool (orderB l))) := by
  refine pu_of_ex true [] mixed Tryz.call7 Tryz.func7 rfl Tryz.ntmps7 Tryz.results7 (by decide +kernel) rfl rfl rfl ?_
  refine sxo ?_
  try with_reducible exact trivial
  refine ⟨fun h0 => ?_, fun h0 => ?_⟩
  · have : ¬ l.length ≤ 200 := by omega
    simp [orderB, this]
  · refine tr_loop0 mixed (by kernel_rfl) (fun (k : Nat) => [(3, .v (.int .i64 k)), (0, .s 0 0 0 l.length c 2)]) (fun k => k ≤ l.length ∧ l.any badB = (l.drop k).any badB) (fun k => l.length - k) 0 ⟨Nat.zero_le _, by simp⟩ ?_ ?_
    · refine sxo ?_
      try with_reducible exact trivial
    · rintro k ⟨hk, hr⟩
      refine sxo ?_
      try with_reducible exact trivial
      have h200 : l.length ≤ 200 := by omega
      refine ⟨fun h1 => ?_, fun h1 => ?_⟩
      · repeat (with_reducible refine And.intro (by omega) ?_)
        rw [drop_ix (by omega), List.any_cons] at hr
        refine sp_call (between_pu (ix l k).len 1 1048576) rfl [] rfl (by simp only [push_cast, ↓branch_true, ↓branch_false, Nat.reduceBEq, Nat.reduceAdd, Nat.reduceMul, Nat.reduceSub, Int.reduceToNat, reduceCtorEq, branch_decide, branch_not, branch_beq, branch_bne]) (by simp only [push_cast, ↓branch_true, ↓branch_false, Nat.reduceBEq, Nat.reduceAdd, Nat.reduceMul, Nat.reduceSub, Int.reduceToNat, reduceCtorEq, branch_decide, branch_not, branch_beq, branch_bne]) ?_
        refine sxo ?_
        try with_reducible exact trivial
        simp only [branch]
        refine ⟨fun h2 => ?_, fun h2 => ?_⟩
        · repeat (with_reducible refine And.intro (by omega) ?_)
          refine sp_call (between_pu (ix l k).cnt 1 1000000) rfl [] rfl (by simp only [push_cast, ↓branch_true, ↓branch_false, Nat.reduceBEq, Nat.reduceAdd, Nat.reduceMul, Nat.reduceSub, Int.reduceToNat, reduceCtorEq, branch_decide, branch_not, branch_beq, branch_bne]) (by simp only [push_cast, ↓branch_true, ↓branch_false, Nat.reduceBEq, Nat.reduceAdd, Nat.reduceMul, Nat.reduceSub, Int.reduceToNat, reduceCtorEq, branch_decide, branch_not, branch_beq, branch_bne]) ?_
          refine sxo ?_
          try with_reducible exact trivial
          simp only [branch]
          refine ⟨fun h3 => ?_, fun h3 => ?_⟩
          · repeat (with_reducible refine And.intro (by omega) ?_)
            have hb : badB (ix l k) = false := by
              simp only [Bool.and_eq_true, decide_eq_true_eq] at h2 h3
              simp [badB, lenB]
              omega
            refine lp0_normal (k + 1) ⟨by omega, by rw [hr, hb, Bool.false_or]⟩ (by omega) ?_
            refine sxo ?_
            try with_reducible exact trivial
          · have hb : badB (ix l k) = true := by
              simp only [Bool.and_eq_true, decide_eq_true_eq, Bool.and_eq_false_iff, decide_eq_false_iff_not] at h2 h3
              simp [badB, lenB]
              omega
            simp [orderB, hr, hb]
        · have hb : badB (ix l k) = true := by
            simp only [Bool.and_eq_false_iff, decide_eq_false_iff_not] at h2
            simp [badB, lenB]
            omega
          simp [orderB, hr, hb]
      · have e : k = l.length := by omega
        subst e
        simp [orderB, hr, h200]
theorem given_0 {length n : Int} {l : List Pc} (h : givenE length l n = 0) : orderB l = true ∧ 1 ≤ length ∧ length ≤ 1048576 ∧ n = l.length := by
  unfold givenE at h
  split at h
  · omega
  · split at h
    · omega
    · split at h
      · rename_i h1 h2 h3
        exact ⟨by simpa using h1, by omega, by omega, h3⟩
      · omega
/-- Whether a pattern fits, as the pattern's package says it. -/
def validV (length : Int) (l : List Pc) (ns : List Int) : SV := .t [.v (.bool (decide (givenE length l ns.length = 0) && (leftO length l ns).isSome)), .v (.int .i64 (givenE length l ns.length))]
theorem valid_pu (length : Int) (l : List Pc) (ns : List Int) (c c2 : Nat) (hl : l.length ≤ 9223372036854775806) : Pu Tryz.prog 90 [.v (.int .i64 length), .s 0 0 0 l.length c 2, .s 1 0 0 ns.length c2 1] [rPc l, rInt 3 ns] (validV length l ns) := by
  unfold validV
  refine pu_of_ex true [] mixed Tryz.call90 Tryz.func90 rfl Tryz.ntmps90 Tryz.results90 (by decide +kernel) rfl rfl rfl ?_
  refine sxo ?_
  try with_reducible exact trivial
  refine sp_call (given_pu length ns.length l c (by omega)) rfl [0] rfl (by simp only [push_cast, ↓branch_true, ↓branch_false, Nat.reduceBEq, Nat.reduceAdd, Nat.reduceMul, Nat.reduceSub, Int.reduceToNat, reduceCtorEq, branch_decide, branch_not, branch_beq, branch_bne]) (by simp only [push_cast, ↓branch_true, ↓branch_false, Nat.reduceBEq, Nat.reduceAdd, Nat.reduceMul, Nat.reduceSub, Int.reduceToNat, reduceCtorEq, branch_decide, branch_not, branch_beq, branch_bne]) ?_
  refine sxo ?_
  try with_reducible exact trivial
  refine ⟨fun h => ?_, fun h => ?_⟩
  · obtain ⟨h1, h2, h3, h4⟩ := given_0 h
    refine sp_call (left_pu length l ns c c2 (by omega) h3 h1 (by omega)) rfl [0, 1] rfl (by simp only [push_cast, ↓branch_true, ↓branch_false, Nat.reduceBEq, Nat.reduceAdd, Nat.reduceMul, Nat.reduceSub, Int.reduceToNat, reduceCtorEq, branch_decide, branch_not, branch_beq, branch_bne]) (by simp only [push_cast, ↓branch_true, ↓branch_false, Nat.reduceBEq, Nat.reduceAdd, Nat.reduceMul, Nat.reduceSub, Int.reduceToNat, reduceCtorEq, branch_decide, branch_not, branch_beq, branch_bne]) ?_
    refine sxo ?_
    try with_reducible exact trivial
    simp [h]
  · simp [h]
def wasteV (length : Int) (l : List Pc) (ns : List Int) : SV :=
  .t [.v (.int .i64 (if givenE length l ns.length = 0 then (leftO length l ns).getD 0 else 0)), .v (.int .i64 (if givenE length l ns.length = 0 then (if (leftO length l ns).isSome = true then 0 else 20) else givenE length l ns.length))]
/-- The length of a pattern's pieces. -/
def sumL : List Pc → List Int → Int
  | p :: l, n :: ns => p.len * n + sumL l ns
  | _, _ => 0
def inB : List Pc → List Int → Bool
  | p :: l, n :: ns => decide (0 ≤ n) && decide (n ≤ p.cnt) && inB l ns
  | _, _ => true
def fitsB (length : Int) (l : List Pc) (ns : List Int) : Bool := inB l ns && decide (sumL l ns ≤ length)
end Go.Proofs.YtolioflblegneaaGreat.Pat
namespace Go.Proofs.YtolioflblegneaaGreat.Pat
open Go.RowKit
theorem mul_le {a b A B : Int} (h0 : 0 ≤ a) (h1 : a ≤ A) (h2 : 0 ≤ b) (h3 : b ≤ B) : 0 ≤ a * b ∧ a * b ≤ A * B := ⟨Int.mul_nonneg h0 h2, Int.le_trans (Int.mul_le_mul_of_nonneg_right h1 h2) (Int.mul_le_mul_of_nonneg_left h3 (by omega))⟩
def oIx (i : Int) : Ob := ⟨3, true, .st [.v (.int .i64 i)]⟩
attribute [push_cast] oIx
def totT (l : List Pc) (k : Nat) : Int := ((l.take k).map fun p => p.len * p.cnt).sum
theorem totT_succ {l : List Pc} {k : Nat} (h : k < l.length) : totT l (k + 1) = totT l k + (ix l k).len * (ix l k).cnt := by
  unfold totT
  rw [take_snoc h, List.map_append, List.sum_append]; simp
theorem tot_range {l : List Pc} (ho : orderB l = true) : ∀ k, k ≤ l.length → (k : Int) ≤ totT l k ∧ totT l k ≤ 1048576000000 * k
  | 0, _ => by simp [totT]
  | k + 1, hk => by
    have ih := tot_range ho k (by omega)
    have h2 := order_at ho (k := k) (by omega)
    have hm := mul_le (show 0 ≤ (ix l k).len by omega) h2.2.1 (show 0 ≤ (ix l k).cnt by omega) h2.2.2.2
    have hp : 1 * 1 ≤ (ix l k).len * (ix l k).cnt := Int.mul_le_mul (by omega) (by omega) (by decide) (by omega)
    rw [totT_succ (by omega)]
    omega
def totL (l : List Pc) : Int := totT l l.length
theorem total_pu (l : List Pc) (c : Nat) (hl : l.length ≤ 9223372036854775807) : Pu Tryz.prog 14 [.s 0 0 0 l.length c 2] [rPc l] (.t [.v (.int .i64 (if orderB l then totL l else 0)), .v (.int .i64 (if orderB l then 0 else 1))]) := by
  refine pu_of_ex true [] mixed Tryz.call14 Tryz.func14 rfl Tryz.ntmps14 Tryz.results14 (by decide +kernel) rfl rfl rfl ?_
  refine sxo ?_
  try with_reducible exact trivial
  refine sp_call (order_pu l c hl) rfl [0] rfl (by simp only [push_cast, ↓branch_true, ↓branch_false, Nat.reduceBEq, Nat.reduceAdd, Nat.reduceMul, Nat.reduceSub, Int.reduceToNat, reduceCtorEq, branch_decide, branch_not, branch_beq, branch_bne]) (by simp only [push_cast, ↓branch_true, ↓branch_false, Nat.reduceBEq, Nat.reduceAdd, Nat.reduceMul, Nat.reduceSub, Int.reduceToNat, reduceCtorEq, branch_decide, branch_not, branch_beq, branch_bne]) ?_
  refine sxo ?_
  try with_reducible exact trivial
  cases ho : orderB l with
  | false =>
    refine sxo ?_
    try with_reducible exact trivial
  | true =>
  have hll := order_len ho
  refine sxo ?_
  try with_reducible exact trivial
  refine tr_loop mixed (by kernel_rfl) (fun (k : Nat) => [(12, .v (.int .i64 k)), (11, .v (.int .i64 l.length)), (10, .s 0 0 0 l.length c 2), (4, .v (.int .i64 (totT l k)))]) (fun _ => [rPc l]) (fun k => k ≤ l.length) (fun k => l.length - k) 0 (Nat.zero_le _) (Mt.wk (rl := [0]) ⟨by kernel_rfl, ?_, ?_⟩) ?_
  · refine sxo ?_
    try with_reducible exact trivial
    simp [totT]
  · refine sxo ?_
    try with_reducible exact trivial
  intro k hk
  have hr := tot_range ho k hk
  refine sxo ?_
  try with_reducible exact trivial
  refine ⟨fun h => ?_, fun h => ?_⟩
  · have h2 := order_at ho (k := k) (by omega)
    have hm := mul_le (show 0 ≤ (ix l k).len by omega) h2.2.1 (show 0 ≤ (ix l k).cnt by omega) h2.2.2.2
    repeat (with_reducible refine And.intro (by omega) ?_)
    refine lpK_normal (k + 1) [0] (by omega) (by omega) (by kernel_rfl) ?_ ?_
    · simp only [push_cast, ↓branch_true, ↓branch_false, Nat.reduceBEq, Nat.reduceAdd, Nat.reduceMul, Nat.reduceSub, Int.reduceToNat, reduceCtorEq, branch_decide, branch_not, branch_beq, branch_bne, totT_succ (show k < l.length by omega)]
    · refine sxo ?_
      try with_reducible exact trivial
  · obtain rfl : k = l.length := by omega
    simp [totL]
/-- n over m, rounded up. -/
def upR (n m : Int) : Int := (n + m - 1).tdiv m
def matR (lim : Int) (l : List Pc) : Int := upR (totL l) lim
theorem totL_range {l : List Pc} (ho : orderB l = true) : 0 ≤ totL l ∧ totL l ≤ 209715200000000 := by
  have h := tot_range ho l.length (Nat.le_refl _)
  have hll := order_len ho
  unfold totL
  omega
def largT (lim : Int) (l : List Pc) : Nat → Int
  | 0 => 0
  | k + 1 => if lim < 2 * (ix l k).len then largT lim l k + (ix l k).cnt else largT lim l k
theorem larg_range {lim : Int} {l : List Pc} (ho : orderB l = true) : ∀ k, k ≤ l.length → 0 ≤ largT lim l k ∧ largT lim l k ≤ 1000000 * k
  | 0, _ => by simp [largT]
  | k + 1, h => by
    have := larg_range (lim := lim) ho k (by omega)
    have h2 := order_at ho (k := k) (by omega)
    unfold largT
    split <;> omega
theorem mulB {a b A B : Int} (h0 : 0 ≤ a) (h1 : a ≤ A) (h2 : 0 ≤ b) (h3 : b ≤ B) : 0 ≤ a * b ∧ a * b ≤ A * B :=
  ⟨Int.mul_nonneg h0 h2, Int.mul_le_mul h1 h3 h2 (by omega)⟩
/-- What a line of pieces adds to the bound of a number. -/
def dualI (lim k : Int) (p : Pc) : Int := if ((k + 1) * p.len).tmod lim = 0 then p.cnt * ((k + 1) * p.len).tdiv lim * k else p.cnt * ((k + 1) * p.len).tdiv lim * (k + 1)
def dualT (lim k : Int) (l : List Pc) : Nat → Int
  | 0 => 0
  | j + 1 => dualT lim k l j + dualI lim k (ix l j)
structure DualB (lim k : Int) (p : Pc) : Prop where
  n0 : 0 ≤ (k + 1) * p.len
  n1 : (k + 1) * p.len ≤ 105906176
  q0 : 0 ≤ ((k + 1) * p.len).tdiv lim
  q1 : ((k + 1) * p.len).tdiv lim ≤ 105906176
  c0 : 0 ≤ p.cnt * ((k + 1) * p.len).tdiv lim
  c1 : p.cnt * ((k + 1) * p.len).tdiv lim ≤ 105906176000000
  s0 : 0 ≤ p.cnt * ((k + 1) * p.len).tdiv lim * k
  s1 : p.cnt * ((k + 1) * p.len).tdiv lim * k ≤ 10696523776000000
  t0 : 0 ≤ p.cnt * ((k + 1) * p.len).tdiv lim * (k + 1)
  t1 : p.cnt * ((k + 1) * p.len).tdiv lim * (k + 1) ≤ 10696523776000000
theorem dual_bounds {lim k : Int} {p : Pc} (h1 : 1 ≤ lim) (hk : 1 ≤ k ∧ k ≤ 100) (hp : 1 ≤ p.len ∧ p.len ≤ 1048576 ∧ 1 ≤ p.cnt ∧ p.cnt ≤ 1000000) : DualB lim k p := by
  obtain ⟨a0, a1⟩ := mulB (show 0 ≤ k + 1 by omega) (show k + 1 ≤ 101 by omega) (show 0 ≤ p.len by omega) hp.2.1
  have b0 : 0 ≤ ((k + 1) * p.len).tdiv lim := Int.tdiv_nonneg a0 (by omega)
  have b1 : ((k + 1) * p.len).tdiv lim ≤ (k + 1) * p.len := Int.tdiv_le_self _ a0
  obtain ⟨c0, c1⟩ := mulB (show 0 ≤ p.cnt by omega) hp.2.2.2 b0 (show ((k + 1) * p.len).tdiv lim ≤ 105906176 by omega)
  obtain ⟨d0, d1⟩ := mulB c0 c1 (show 0 ≤ k by omega) (show k ≤ 101 by omega)
  obtain ⟨e0, e1⟩ := mulB c0 c1 (show 0 ≤ k + 1 by omega) (show k + 1 ≤ 101 by omega)
  exact ⟨a0, by omega, b0, by omega, c0, by omega, d0, by omega, e0, by omega⟩
theorem dualI_range {lim k : Int} {p : Pc} (h : DualB lim k p) : 0 ≤ dualI lim k p ∧ dualI lim k p ≤ 10696523776000000 := by
  obtain ⟨_, _, _, _, _, _, s0, s1, t0, t1⟩ := h
  unfold dualI
  split
  · exact ⟨s0, s1⟩
  · exact ⟨t0, t1⟩
theorem dualT_range {lim k : Int} {l : List Pc} (h1 : 1 ≤ lim) (hk : 1 ≤ k ∧ k ≤ 100) (ho : orderB l = true) : ∀ j, j ≤ l.length → 0 ≤ dualT lim k l j ∧ dualT lim k l j ≤ 10696523776000000 * j
  | 0, _ => by simp [dualT]
  | j + 1, h => by
    have ih := dualT_range (lim := lim) (k := k) h1 hk ho j (by omega)
    have := dualI_range (dual_bounds h1 hk (order_at ho (k := j) (by omega)))
    have e : dualT lim k l (j + 1) = dualT lim k l j + dualI lim k (ix l j) := rfl
    omega
def dualR (lim k : Int) (l : List Pc) : Int := upR (dualT lim k l l.length) (k * (k + 1))
theorem kk_range {k : Int} (hk : 1 ≤ k ∧ k ≤ 100) : 1 ≤ k * (k + 1) ∧ k * (k + 1) ≤ 10100 := by
  obtain ⟨_, b⟩ := mulB (show 0 ≤ k by omega) hk.2 (show 0 ≤ k + 1 by omega) (show k + 1 ≤ 101 by omega)
  have := Int.mul_le_mul hk.1 (show (1 : Int) ≤ k + 1 by omega) (by decide) (by omega)
  omega
/-- The best bound by the first numbers. -/
def bestT (lim : Int) (l : List Pc) : Nat → Int
  | 0 => max (matR lim l) (largT lim l l.length)
  | k + 1 => max (bestT lim l k) (dualR lim (k + 1 : Nat) l)
def bestR (lim : Int) (l : List Pc) : Int := bestT lim l 10
def givE (lim : Int) (l : List Pc) : Int := if orderB l = false then 1 else if lim < 1 ∨ 1048576 < lim then 2 else if l.any (fun p => decide (lim < p.len)) = true then 22 else 0
theorem givE_0 {lim : Int} {l : List Pc} (h : givE lim l = 0) : orderB l = true ∧ 1 ≤ lim ∧ lim ≤ 1048576 ∧ ∀ k, k < l.length → (ix l k).len ≤ lim := by
  unfold givE at h
  split at h
  · omega
  · split at h
    · omega
    · split at h
      · omega
      · rename_i h1 h2 h3
        refine ⟨by simpa using h1, by omega, by omega, fun k hk => ?_⟩
        rw [List.any_eq_true] at h3
        refine Int.not_lt.1 fun h4 => h3 ⟨_, ix_mem hk, decide_eq_true h4⟩
theorem over2_pu (l : List Pc) (lim : Int) (k : Nat) : Pu Tryz.prog 85 [.a (cPc (ix l k)), .p 1 0 0] [rPc l, oIx lim] (.v (.bool (decide (lim < (ix l k).len)))) := by
  refine pu_of_ex true [] mixed Tryz.call85 Tryz.func85 rfl Tryz.ntmps85 Tryz.results85 (by decide +kernel) rfl rfl rfl ?_
  refine sxo ?_
  try with_reducible exact trivial
theorem bgiven_pu (lim : Int) (l : List Pc) (c : Nat) (hl : l.length ≤ 9223372036854775807) : Pu Tryz.prog 43 [.v (.int .i64 lim), .s 0 0 0 l.length c 2] [rPc l] (.v (.int .i64 (givE lim l))) := by
  unfold givE
  refine pu_of_ex true [] mixed Tryz.call43 Tryz.func43 rfl Tryz.ntmps43 Tryz.results43 (by decide +kernel) rfl rfl rfl ?_
  refine sxo ?_
  try with_reducible exact trivial
  refine sp_call (order_pu l c hl) rfl [0] rfl (by simp only [push_cast, ↓branch_true, ↓branch_false, Nat.reduceBEq, Nat.reduceAdd, Nat.reduceMul, Nat.reduceSub, Int.reduceToNat, reduceCtorEq, branch_decide, branch_not, branch_beq, branch_bne]) (by simp only [push_cast, ↓branch_true, ↓branch_false, Nat.reduceBEq, Nat.reduceAdd, Nat.reduceMul, Nat.reduceSub, Int.reduceToNat, reduceCtorEq, branch_decide, branch_not, branch_beq, branch_bne]) ?_
  refine sxo ?_
  try with_reducible exact trivial
  cases hvo : orderB l with
  | false =>
    refine sxo ?_
    try with_reducible exact trivial
    try rfl
  | true =>
  refine sxo ?_
  try with_reducible exact trivial
  refine ⟨fun h1 => by rw [if_pos (by omega)], fun h1 => ⟨fun h2 => by rw [if_pos (by omega)], fun h2 => ?_⟩⟩
  rw [if_neg (by omega)]
  refine sp_call (containsPc_pu l c 85 [] [.p 1 0 0] [oIx lim] (fun p => decide (lim < p.len)) rfl hl fun x hx => ?_) rfl [0, 1] rfl ?_ ?_ ?_
  · obtain ⟨k, hk, rfl⟩ := List.getElem_of_mem hx
    have := over2_pu l lim k
    rwa [ix_eq hk] at this
  · refine sxo ?_
    try with_reducible exact trivial
  · refine sxo ?_
    try with_reducible exact trivial
  cases hany : l.any (fun p => decide (lim < p.len)) with
  | true =>
    refine sxo ?_
    try with_reducible exact trivial
    try rfl
  | false =>
    refine sxo ?_
    try with_reducible exact trivial
    try rfl
theorem bup_pu (n m : Int) (h0 : 0 ≤ n) (h1 : n ≤ 4611686018427387904) (h2 : 1 ≤ m) (h3 : m ≤ 4294967296) : Pu Tryz.prog 86 [.v (.int .i64 n), .v (.int .i64 m)] [] (.v (.int .i64 (upR n m))) := by
  refine pu_of_ex true [] mixed Tryz.call86 Tryz.func86 rfl Tryz.ntmps86 Tryz.results86 (by decide +kernel) rfl rfl rfl ?_
  refine sxo ?_
  try with_reducible exact trivial
  have a1 : 0 ≤ (n + m - 1).tdiv m := Int.tdiv_nonneg (by omega) (by omega)
  have a2 : (n + m - 1).tdiv m ≤ n + m - 1 := Int.tdiv_le_self _ (by omega)
  exact ⟨by omega, by omega, by omega, by omega, rfl⟩
theorem bmat_pu (lim : Int) (l : List Pc) (c : Nat) (ho : orderB l = true) (h1 : 1 ≤ lim) (h2 : lim ≤ 1048576) : Pu Tryz.prog 44 [.v (.int .i64 lim), .s 0 0 0 l.length c 2] [rPc l] (.v (.int .i64 (matR lim l))) := by
  obtain ⟨g1, g2⟩ := totL_range ho
  have hll := order_len ho
  refine pu_of_ex true [] mixed Tryz.call44 Tryz.func44 rfl Tryz.ntmps44 Tryz.results44 (by decide +kernel) rfl rfl rfl ?_
  refine sxo ?_
  try with_reducible exact trivial
  refine sp_call (total_pu l c (by omega)) rfl [0] rfl (by simp only [push_cast, ↓branch_true, ↓branch_false, Nat.reduceBEq, Nat.reduceAdd, Nat.reduceMul, Nat.reduceSub, Int.reduceToNat, reduceCtorEq, branch_decide, branch_not, branch_beq, branch_bne]) (by simp only [push_cast, ↓branch_true, ↓branch_false, Nat.reduceBEq, Nat.reduceAdd, Nat.reduceMul, Nat.reduceSub, Int.reduceToNat, reduceCtorEq, branch_decide, branch_not, branch_beq, branch_bne]) ?_
  refine sxo ?_
  try with_reducible exact trivial
  rw [ho]
  refine sxo ?_
  try with_reducible exact trivial
  refine sp_call (bup_pu (totL l) lim (by omega) (by omega) (by omega) (by omega)) rfl [] rfl (by simp only [push_cast, ↓branch_true, ↓branch_false, Nat.reduceBEq, Nat.reduceAdd, Nat.reduceMul, Nat.reduceSub, Int.reduceToNat, reduceCtorEq, branch_decide, branch_not, branch_beq, branch_bne]) (by simp only [push_cast, ↓branch_true, ↓branch_false, Nat.reduceBEq, Nat.reduceAdd, Nat.reduceMul, Nat.reduceSub, Int.reduceToNat, reduceCtorEq, branch_decide, branch_not, branch_beq, branch_bne]) ?_
  refine sxo ?_
  try with_reducible exact trivial
  rfl
theorem blarge_pu (lim : Int) (l : List Pc) (c : Nat) (ho : orderB l = true) : Pu Tryz.prog 45 [.v (.int .i64 lim), .s 0 0 0 l.length c 2] [rPc l] (.v (.int .i64 (largT lim l l.length))) := by
  have hll := order_len ho
  refine pu_of_ex true [] mixed Tryz.call45 Tryz.func45 rfl Tryz.ntmps45 Tryz.results45 (by decide +kernel) rfl rfl rfl ?_
  refine sxo ?_
  try with_reducible exact trivial
  refine tr_loop mixed (by kernel_rfl) (fun (k : Nat) => [(10, .v (.int .i64 k)), (9, .v (.int .i64 l.length)), (8, .s 0 0 0 l.length c 2), (5, .v (.int .i64 (largT lim l k))), (0, .v (.int .i64 lim))]) (fun _ => [rPc l]) (fun k => k ≤ l.length) (fun k => l.length - k) 0 (Nat.zero_le _) (Mt.wk (rl := [0]) ⟨by kernel_rfl, ?_, ?_⟩) ?_
  · refine sxo ?_
    try with_reducible exact trivial
    rfl
  · refine sxo ?_
    try with_reducible exact trivial
  intro k hk
  have hr := larg_range (lim := lim) ho k hk
  refine sxo ?_
  try with_reducible exact trivial
  refine ⟨fun h => ?_, fun h => ?_⟩
  · have h2 := order_at ho (k := k) (by omega)
    have e1 : largT lim l (k + 1) = if lim < 2 * (ix l k).len then largT lim l k + (ix l k).cnt else largT lim l k := rfl
    repeat (with_reducible refine And.intro (by omega) ?_)
    refine ⟨fun h5 => ?_, fun h5 => ?_⟩
    · rw [if_pos h5] at e1
      repeat (with_reducible refine And.intro (by omega) ?_)
      refine lpK_normal (k + 1) [0] (by omega) (by omega) (by kernel_rfl) ?_ ?_
      · simp only [push_cast, ↓branch_true, ↓branch_false, Nat.reduceBEq, Nat.reduceAdd, Nat.reduceMul, Nat.reduceSub, Int.reduceToNat, reduceCtorEq, branch_decide, branch_not, branch_beq, branch_bne, e1]
      · refine sxo ?_
        try with_reducible exact trivial
    · rw [if_neg h5] at e1
      repeat (with_reducible refine And.intro (by omega) ?_)
      refine lpK_normal (k + 1) [0] (by omega) (by omega) (by kernel_rfl) ?_ ?_
      · simp only [push_cast, ↓branch_true, ↓branch_false, Nat.reduceBEq, Nat.reduceAdd, Nat.reduceMul, Nat.reduceSub, Int.reduceToNat, reduceCtorEq, branch_decide, branch_not, branch_beq, branch_bne, e1]
      · refine sxo ?_
        try with_reducible exact trivial
  · obtain rfl : k = l.length := by omega
    rfl
/-- A sum of parts, and what the parts are of. -/
def oPa (s K : Int) : Ob := ⟨158, false, .st [.v (.int .i64 s), .v (.int .i64 K)]⟩
attribute [push_cast] oPa
theorem add_sp (s K cnt num den : Int) (hd : den ≠ 0) (h0 : 0 ≤ cnt * num ∧ cnt * num ≤ 105906176000000) (h1 : -9223372036854775808 ≤ K.tdiv den ∧ K.tdiv den ≤ 9223372036854775807) (h2 : 0 ≤ cnt * num * K.tdiv den ∧ cnt * num * K.tdiv den ≤ 10696523776000000) (h3 : 0 ≤ s ∧ s ≤ 4611686018427387904) :
    Sp Tryz.prog 87 [.p 0 0 0, .v (.int .i64 cnt), .v (.int .i64 num), .v (.int .i64 den)] [oPa s K] (fun r H => r = .t [] ∧ H = [oPa (s + cnt * num * K.tdiv den) K]) := by
  refine sp_weak ?_
  refine sp_of_ex true [(0, .one 0 (.one 1 (.one 2 (.one 4 (.one 5 (.one 6 (.one 7 (.one 8 (.one 9 (.one 11 (.alt [(3, .one 10 (.one 12 (.one 13 (.one 14 (.one 15 (.one 16 (.one 17 .fin))))))), (10, .one 12 (.one 13 (.one 3 (.one 14 (.one 15 (.one 16 (.one 17 .fin)))))))])))))))))))] mixed Tryz.call87 Tryz.func87 rfl Tryz.ntmps87 Tryz.results87 (by decide +kernel) rfl ?_
  refine sxo ?_
  try with_reducible exact trivial
  have key : ∃ r H2 rl, mt rl r (SV.t []) ∧ (keepB 0 rl 1 && nodupB (liveL rl H2) && rl.length.beq H2.length) = true ∧ obsM rl [oPa (s + cnt * num * K.tdiv den) K] rl H2 ∧ r = SV.t [] ∧ H2 = [oPa (s + cnt * num * K.tdiv den) K] := by
    refine ⟨_, _, [0], ?_, by kernel_rfl, ?_, rfl, rfl⟩
    · refine sxo ?_
      try with_reducible exact trivial
    · refine sxo ?_
      try with_reducible exact trivial
  exact ⟨by omega, ⟨hd, by omega, by omega, by omega, key⟩, hd, by omega, by omega, by omega, key⟩
theorem kk_div {k : Int} (hk : 1 ≤ k) : (k * (k + 1)).tdiv k = k + 1 ∧ (k * (k + 1)).tdiv (k + 1) = k := by
  constructor
  · exact Int.mul_tdiv_cancel_left _ (by omega)
  · exact Int.mul_tdiv_cancel _ (by omega)
set_option maxHeartbeats 1000000 in
theorem bdual_pu (lim k : Int) (l : List Pc) (c : Nat) (ho : orderB l = true) (h1 : 1 ≤ lim) (hk : 1 ≤ k ∧ k ≤ 100) : Pu Tryz.prog 46 [.v (.int .i64 lim), .s 0 0 0 l.length c 2, .v (.int .i64 k)] [rPc l] (.v (.int .i64 (dualR lim k l))) := by
  have hll := order_len ho
  have hkk := kk_range hk
  obtain ⟨hd1, hd2⟩ := kk_div hk.1
  refine pu_of_ex true [(7, .one 0 (.one 1 (.one 3 (.one 4 (.one 5 (.one 6 (.one 7 (.one 2 (.one 8 .fin))))))))), (8, .one 0 (.one 1 (.one 3 (.one 4 (.one 5 (.one 6 (.one 2 (.one 7 .fin)))))))), (10, .one 0 (.one 1 (.one 2 (.one 4 (.one 5 (.one 6 (.alt [(3, .one 7 (.one 8 (.one 9 .fin))), (7, .one 3 (.one 8 (.one 9 .fin)))])))))))] mixed Tryz.call46 Tryz.func46 rfl Tryz.ntmps46 Tryz.results46 (by decide +kernel) rfl rfl rfl ?_
  refine sxo ?_
  try with_reducible exact trivial
  repeat (with_reducible refine And.intro (by omega) ?_)
  generalize hK : k * (k + 1) = K at *
  refine tr_loop mixed (by kernel_rfl) (fun (j : Nat) => [(19, .v (.int .i64 j)), (18, .v (.int .i64 l.length)), (17, .s 0 0 0 l.length c 2), (7, .p 1 0 0), (0, .v (.int .i64 lim)), (2, .v (.int .i64 k))]) (fun j => [rPc l, oPa (dualT lim k l j) K]) (fun j => j ≤ l.length) (fun j => l.length - j) 0 (Nat.zero_le _) (Mt.wk (rl := [0, 1]) ⟨by kernel_rfl, ?_, ?_⟩) ?_
  · refine sxo ?_
    try with_reducible exact trivial
  · refine sxo ?_
    try with_reducible exact trivial
    exact rfl
  intro j hj
  have hr := dualT_range h1 hk ho j hj
  refine sxo ?_
  try with_reducible exact trivial
  refine ⟨fun h => ?_, fun h => ?_⟩
  · have hB := dual_bounds h1 hk (order_at ho (k := j) (by omega))
    have e1 : dualT lim k l (j + 1) = dualT lim k l j + dualI lim k (ix l j) := rfl
    obtain ⟨n0, n1, q0, q1, c0, c1, s0, s1, t0, t1⟩ := hB
    unfold dualI at e1
    generalize (k + 1) * (ix l j).len = n at *
    generalize hq : n.tdiv lim = q at *
    have hs3 : 0 ≤ dualT lim k l j ∧ dualT lim k l j ≤ 4611686018427387904 := by omega
    have ha := add_sp (dualT lim k l j) K (ix l j).cnt q (k + 1) (by omega) ⟨c0, c1⟩ (by rw [hd2]; omega) (by rw [hd2]; exact ⟨s0, s1⟩) hs3
    have hb := add_sp (dualT lim k l j) K (ix l j).cnt q k (by omega) ⟨c0, c1⟩ (by rw [hd1]; omega) (by rw [hd1]; exact ⟨t0, t1⟩) hs3
    rw [hd2] at ha
    rw [hd1] at hb
    repeat (with_reducible refine And.intro (by omega) ?_)
    refine ⟨fun h5 => ?_, fun h5 => ?_⟩
    · rw [if_pos h5] at e1
      repeat' (with_reducible (first | apply And.intro | intro _))
      all_goals try omega
      all_goals
        refine sp_at ha [1] rfl ?_ ?_ ?_
        · refine sxo ?_
          try with_reducible exact trivial
        · refine sxo ?_
          try with_reducible exact trivial
        rintro _ _ ⟨rfl, rfl⟩
        refine sxo ?_
        try with_reducible exact trivial
        repeat (with_reducible refine And.intro (by omega) ?_)
        refine lpK_normal (j + 1) [0, 1] (by omega) (by omega) (by kernel_rfl) ?_ ?_
        · refine sxo ?_
          try with_reducible exact trivial
        · simp only [push_cast, ↓branch_true, ↓branch_false, Nat.reduceBEq, Nat.reduceAdd, Nat.reduceMul, Nat.reduceSub, Int.reduceToNat, reduceCtorEq, branch_decide, branch_not, branch_beq, branch_bne, e1]
    · rw [if_neg h5] at e1
      repeat' (with_reducible (first | apply And.intro | intro _))
      all_goals try omega
      all_goals
        refine sp_at hb [1] rfl ?_ ?_ ?_
        · refine sxo ?_
          try with_reducible exact trivial
        · refine sxo ?_
          try with_reducible exact trivial
        rintro _ _ ⟨rfl, rfl⟩
        refine sxo ?_
        try with_reducible exact trivial
        repeat (with_reducible refine And.intro (by omega) ?_)
        refine lpK_normal (j + 1) [0, 1] (by omega) (by omega) (by kernel_rfl) ?_ ?_
        · refine sxo ?_
          try with_reducible exact trivial
        · simp only [push_cast, ↓branch_true, ↓branch_false, Nat.reduceBEq, Nat.reduceAdd, Nat.reduceMul, Nat.reduceSub, Int.reduceToNat, reduceCtorEq, branch_decide, branch_not, branch_beq, branch_bne, e1]
  · obtain rfl : j = l.length := by omega
    repeat (with_reducible refine And.intro (by omega) ?_)
    repeat' (with_reducible (first | apply And.intro | intro _))
    all_goals
      refine sp_call (bup_pu (dualT lim k l l.length) K (by omega) (by omega) (by omega) (by omega)) rfl [] rfl (by simp only [push_cast, ↓branch_true, ↓branch_false, Nat.reduceBEq, Nat.reduceAdd, Nat.reduceMul, Nat.reduceSub, Int.reduceToNat, reduceCtorEq, branch_decide, branch_not, branch_beq, branch_bne]) (by simp only [push_cast, ↓branch_true, ↓branch_false, Nat.reduceBEq, Nat.reduceAdd, Nat.reduceMul, Nat.reduceSub, Int.reduceToNat, reduceCtorEq, branch_decide, branch_not, branch_beq, branch_bne]) ?_
      refine sxo ?_
      try with_reducible exact trivial
      rw [← hK]
      rfl
theorem mat_nn {lim : Int} {l : List Pc} (ho : orderB l = true) (h1 : 1 ≤ lim) : 0 ≤ matR lim l := by
  have := (totL_range ho).1
  exact Int.tdiv_nonneg (by omega) (by omega)
def bF (lim : Int) (l : List Pc) : Nat → Int
  | 0 => 0
  | 1 => max 0 (matR lim l)
  | _ => max (max 0 (matR lim l)) (largT lim l l.length)
def nI : Nat → Int
  | 0 => 0
  | 1 => 1
  | _ => 2
def oFn : Ob := ⟨95, false, .row 1 1 (fun _ => 2) (fun _ => 2) (fun _ => rowF [.f (.func 44) [] [], .f (.func 45) [] []] 1)⟩
attribute [push_cast] oFn
theorem bbest_pu (lim : Int) (l : List Pc) (c : Nat) (hl : l.length ≤ 9223372036854775807) : Pu Tryz.prog 10 [.v (.int .i64 lim), .s 0 0 0 l.length c 2] [rPc l] (.t [.v (.int .i64 (if givE lim l = 0 then bestR lim l else 0)), .v (.int .i64 (givE lim l))]) := by
  refine pu_of_ex true [] mixed Tryz.call10 Tryz.func10 rfl Tryz.ntmps10 Tryz.results10 (by decide +kernel) rfl rfl rfl ?_
  refine sxo ?_
  try with_reducible exact trivial
  refine sp_call (bgiven_pu lim l c hl) rfl [0] rfl (by simp only [push_cast, ↓branch_true, ↓branch_false, Nat.reduceBEq, Nat.reduceAdd, Nat.reduceMul, Nat.reduceSub, Int.reduceToNat, reduceCtorEq, branch_decide, branch_not, branch_beq, branch_bne]) (by simp only [push_cast, ↓branch_true, ↓branch_false, Nat.reduceBEq, Nat.reduceAdd, Nat.reduceMul, Nat.reduceSub, Int.reduceToNat, reduceCtorEq, branch_decide, branch_not, branch_beq, branch_bne]) ?_
  refine sxo ?_
  try with_reducible exact trivial
  by_cases hg : givE lim l = 0
  rotate_left
  · rw [if_neg hg]
    refine sxo ?_
    try with_reducible exact trivial
    exact fun h => absurd h hg
  rw [if_pos hg, hg]
  obtain ⟨ho, h1, h2, _⟩ := givE_0 hg
  refine sxo ?_
  try with_reducible exact trivial
  intro _
  repeat (with_reducible refine And.intro (by omega) ?_)
  have hm0 := mat_nn ho h1
  have hfn : ∀ i : Nat, i < 1 → ∀ k : Nat, k < 2 → mtL [0, 1] (List.take 1 (List.drop (k * 1) [SV.f (Fn.func 44) [] [], SV.f (Fn.func 45) [] []])) (List.take 1 (List.drop (k * 1) [SV.f (Fn.func 44) [] [], SV.f (Fn.func 45) [] []])) := by
    intro _ _ k hk
    obtain rfl | rfl : k = 0 ∨ k = 1 := by omega
    · refine sxo ?_
      try with_reducible exact trivial
    · refine sxo ?_
      try with_reducible exact trivial
  refine tr_loop mixed (by kernel_rfl) (fun (k : Nat) => [(19, .v (.int .i64 (nI k))), (18, .v (.int .i64 2)), (17, .s 1 0 0 2 2 1), (7, .v (.int .i64 (bF lim l k))), (0, .v (.int .i64 lim)), (1, .s 0 0 0 l.length c 2)]) (fun _ => [rPc l, oFn]) (fun k => k ≤ 2) (fun k => 2 - k) 0 (Nat.zero_le _) (Mt.wk (rl := [0, 1]) ⟨by kernel_rfl, ?_, ?_⟩) ?_
  · refine sxo ?_
    try with_reducible exact trivial
    exact ⟨rfl, rfl, rfl⟩
  · refine sxo ?_
    try with_reducible exact trivial
    exact hfn
  intro k hk
  have n0 : nI 0 = 0 := rfl
  have n1 : nI 1 = 1 := rfl
  have n2 : nI 2 = 2 := rfl
  have b0 : bF lim l 0 = 0 := rfl
  have b1 : bF lim l 1 = max 0 (matR lim l) := rfl
  have b2 : bF lim l 2 = max (max 0 (matR lim l)) (largT lim l l.length) := rfl
  obtain rfl | rfl | rfl : k = 0 ∨ k = 1 ∨ k = 2 := by omega
  · simp only [push_cast, ↓branch_true, ↓branch_false, Nat.reduceBEq, Nat.reduceAdd, Nat.reduceMul, Nat.reduceSub, Int.reduceToNat, reduceCtorEq, branch_decide, branch_not, branch_beq, branch_bne, n0, b0]
    refine ⟨fun _ => ?_, fun h => absurd (by decide) h⟩
    repeat (with_reducible refine And.intro (by omega) ?_)
    refine sp_call (bmat_pu lim l c ho h1 h2) rfl [0] rfl ?_ ?_ ?_
    · refine sxo ?_
      try with_reducible exact trivial
    · refine sxo ?_
      try with_reducible exact trivial
    refine sxo ?_
    try with_reducible exact trivial
    repeat (with_reducible refine And.intro (by omega) ?_)
    refine lpK_normal 1 [0, 1] (by omega) (by omega) (by kernel_rfl) ?_ ?_
    · simp only [push_cast, ↓branch_true, ↓branch_false, Nat.reduceBEq, Nat.reduceAdd, Nat.reduceMul, Nat.reduceSub, Int.reduceToNat, reduceCtorEq, branch_decide, branch_not, branch_beq, branch_bne, n1, b1]
      rfl
    · refine sxo ?_
      try with_reducible exact trivial
      exact hfn
  · simp only [push_cast, ↓branch_true, ↓branch_false, Nat.reduceBEq, Nat.reduceAdd, Nat.reduceMul, Nat.reduceSub, Int.reduceToNat, reduceCtorEq, branch_decide, branch_not, branch_beq, branch_bne, n1, b1]
    refine ⟨fun _ => ?_, fun h => absurd (by decide) h⟩
    repeat (with_reducible refine And.intro (by omega) ?_)
    refine sp_call (blarge_pu lim l c ho) rfl [0] rfl ?_ ?_ ?_
    · refine sxo ?_
      try with_reducible exact trivial
    · refine sxo ?_
      try with_reducible exact trivial
    refine sxo ?_
    try with_reducible exact trivial
    repeat (with_reducible refine And.intro (by omega) ?_)
    refine lpK_normal 2 [0, 1] (by omega) (by omega) (by kernel_rfl) ?_ ?_
    · simp only [push_cast, ↓branch_true, ↓branch_false, Nat.reduceBEq, Nat.reduceAdd, Nat.reduceMul, Nat.reduceSub, Int.reduceToNat, reduceCtorEq, branch_decide, branch_not, branch_beq, branch_bne, n2, b2]
      rfl
    · refine sxo ?_
      try with_reducible exact trivial
      exact hfn
  simp only [push_cast, ↓branch_true, ↓branch_false, Nat.reduceBEq, Nat.reduceAdd, Nat.reduceMul, Nat.reduceSub, Int.reduceToNat, reduceCtorEq, branch_decide, branch_not, branch_beq, branch_bne, n2, b2]
  refine ⟨fun h => absurd h (by decide), fun _ => ?_⟩
  have e0 : max (max 0 (matR lim l)) (largT lim l l.length) = bestT lim l 0 := by
    rw [show max 0 (matR lim l) = matR lim l by omega]; rfl
  rw [e0]
  refine tr_loop mixed (by kernel_rfl) (fun (k : Nat) => [(10, .v (.int .i64 (k + 1 : Nat))), (7, .v (.int .i64 (bestT lim l k))), (0, .v (.int .i64 lim)), (1, .s 0 0 0 l.length c 2)]) (fun _ => [rPc l]) (fun k => k ≤ 10) (fun k => 10 - k) 0 (Nat.zero_le _) (Mt.wk (rl := [0]) ⟨by kernel_rfl, ?_, ?_⟩) ?_
  · refine sxo ?_
    try with_reducible exact trivial
    rfl
  · refine sxo ?_
    try with_reducible exact trivial
  intro k hk
  have e1 : bestT lim l (k + 1) = max (bestT lim l k) (dualR lim (k + 1 : Nat) l) := rfl
  refine sxo ?_
  try with_reducible exact trivial
  refine ⟨fun h => ?_, fun h => ?_⟩
  · refine sp_call (bdual_pu lim (k + 1 : Nat) l c ho h1 (by omega)) rfl [0] rfl (by simp only [push_cast, ↓branch_true, ↓branch_false, Nat.reduceBEq, Nat.reduceAdd, Nat.reduceMul, Nat.reduceSub, Int.reduceToNat, reduceCtorEq, branch_decide, branch_not, branch_beq, branch_bne]) (by simp only [push_cast, ↓branch_true, ↓branch_false, Nat.reduceBEq, Nat.reduceAdd, Nat.reduceMul, Nat.reduceSub, Int.reduceToNat, reduceCtorEq, branch_decide, branch_not, branch_beq, branch_bne]) ?_
    refine sxo ?_
    try with_reducible exact trivial
    repeat (with_reducible refine And.intro (by omega) ?_)
    refine lpK_normal (k + 1) [0] (by omega) (by omega) (by kernel_rfl) ?_ ?_
    · simp only [push_cast, ↓branch_true, ↓branch_false, Nat.reduceBEq, Nat.reduceAdd, Nat.reduceMul, Nat.reduceSub, Int.reduceToNat, reduceCtorEq, branch_decide, branch_not, branch_beq, branch_bne, e1]
    · refine sxo ?_
      try with_reducible exact trivial
  · obtain rfl : k = 10 := by omega
    rfl
end Go.Proofs.YtolioflblegneaaGreat.Pat
namespace Go.Proofs.YtolioflblegneaaGreat.Pat
open Go.RowKit
/-- The length of all pieces. -/
def aft : List Pc → Int
  | [] => 0
  | p :: l => p.cnt * p.len + aft l
theorem aft_bound : ∀ (l : List Pc), (∀ p ∈ l, 1 ≤ p.len ∧ p.len ≤ 1048576 ∧ 1 ≤ p.cnt ∧ p.cnt ≤ 1000000) → 0 ≤ aft l ∧ aft l ≤ 1048576000000 * l.length
  | [], _ => by simp [aft]
  | p :: l, h => by
    have ih := aft_bound l fun q hq => h q (List.mem_cons_of_mem _ hq)
    have hp := h p List.mem_cons_self
    simp only [aft, List.length_cons]
    have h1 : 0 ≤ p.cnt * p.len := Int.mul_nonneg (by omega) (by omega)
    have h2 : p.cnt * p.len ≤ 1000000 * 1048576 := Int.mul_le_mul (by omega) (by omega) (by omega) (by omega)
    push_cast
    omega
theorem order_mem {l : List Pc} (h : orderB l = true) {p : Pc} (hp : p ∈ l) : 1 ≤ p.len ∧ p.len ≤ 1048576 ∧ 1 ≤ p.cnt ∧ p.cnt ≤ 1000000 := by
  obtain ⟨k, hk, rfl⟩ := List.mem_iff_getElem.1 hp
  rw [← ix_eq hk]
  exact order_at h hk
/-- A search: the order, the numbers now, the lengths behind, what it found, prices, the best. -/
def oS (n c np cp cn ca : Nat) (out best : SV) (most : Int) : Ob := ⟨208, false, .st [.s 0 0 0 n c 2, .s 2 0 0 n cn 1, .s 3 0 0 (n + 1) ca 1, out, .s 1 0 0 np cp 1, best, .v (.int .i64 most)]⟩
attribute [push_cast] oS
theorem begin_sp (l : List Pc) (pr : List Int) (c cp : Nat) (ho : orderB l = true) : Sp Tryz.prog 130 [.s 0 0 0 l.length c 2, .s 1 0 0 pr.length cp 1] [rPc l, rInt 3 pr]
    (fun r H => r = .p 4 0 0 ∧ H = [rPc l, rInt 3 pr, rOwn 3 l.length l.length (fun _ => 0), rOwn 3 (l.length + 1) (l.length + 1) (fun k => aft (l.drop k)), oS l.length c pr.length cp l.length (l.length + 1) (.v (.slice none 0 0)) (.v (.slice none 0 0)) (-1)]) := by
  have hl := order_len ho
  have h0 : ∀ k, k < l.length + 1 → Value.int .i64 (if (k : Int) ≤ l.length - 1 then 0 else aft (l.drop k)) = Value.int .i64 0 := fun k hk => by
    by_cases e : (k : Int) ≤ l.length - 1
    · rw [if_pos e]
    · rw [if_neg e, show k = l.length by omega, List.drop_length]; rfl
  refine sp_of_ex true [(1, .one 0 (.one 1 (.one 2 (.one 4 (.one 5 (.one 6 (.one 8 (.alt [(3, .one 7 (.one 9 (.one 10 (.one 11 .fin)))), (7, .one 3 (.one 9 (.one 10 (.one 11 .fin))))]))))))))] mixed Tryz.call130 Tryz.func130 rfl Tryz.ntmps130 Tryz.results130 (by decide +kernel) rfl ?_
  refine sxo ?_
  try with_reducible exact trivial
  repeat' (with_reducible (first | apply And.intro | intro _))
  all_goals try omega
  all_goals refine tr_wk (σ' := [(5, .p 4 0 0), (6, .v (.int .i64 (l.length - 1))), (0, .s 0 0 0 l.length c 2)]) (H' := [rPc l, rInt 3 pr, rOwn 3 l.length l.length (fun _ => 0), rOwn 3 (l.length + 1) (l.length + 1) (fun k => if (k : Int) ≤ l.length - 1 then 0 else aft (l.drop k)), oS l.length c pr.length cp l.length (l.length + 1) (.v (.slice none 0 0)) (.v (.slice none 0 0)) (-1)]) ?_ ?_
  · refine Mt.wk (rl := [0, 1, 2, 3, 4]) ⟨by kernel_rfl, ?_, ?_⟩
    · refine sxo ?_
      try with_reducible exact trivial
    · refine sxo ?_
      try with_reducible exact trivial
      exact ⟨fun i hi => ⟨by omega, by omega, fun k hk => h0 k hk⟩, by omega, by omega⟩
  rotate_left
  · refine Mt.wk (rl := [0, 1, 3, 2, 4]) ⟨by kernel_rfl, ?_, ?_⟩
    · refine sxo ?_
      try with_reducible exact trivial
    · refine sxo ?_
      try with_reducible exact trivial
      exact ⟨fun i hi => ⟨by omega, by omega, fun k hk => h0 k hk⟩, by omega, by omega⟩
  all_goals
    refine tr_loop mixed (by kernel_rfl) (fun (i : Int) => [(5, .p 4 0 0), (6, .v (.int .i64 i)), (0, .s 0 0 0 l.length c 2)]) (fun i => [rPc l, rInt 3 pr, rOwn 3 l.length l.length (fun _ => 0), rOwn 3 (l.length + 1) (l.length + 1) (fun k => if (k : Int) ≤ i then 0 else aft (l.drop k)), oS l.length c pr.length cp l.length (l.length + 1) (.v (.slice none 0 0)) (.v (.slice none 0 0)) (-1)])
      (fun i => -1 ≤ i ∧ i < l.length) (fun i => (i + 1).toNat) (l.length - 1) ⟨by omega, by omega⟩ (Mt.wk (rl := [0, 1, 2, 3, 4]) ⟨by kernel_rfl, ?_, ?_⟩) ?_
    · refine sxo ?_
      try with_reducible exact trivial
    · refine sxo ?_
      try with_reducible exact trivial
    rintro i ⟨hi, hi2⟩
    refine sxo ?_
    try with_reducible exact trivial
    refine ⟨fun h1 => ?_, fun h1 => ?_⟩
    · have hat := order_at ho (k := i.toNat) (by omega)
      have hb := aft_bound l fun p hp => order_mem ho hp
      have hb2 := aft_bound (l.drop (i + 1).toNat) fun p hp => order_mem ho (List.mem_of_mem_drop hp)
      have hd : aft (l.drop i.toNat) = (ix l i.toNat).cnt * (ix l i.toNat).len + aft (l.drop (i + 1).toNat) := by
        rw [drop_ix (by omega), aft, show i.toNat + 1 = (i + 1).toNat by omega]
      have hm1 : 0 ≤ (ix l i.toNat).cnt * (ix l i.toNat).len := Int.mul_nonneg (by omega) (by omega)
      have hm2 : (ix l i.toNat).cnt * (ix l i.toNat).len ≤ 1000000 * 1048576 := Int.mul_le_mul (by omega) (by omega) (by omega) (by omega)
      have hdl : (l.drop (i + 1).toNat).length ≤ 200 := by rw [List.length_drop]; omega
      rw [if_neg (by omega)]
      repeat (with_reducible refine And.intro (by omega) ?_)
      refine lpK_normal (i - 1) [0, 1, 2, 3, 4] ⟨by omega, by omega⟩ (by omega) (by kernel_rfl) ?_ ?_
      · refine sxo ?_
        try with_reducible exact trivial
      · refine sxo ?_
        try with_reducible exact trivial
        intro j hj k hk
        obtain rfl : j = 0 := by omega
        by_cases e : k = i.toNat
        · subst e
          simp only [beq_self_eq_true, Bool.and_self, cond_true, mtL, and_true]
          rw [if_neg (by omega), hd, Int.add_comm]
        · have eb : (k == i.toNat) = false := by simpa using e
          simp only [eb, Bool.and_false, cond_false, mtL, and_true]
          by_cases e2 : (k : Int) ≤ i
          · rw [if_pos (by omega), if_pos e2]
          · rw [if_neg (by omega), if_neg e2]
    · obtain rfl : i = -1 := by omega
      have e : (fun (x : Nat) (k : Nat) => [SV.v (Value.int .i64 (if (k : Int) ≤ -1 then 0 else aft (l.drop k)))]) = fun x k => [SV.v (Value.int .i64 (aft (l.drop k)))] := by
        funext x k
        rw [if_neg (by omega)]
      simp only [e, and_self]
end Go.Proofs.YtolioflblegneaaGreat.Pat
namespace Go.Proofs.YtolioflblegneaaGreat.Pat
open Go.RowKit
/-- A row of ints by its elements, read or owned. -/
def rF (ro : Bool) (n cap : Nat) (f : Nat → Int) : Ob := ⟨3, ro, .row 1 1 (fun _ => n) (fun _ => cap) (fun _ k => [.v (.int .i64 (f k))])⟩
attribute [push_cast] rF
theorem clone_sp (ro : Bool) (n c cc : Nat) (f : Nat → Int) (hc : n ≤ c) (hn : n ≤ 1000000) : Sp Tryz.prog 84 [.s 0 0 0 n c 1] [rF ro n cc f] (fun r H => ∃ cap, n ≤ cap ∧ r = .s 1 0 0 n cap 1 ∧ H = [rF ro n cc f, rOwn 3 n cap f]) := by
  refine sp_weak ?_
  refine sp_of_ex true [] mixed Tryz.call84 Tryz.func84 rfl Tryz.ntmps84 Tryz.results84 (by decide +kernel) rfl ?_
  refine sxo ?_
  try with_reducible exact trivial
  intro b hb
  cases b
  · simp only [branch_false]
    refine ⟨by omega, by omega, ?_, appZ_of (fun h => ?_) fun _ => .inl ⟨by omega, by omega, fun cap hcap => ?_⟩⟩
    · unfold srcOk
      split <;> simp [lenP, lenIs, ones, one1]
    · subst h
      refine ⟨_, _, [0, 1], ?_, ?_, ?_, 0, Nat.le_refl _, rfl, rfl⟩
      · refine sxo ?_
        try with_reducible exact trivial
      · kernel_rfl
      · refine sxo ?_
        try with_reducible exact trivial
        cases ro <;> simp [rowM]
    · refine ⟨_, _, [0, 2], ?_, ?_, ?_, cap, hcap, rfl, rfl⟩
      · refine sxo ?_
        try with_reducible exact trivial
      · kernel_rfl
      · refine sxo ?_
        try with_reducible exact trivial
        cases ro <;> simp
  · simp only [branch_true]
    have hc0 : c = 0 := by
      rcases Nat.eq_zero_or_pos c with h | h
      · exact h
      · have := hb h; cases this
    obtain rfl : n = 0 := by omega
    refine ⟨_, _, [0, 1], ?_, ?_, ?_, 0, Nat.le_refl _, rfl, rfl⟩
    · refine sxo ?_
      try with_reducible exact trivial
    · kernel_rfl
    · refine sxo ?_
      try with_reducible exact trivial
      cases ro <;> simp [rowM]
end Go.Proofs.YtolioflblegneaaGreat.Pat
namespace Go.Proofs.YtolioflblegneaaGreat.Pat
open Go.RowKit
def mostF (p : Pc) (rest : Int) : Int := min p.cnt (rest / p.len)
def downG {α : Type} (g : Int → List α) (stop : Int → Bool) : Nat → List α
  | 0 => if stop 0 then [] else g 0
  | n + 1 => if stop (n + 1) then [] else g (n + 1) ++ downG g stop n
def preF (nf : Nat → Int) (i : Nat) : List Int := (List.range i).map nf
theorem preF_len (nf : Nat → Int) (i : Nat) : (preF nf i).length = i := by simp [preF]
theorem preF_ix (nf : Nat → Int) (i k : Nat) (h : k < i) : ix (preF nf i) k = nf k := by
  rw [ix_eq (by simpa [preF] using h)]
  simp [preF]
theorem ix_snoc {α : Type} [Inhabited α] (l : List α) (a : α) : ix (l ++ [a]) l.length = a := by
  rw [ix_eq (by simp)]; simp
theorem ix_app {α : Type} [Inhabited α] {l : List α} {a : α} {k : Nat} (h : k < l.length) : ix (l ++ [a]) k = ix l k := by
  rw [ix_eq (by simp; omega), ix_eq h, List.getElem_append_left h]
theorem preF_next (nf nf1 : Nat → Int) (i : Nat) (n : Int) (h : ∀ k, k < i → nf1 k = nf k) : preF (fun k => if k = i then n else nf1 k) (i + 1) = preF nf i ++ [n] := by
  unfold preF
  rw [List.range_succ, List.map_append]
  congr 1
  · refine List.map_congr_left fun k hk => ?_
    have := List.mem_range.1 hk
    rw [if_neg (by omega), h k this]
  · simp
def oFam (n m : Nat) (caps : Nat → Nat) (pats : List (List Int)) : Ob := ⟨3, false, .row 1 m (fun _ => n) caps (fun k t => [.v (.int .i64 (ix (ix pats k) t))])⟩
attribute [push_cast] oFam
end Go.Proofs.YtolioflblegneaaGreat.Pat
namespace Go.Proofs.YtolioflblegneaaGreat.Pat
open Go.RowKit
def downS {σ : Type} (f : Int → σ → σ) : Nat → σ → σ
  | 0, s => f 0 s
  | n + 1, s => downS f n (f (n + 1) s)
/-- What is hoped for. -/
def hopeF (rest : Int) : List Pc → List Int → Int
  | p :: l, q :: qs => mostF p rest * q + hopeF rest l qs
  | _, _ => 0
theorem hopeF_step {rest : Int} {l : List Pc} {qs : List Int} {k : Nat} (h1 : k < l.length) (h2 : k < qs.length) : hopeF rest (l.drop k) (qs.drop k) = mostF (ix l k) rest * ix qs k + hopeF rest (l.drop (k + 1)) (qs.drop (k + 1)) := by
  rw [drop_ix h1, drop_ix h2, hopeF]
theorem most_bound {p : Pc} {rest : Int} (hp : 1 ≤ p.len ∧ p.len ≤ 1048576 ∧ 1 ≤ p.cnt ∧ p.cnt ≤ 1000000) (h0 : 0 ≤ rest) (h1 : rest ≤ 1048576) : 0 ≤ mostF p rest ∧ mostF p rest ≤ 1048576 ∧ mostF p rest ≤ rest / p.len := by
  have hq0 : 0 ≤ rest / p.len := Int.ediv_nonneg h0 (by omega)
  have hq1 : rest / p.len ≤ rest := Int.ediv_le_self _ h0
  unfold mostF
  omega
/-- The best pattern so far, and its price. -/
abbrev Bst := List Int × Int
def dearG : List Pc → List Int → List Int → Int → Int → Bst → Bst
  | p :: ps, q :: qs, pre, rest, price, s =>
    if price + hopeF rest (p :: ps) (q :: qs) ≤ s.2 then s
    else downS (fun n s => dearG ps qs (pre ++ [n]) (rest - n * p.len) (price + n * q) s) (mostF p rest).toNat s
  | _, _, pre, _, price, s => if s.2 < price then (pre, price) else s
theorem downS_next {σ : Type} {f : Int → σ → σ} {n : Int} {s : σ} (h : 0 ≤ n) : downS f n.toNat s = if n - 1 < 0 then f n s else downS f (n - 1).toNat (f n s) := by
  obtain ⟨m, rfl⟩ := Int.eq_ofNat_of_zero_le h
  cases m with
  | zero => simp [downS]
  | succ m =>
    have e : ((m + 1 : Nat) : Int) = (m : Int) + 1 := by omega
    rw [if_neg (by omega), show (((m + 1 : Nat) : Int) - 1).toNat = m by omega, show ((m + 1 : Nat) : Int).toNat = m + 1 by omega, downS, e]
theorem downS_inv {σ : Type} {f : Int → σ → σ} (Q : σ → Prop) (h : ∀ n s, Q s → Q (f n s)) : ∀ (m : Nat) (s : σ), Q s → Q (downS f m s)
  | 0, s, hs => h 0 s hs
  | m + 1, s, hs => downS_inv Q h m _ (h _ s hs)
theorem dearG_ge : ∀ (l : List Pc) (qs pre : List Int) (rest price : Int) (s : Bst), s.2 ≤ (dearG l qs pre rest price s).2
  | [], qs, pre, rest, price, s => by
    simp only [dearG]
    split
    · simp only; omega
    · exact Int.le_refl _
  | p :: l, [], pre, rest, price, s => by
    simp only [dearG]
    split
    · simp only; omega
    · exact Int.le_refl _
  | p :: l, q :: qs, pre, rest, price, s => by
    simp only [dearG]
    split
    · exact Int.le_refl _
    · exact downS_inv (fun t => s.2 ≤ t.2) (fun n t ht => Int.le_trans ht (dearG_ge l qs _ _ _ t)) _ s (Int.le_refl _)
/-- A search that knows a best pattern. -/
def oB (n c np cp bi bl bc : Nat) (most : Int) : Ob := oS n c np cp n (n + 1) (.v (.slice none 0 0)) (.s 5 bi 0 bl bc 1) most
attribute [push_cast] oB
/-- What is known of the best pattern: none yet, or the last of the family. -/
def BstOk (n nb bi bl bc : Nat) (caps : Nat → Nat) (bf : List (List Int)) (s : Bst) : Prop := bf.length = nb ∧ ((bl = 0 ∧ bc = 0 ∧ s.1 = []) ∨ (bi < nb ∧ bl = n ∧ bc = caps bi ∧ s.1 = ix bf bi ∧ s.1.length = n))
set_option pp.deepTerms false in
set_option pp.maxSteps 6000 in
theorem dearest_sp (l : List Pc) (pr : List Int) (c cp : Nat) (ho : orderB l = true) (hpr : pr.length = l.length) (hpq : ∀ q ∈ pr, 0 ≤ q ∧ q ≤ 1073741824) : ∀ (d i : Nat) (rest price : Int) (nf : Nat → Int) (bf : List (List Int)) (caps : Nat → Nat) (bi bl bc : Nat) (s : Bst), i + d = l.length → 0 ≤ rest → rest ≤ 1048576 → 0 ≤ price → price ≤ 1125899906842624 * i → -1 ≤ s.2 → s.2 ≤ 1125899906842624 * l.length →
    BstOk l.length bf.length bi bl bc caps bf s →
    Sp Tryz.prog 131 [.p 4 0 0, .v (.int .i64 i), .v (.int .i64 rest), .v (.int .i64 price)] [rPc l, rInt 3 pr, rOwn 3 l.length l.length nf, rOwn 3 (l.length + 1) (l.length + 1) (fun k => aft (l.drop k)), oB l.length c pr.length cp bi bl bc s.2, oFam l.length bf.length caps bf]
      (fun r H => ∃ nf' bf' caps' bi' bl' bc' s', r = .t [] ∧ (∀ k, k < i → nf' k = nf k) ∧ s' = dearG (l.drop i) (pr.drop i) (preF nf i) rest price s ∧ s'.2 ≤ 1125899906842624 * l.length ∧ BstOk l.length bf'.length bi' bl' bc' caps' bf' s' ∧
        H = [rPc l, rInt 3 pr, rOwn 3 l.length l.length nf', rOwn 3 (l.length + 1) (l.length + 1) (fun k => aft (l.drop k)), oB l.length c pr.length cp bi' bl' bc' s'.2, oFam l.length bf'.length caps' bf']) := by
  have hl := order_len ho
  intro d
  induction d with
  | zero =>
    intro i rest price nf bf caps bi bl bc s hi h0 h1 hp0 hp1 hs hs2 hb
    obtain rfl : i = l.length := by omega
    refine sp_wk ?_
    refine sp_of_ex true [(13, .one 0 (.one 1 (.one 2 (.one 3 (.one 4 (.one 5 (.one 6 (.one 7 (.one 9 (.one 15 (.one 16 (.one 17 (.one 18 (.one 19 (.one 21 (.alt [(8, .one 10 (.one 11 (.alt [(12, .one 13 (.one 14 (.one 20 (.one 22 (.one 23 (.one 24 (.one 25 (.one 26 .fin)))))))), (20, .one 22 (.alt [(12, .one 13 (.one 14 (.one 23 (.one 24 (.one 25 (.one 26 .fin)))))), (23, .one 24 (.one 25 (.one 12 (.one 13 (.one 14 (.one 26 .fin))))))]))]))), (20, .one 22 (.alt [(8, .one 10 (.one 11 (.alt [(12, .one 13 (.one 14 (.one 23 (.one 24 (.one 25 (.one 26 .fin)))))), (23, .one 24 (.one 25 (.one 12 (.one 13 (.one 14 (.one 26 .fin))))))]))), (23, .one 24 (.one 25 (.one 8 (.one 10 (.one 11 (.one 12 (.one 13 (.one 14 (.one 26 .fin)))))))))]))]))))))))))))))))] mixed Tryz.call131 Tryz.func131 rfl Tryz.ntmps131 Tryz.results131 (by decide +kernel) rfl ?_
    refine sxo ?_
    try with_reducible exact trivial
    refine ⟨fun h => ?_, fun h => ?_⟩
    · refine sp_at (clone_sp false l.length l.length l.length nf (Nat.le_refl _) (by omega)) [2] rfl ?_ ?_ ?_
      · refine sxo ?_
        try with_reducible exact trivial
      · refine sxo ?_
        try with_reducible exact trivial
      · rintro r0 H1 ⟨cap, hcap, rfl, rfl⟩
        refine sxo ?_
        try with_reducible exact trivial
        refine ⟨_, _, (vwk_join 5 6 (by omega) (by omega) ?_).trans (vwk_mt [0, 1, 2, 3, 4, 5] ?_ ?_ ?_), nf, bf ++ [preF nf l.length], fun k => bif k == bf.length then cap else caps k, bf.length, l.length, cap, (preF nf l.length, price), rfl, fun k hk => rfl, ?_, ?_, ?_, rfl⟩
        · refine sxo ?_
          try with_reducible exact trivial
        · refine sxo ?_
          try with_reducible exact trivial
        · kernel_rfl
        · have hlen : (bf ++ [preF nf l.length]).length = bf.length + 1 := by simp
          refine sxo ?_
          try with_reducible exact trivial
          refine ⟨hlen, fun i hi => ⟨by cases (i == bf.length) <;> simp, fun k hk => ?_⟩⟩
          by_cases e : i = bf.length
          · subst e
            simp only [beq_self_eq_true, cond_true, ix_snoc, preF_ix _ _ _ hk, jnL, jn1, mtL, mt, and_true]
          · have eb : (i == bf.length) = false := by simpa using e
            simp only [eb, cond_false, ix_app (show i < bf.length by omega), jnL, jn1, mtL, mt, and_true]
        · rw [List.drop_length, dearG, if_pos (by omega)]
          all_goals simp
        · simp only; omega
        · refine ⟨rfl, .inr ⟨by simp, rfl, by simp, by rw [ix_snoc], preF_len _ _⟩⟩
    · refine ⟨_, _, vwk_mt [0, 1, 2, 3, 4, 5] ?_ ?_ ?_, nf, bf, caps, bi, bl, bc, s, rfl, fun k hk => rfl, ?_, hs2, hb, rfl⟩
      · refine sxo ?_
        try with_reducible exact trivial
      · kernel_rfl
      · refine sxo ?_
        try with_reducible exact trivial
      · rw [List.drop_length, dearG, if_neg (by omega)]
        all_goals simp
  | succ d ih =>
    intro i rest price nf bf caps bi bl bc s hi h0 h1 hp0 hp1 hs hs2 hb
    have hk : i < l.length := by omega
    have hat := order_at ho hk
    refine sp_wk ?_
    refine sp_of_ex true [(13, .one 0 (.one 1 (.one 2 (.one 3 (.one 4 (.one 5 (.one 6 (.one 7 (.one 9 (.one 15 (.one 16 (.one 17 (.one 18 (.one 19 (.one 21 (.alt [(8, .one 10 (.one 11 (.alt [(12, .one 13 (.one 14 (.one 20 (.one 22 (.one 23 (.one 24 (.one 25 (.one 26 .fin)))))))), (20, .one 22 (.alt [(12, .one 13 (.one 14 (.one 23 (.one 24 (.one 25 (.one 26 .fin)))))), (23, .one 24 (.one 25 (.one 12 (.one 13 (.one 14 (.one 26 .fin))))))]))]))), (20, .one 22 (.alt [(8, .one 10 (.one 11 (.alt [(12, .one 13 (.one 14 (.one 23 (.one 24 (.one 25 (.one 26 .fin)))))), (23, .one 24 (.one 25 (.one 12 (.one 13 (.one 14 (.one 26 .fin))))))]))), (23, .one 24 (.one 25 (.one 8 (.one 10 (.one 11 (.one 12 (.one 13 (.one 14 (.one 26 .fin)))))))))]))]))))))))))))))))] mixed Tryz.call131 Tryz.func131 rfl Tryz.ntmps131 Tryz.results131 (by decide +kernel) rfl ?_
    refine sxo ?_
    try with_reducible exact trivial
    refine ⟨fun h => by omega, fun _ => ?_⟩
    refine tr_loop0 mixed (by kernel_rfl) (fun (x : Nat × Int) => [(9, .v (.int .i64 x.1)), (8, .v (.int .i64 x.2)), (0, .p 4 0 0), (1, .v (.int .i64 i)), (2, .v (.int .i64 rest)), (3, .v (.int .i64 price))]) (fun x => i ≤ x.1 ∧ x.1 ≤ l.length ∧ 0 ≤ x.2 ∧ x.2 ≤ 1125899906842624 * x.1 ∧ price + hopeF rest (l.drop i) (pr.drop i) = x.2 + hopeF rest (l.drop x.1) (pr.drop x.1)) (fun x => l.length - x.1) (i, price) ⟨Nat.le_refl _, by simp only; omega, hp0, hp1, rfl⟩ ?_ ?_
    · refine sxo ?_
      try with_reducible exact trivial
    · rintro ⟨k, m⟩ ⟨r1, r2, r3, r4, r5⟩
      simp only at r1 r2 r3 r4 r5
      refine sxo ?_
      try with_reducible exact trivial
      refine ⟨fun h => ?_, fun h => ?_⟩
      · have hk2 : k < l.length := by omega
        have hat2 := order_at ho hk2
        have htd : rest.tdiv (ix l k).len = rest / (ix l k).len := Int.tdiv_eq_ediv_of_nonneg h0
        have hM : min (ix l k).cnt (rest / (ix l k).len) = mostF (ix l k) rest := rfl
        obtain ⟨m0, m1, m2⟩ := most_bound hat2 h0 h1
        have hq := hpq _ (ix_mem (l := pr) (k := k) (by omega))
        have b1 : 0 ≤ mostF (ix l k) rest * ix pr k := Int.mul_nonneg m0 hq.1
        have b2 : mostF (ix l k) rest * ix pr k ≤ 1048576 * 1073741824 := Int.mul_le_mul m1 hq.2 hq.1 (by omega)
        have hst := hopeF_step (rest := rest) hk2 (show k < pr.length by omega)
        simp only [htd, hM]
        have hq0 : 0 ≤ rest / (ix l k).len := Int.ediv_nonneg h0 (by omega)
        have hq1 : rest / (ix l k).len ≤ rest := Int.ediv_le_self _ h0
        repeat (with_reducible refine And.intro (by omega) ?_)
        refine lp0_normal (k + 1, m + mostF (ix l k) rest * ix pr k) ⟨by simp only; omega, by simp only; omega, by simp only; omega, by simp only; push_cast; omega, ?_⟩ (by simp only; omega) ?_
        · simp only
          rw [r5, hst]
          omega
        · refine sxo ?_
          try with_reducible exact trivial
      · obtain rfl : k = l.length := by omega
        have hh : hopeF rest (l.drop l.length) (pr.drop l.length) = 0 := by rw [List.drop_length]; rfl
        rw [hh, Int.add_zero] at r5
        refine ⟨fun hle => ?_, fun hgt => ?_⟩
        · refine ⟨_, _, vwk_mt [0, 1, 2, 3, 4, 5] ?_ ?_ ?_, nf, bf, caps, bi, bl, bc, s, rfl, fun k hk => rfl, ?_, hs2, hb, rfl⟩
          · refine sxo ?_
            try with_reducible exact trivial
          · kernel_rfl
          · refine sxo ?_
            try with_reducible exact trivial
          · rw [drop_ix hk, drop_ix (show i < pr.length by omega), dearG, ← drop_ix hk, ← drop_ix (show i < pr.length by omega), if_pos (by omega)]
        · have hat := order_at ho hk
          have htd : rest.tdiv (ix l i).len = rest / (ix l i).len := Int.tdiv_eq_ediv_of_nonneg h0
          have hq0 : 0 ≤ rest / (ix l i).len := Int.ediv_nonneg h0 (by omega)
          have hq1 : rest / (ix l i).len ≤ rest := Int.ediv_le_self _ h0
          have hM : min (ix l i).cnt (rest / (ix l i).len) = mostF (ix l i) rest := rfl
          obtain ⟨m0, m1, m2⟩ := most_bound hat h0 h1
          have hq := hpq _ (ix_mem (l := pr) (k := i) (by omega))
          have htot : dearG (l.drop i) (pr.drop i) (preF nf i) rest price s = downS (fun n s => dearG (l.drop (i + 1)) (pr.drop (i + 1)) (preF nf i ++ [n]) (rest - n * (ix l i).len) (price + n * ix pr i) s) (mostF (ix l i) rest).toNat s := by
            rw [drop_ix hk, drop_ix (show i < pr.length by omega), dearG, ← drop_ix hk, ← drop_ix (show i < pr.length by omega), if_neg (by omega)]
          rw [htot]
          clear htot
          simp only [htd, hM]
          generalize mostF (ix l i) rest = M at m0 m1 m2
          generalize hf : (fun n s => dearG (l.drop (i + 1)) (pr.drop (i + 1)) (preF nf i ++ [n]) (rest - n * (ix l i).len) (price + n * ix pr i) s) = f
          repeat (with_reducible refine And.intro (by omega) ?_)
          refine tr_loop mixed (by kernel_rfl) (fun (x : Int × (Nat → Int) × List (List Int) × (Nat → Nat) × Nat × Nat × Nat × Bst) => [(10, .v (.int .i64 x.1)), (0, .p 4 0 0), (1, .v (.int .i64 i)), (2, .v (.int .i64 rest)), (3, .v (.int .i64 price))])
            (fun x => [rPc l, rInt 3 pr, rOwn 3 l.length l.length x.2.1, rOwn 3 (l.length + 1) (l.length + 1) (fun k => aft (l.drop k)), oB l.length c pr.length cp x.2.2.2.2.1 x.2.2.2.2.2.1 x.2.2.2.2.2.2.1 x.2.2.2.2.2.2.2.2, oFam l.length x.2.2.1.length x.2.2.2.1 x.2.2.1])
            (fun x => -1 ≤ x.1 ∧ x.1 ≤ M ∧ (∀ k, k < i → x.2.1 k = nf k) ∧ -1 ≤ x.2.2.2.2.2.2.2.2 ∧ x.2.2.2.2.2.2.2.2 ≤ 1125899906842624 * l.length ∧ BstOk l.length x.2.2.1.length x.2.2.2.2.1 x.2.2.2.2.2.1 x.2.2.2.2.2.2.1 x.2.2.2.1 x.2.2.1 x.2.2.2.2.2.2.2 ∧ downS f M.toNat s = (if x.1 < 0 then x.2.2.2.2.2.2.2 else downS f x.1.toNat x.2.2.2.2.2.2.2))
            (fun x => (x.1 + 1).toNat) (M, nf, bf, caps, bi, bl, bc, s) ⟨by simp only; omega, by simp only; omega, fun k hk => rfl, hs, hs2, hb, by simp only; rw [if_neg (by omega)]⟩ (Mt.wk (rl := [0, 1, 2, 3, 4, 5]) ⟨by kernel_rfl, ?_, ?_⟩) ?_
          · refine sxo ?_
            try with_reducible exact trivial
          · refine sxo ?_
            try with_reducible exact trivial
          rintro ⟨n, nf1, bf1, caps1, bi1, bl1, bc1, s1⟩ ⟨r1, r2, r3, r4, r4b, r5, r6⟩
          simp only at r1 r2 r3 r4 r4b r5 r6
          refine sxo ?_
          try with_reducible exact trivial
          refine ⟨fun hn0 => ?_, fun hn0 => ?_⟩
          · have k0 : 0 ≤ n * (ix l i).len := Int.mul_nonneg hn0 (by omega)
            have k1 : n * (ix l i).len ≤ rest := Int.mul_le_of_le_ediv (by omega) (by omega)
            have k2 : 0 ≤ n * ix pr i := Int.mul_nonneg hn0 hq.1
            have k3 : n * ix pr i ≤ 1048576 * 1073741824 := Int.mul_le_mul (by omega) hq.2 hq.1 (by omega)
            rw [if_neg (by omega)] at r6
            repeat (with_reducible refine And.intro (by omega) ?_)
            repeat' (with_reducible apply And.intro)
            all_goals try omega
            all_goals
              have ih' := ih (i + 1) (rest - n * (ix l i).len) (price + n * ix pr i) (fun k => if k = i then n else nf1 k) bf1 caps1 bi1 bl1 bc1 s1 (by omega) (by omega) (by omega) (by omega) (by push_cast; omega) r4 r4b r5
              have hpre : preF (fun k => if k = i then n else nf1 k) (i + 1) = preF nf i ++ [n] := preF_next nf nf1 i n r3
              have hfn : f n s1 = dearG (l.drop (i + 1)) (pr.drop (i + 1)) (preF nf i ++ [n]) (rest - n * (ix l i).len) (price + n * ix pr i) s1 := by rw [← hf]
              rw [hpre, ← hfn] at ih'
              refine sp_at ih' [0, 1, 2, 3, 4, 5] rfl ?_ ?_ ?_
              · refine sxo ?_
                try with_reducible exact trivial
              · refine sxo ?_
                try with_reducible exact trivial
                intro j hj k hk
                obtain rfl : j = 0 := by omega
                (by_cases e : k = i; (simp [e, mtL]); (simp [e, beq_false_of_ne e, mtL]))
              · rintro r0 H1 ⟨nf2, bf2, caps2, bi2, bl2, bc2, s2, rfl, q1, q2, q2b, q3, rfl⟩
                have q5 : ∀ k, k < i → nf2 k = nf k := fun k hk => by
                  rw [q1 k (by omega), if_neg (by omega), r3 k hk]
                have q6 : s1.2 ≤ s2.2 := by rw [q2, hfn]; exact dearG_ge _ _ _ _ _ _
                refine sxo ?_
                try with_reducible exact trivial
                repeat (with_reducible refine And.intro (by omega) ?_)
                refine lpK_normal (n - 1, nf2, bf2, caps2, bi2, bl2, bc2, s2) [0, 1, 2, 3, 4, 5] ⟨by simp only; omega, by simp only; omega, q5, by simp only; omega, q2b, q3, ?_⟩ (by simp only; omega) (by kernel_rfl) ?_ ?_
                · simp only
                  rw [r6, downS_next hn0, ← q2]
                · refine sxo ?_
                  try with_reducible exact trivial
                · refine sxo ?_
                  try with_reducible exact trivial
          · have hn1 : n < 0 := by omega
            rw [if_pos hn1] at r6
            repeat (with_reducible refine And.intro (by omega) ?_)
            refine ⟨_, _, vwk_mt [0, 1, 2, 3, 4, 5] ?_ ?_ ?_, fun k => if k = i then 0 else nf1 k, bf1, caps1, bi1, bl1, bc1, s1, rfl, fun k hk => by show (if k = i then 0 else nf1 k) = nf k; rw [if_neg (by omega), r3 k hk], r6.symm, r4b, r5, rfl⟩
            · refine sxo ?_
              try with_reducible exact trivial
            · kernel_rfl
            · refine sxo ?_
              try with_reducible exact trivial
              intro j hj k hk
              obtain rfl : j = 0 := by omega
              (by_cases e : k = i; (simp [e, mtL]); (simp [e, beq_false_of_ne e, mtL]))
end Go.Proofs.YtolioflblegneaaGreat.Pat
namespace Go.Proofs.YtolioflblegneaaGreat.Pat
open Go.RowKit
theorem given_ok {length : Int} {l : List Pc} {n : Int} (h : givenE length l n = 0) : orderB l = true ∧ 1 ≤ length ∧ length ≤ 1048576 ∧ n = l.length := by
  unfold givenE at h
  by_cases h1 : orderB l = false
  · rw [if_pos h1] at h; omega
  · rw [if_neg h1] at h
    by_cases h2 : length < 1 ∨ 1048576 < length
    · rw [if_pos h2] at h; omega
    · rw [if_neg h2] at h
      by_cases h3 : n = l.length
      · exact ⟨by simpa using h1, by omega, by omega, h3⟩
      · rw [if_neg h3] at h; omega
end Go.Proofs.YtolioflblegneaaGreat.Pat
namespace Go.Proofs.YtolioflblegneaaGreat.Pat
open Go.RowKit
def badP (n : Int) : Bool := decide (n < 0) || decide (1073741824 < n)
theorem badP_pu (n : Int) : Pu Tryz.prog 129 [.v (.int .i64 n)] [] (.v (.bool (badP n))) := by
  refine pu_of_ex true [] mixed Tryz.call129 Tryz.func129 rfl Tryz.ntmps129 Tryz.results129 (by decide +kernel) rfl rfl rfl ?_
  refine sxo ?_
  try with_reducible exact trivial
  unfold badP
  exact ⟨fun h => by simp [h], fun h => by simp [h]⟩
theorem indexI_pu (l : List Int) (c : Nat) (g : FuncId) (fs cs : List SV) (H : List Ob) (p : Int → Bool) (hro : roB H = true) (hl : l.length ≤ 9223372036854775807)
    (hp : ∀ x ∈ l, Pu Tryz.prog g (fs ++ [.v (.int .i64 x)] ++ cs) (rInt 3 l :: H) (.v (.bool (p x)))) : Pu Tryz.prog 128 [.s 0 0 0 l.length c 1, .f (.func g) fs cs] (rInt 3 l :: H) (.v (.int .i64 (idxB p l 0))) := by
  refine pu_of_ex true [] mixed Tryz.call128 Tryz.func128 rfl Tryz.ntmps128 Tryz.results128 (by decide +kernel) rfl (by simp [roB, hro, rInt]) rfl ?_
  refine sxo ?_
  try with_reducible exact trivial
  refine tr_loop0 mixed (by kernel_rfl) (fun (k : Nat) => [(8, .v (.int .i64 k)), (7, .v (.int .i64 l.length)), (0, .s 0 0 0 l.length c 1), (1, .f (.func g) fs cs)]) (fun k => k ≤ l.length ∧ ∀ j, j < k → p (ix l j) = false) (fun k => l.length - k) 0 ⟨Nat.zero_le _, fun j h => by omega⟩ ?_ ?_
  · refine sxo ?_
    try with_reducible exact trivial
  · rintro k ⟨hk, hn⟩
    refine sxo ?_
    try with_reducible exact trivial
    refine ⟨fun h1 => ?_, fun h1 => ?_⟩
    · repeat (with_reducible refine And.intro (by omega) ?_)
      have hp1 := hp _ (ix_mem (l := l) (k := k) (by omega))
      refine sp_pu (by simpa only [push_cast] using hp1) ?_
      refine sxo ?_
      try with_reducible exact trivial
      simp only [branch]
      refine ⟨fun h2 => ?_, fun h2 => ?_⟩
      · rw [idxB_at p l 0 k (by omega) hn h2]; simp
      · repeat (with_reducible refine And.intro (by omega) ?_)
        refine lp0_normal (k + 1) ⟨by omega, fun j hj => ?_⟩ (by omega) ?_
        · by_cases e : j = k
          · rw [e]; exact h2
          · exact hn j (by omega)
        · refine sxo ?_
          try with_reducible exact trivial
    · rw [idxB_none p l 0 fun j hj => hn j (by omega)]
theorem containsI_pu (l : List Int) (c : Nat) (g : FuncId) (fs cs : List SV) (H : List Ob) (p : Int → Bool) (hro : roB H = true) (hl : l.length ≤ 9223372036854775807)
    (hp : ∀ x ∈ l, Pu Tryz.prog g (fs ++ [.v (.int .i64 x)] ++ cs) (rInt 3 l :: H) (.v (.bool (p x)))) : Pu Tryz.prog 93 [.s 0 0 0 l.length c 1, .f (.func g) fs cs] (rInt 3 l :: H) (.v (.bool (l.any p))) := by
  refine pu_of_ex true [] mixed Tryz.call93 Tryz.func93 rfl Tryz.ntmps93 Tryz.results93 (by decide +kernel) rfl (by simp [roB, hro, rInt]) rfl ?_
  refine sxo ?_
  try with_reducible exact trivial
  refine sp_pu (indexI_pu l c g fs cs H p hro hl hp) ?_
  refine sxo ?_
  try with_reducible exact trivial
  rw [idxB_any p l 0 (Int.le_refl 0)]
/-- The error of Best, and its answer. -/
def bestE (length : Int) (l : List Pc) (pr : List Int) : Int := if givenE length l pr.length ≠ 0 then givenE length l pr.length else if pr.any badP = true then 2 else if 10 < l.length then 6 else 0
def bestS (length : Int) (l : List Pc) (pr : List Int) : Bst := if bestE length l pr = 0 then dearG l pr [] length 0 ([], -1) else ([], 0)
theorem bestX_sp (length : Int) (l : List Pc) (c : Nat) (pr : List Int) (cp : Nat) (hl : l.length ≤ 9223372036854775807) (hl2 : pr.length ≤ 9223372036854775807) : Sp Tryz.prog 95 [.v (.int .i64 length), .s 0 0 0 l.length c 2, .s 1 0 0 pr.length cp 1] [rPc l, rInt 3 pr]
    (fun r H => ∃ nb bi bl bc caps bf, r = .t [.s 2 bi 0 bl bc 1, .v (.int .i64 (bestS length l pr).2), .v (.int .i64 (bestE length l pr))] ∧ BstOk l.length nb bi bl bc caps bf (bestS length l pr) ∧ (bestE length l pr = 0 → -1 ≤ (bestS length l pr).2 ∧ (bestS length l pr).2 ≤ 1125899906842624 * l.length) ∧ H = [rPc l, rInt 3 pr, oFam l.length nb caps bf]) := by
  refine sp_wk ?_
  refine sp_of_ex true [] mixed Tryz.call95 Tryz.func95 rfl Tryz.ntmps95 Tryz.results95 (by decide +kernel) rfl ?_
  refine sxo ?_
  try with_reducible exact trivial
  refine sp_call (given_pu length pr.length l c hl) rfl [0] rfl (by simp only [push_cast, ↓branch_true, ↓branch_false, Nat.reduceBEq, Nat.reduceAdd, Nat.reduceMul, Nat.reduceSub, Int.reduceToNat, reduceCtorEq, branch_decide, branch_not, branch_beq, branch_bne]) (by simp only [push_cast, ↓branch_true, ↓branch_false, Nat.reduceBEq, Nat.reduceAdd, Nat.reduceMul, Nat.reduceSub, Int.reduceToNat, reduceCtorEq, branch_decide, branch_not, branch_beq, branch_bne]) ?_
  refine sxo ?_
  try with_reducible exact trivial
  refine ⟨fun h => ?_, fun h => ?_⟩
  · obtain ⟨ho, hl0, hl1, hpl⟩ := given_ok h
    refine sp_call (containsI_pu pr cp 129 [] [] [] badP rfl hl2 (fun x _ => pu_at (badP_pu x) rfl [] rfl (by (simp only [push_cast, ↓branch_true, ↓branch_false, Nat.reduceBEq, Nat.reduceAdd, Nat.reduceMul, Nat.reduceSub, Int.reduceToNat, reduceCtorEq, branch_decide, branch_not, branch_beq, branch_bne])) (by (simp only [push_cast, ↓branch_true, ↓branch_false, Nat.reduceBEq, Nat.reduceAdd, Nat.reduceMul, Nat.reduceSub, Int.reduceToNat, reduceCtorEq, branch_decide, branch_not, branch_beq, branch_bne])))) rfl [1] rfl (by simp only [push_cast, ↓branch_true, ↓branch_false, Nat.reduceBEq, Nat.reduceAdd, Nat.reduceMul, Nat.reduceSub, Int.reduceToNat, reduceCtorEq, branch_decide, branch_not, branch_beq, branch_bne]) (by simp only [push_cast, ↓branch_true, ↓branch_false, Nat.reduceBEq, Nat.reduceAdd, Nat.reduceMul, Nat.reduceSub, Int.reduceToNat, reduceCtorEq, branch_decide, branch_not, branch_beq, branch_bne]) ?_
    refine sxo ?_
    try with_reducible exact trivial
    simp only [branch]
    refine ⟨fun hb => ?_, fun hb => ?_⟩
    · have e1 : bestE length l pr = 2 := by
        unfold bestE
        rw [if_neg (by omega), if_pos hb]
      have e2 : bestS length l pr = ([], 0) := by
        unfold bestS
        rw [if_neg (by omega)]
      rw [e1, e2]
      refine ⟨_, _, vwk_mt [0, 1, 2] ?_ ?_ ?_, 0, 0, 0, 0, fun _ => 0, [], rfl, ⟨rfl, .inl ⟨rfl, rfl, rfl⟩⟩, (fun h => by omega), rfl⟩
      · refine sxo ?_
        try with_reducible exact trivial
      · kernel_rfl
      · refine sxo ?_
        try with_reducible exact trivial
    · have hb : ¬ pr.any badP = true := by rw [hb]; simp
      refine ⟨fun h10 => ?_, fun h10 => ?_⟩
      · have e1 : bestE length l pr = 6 := by
          unfold bestE
          rw [if_neg (by omega), if_neg hb, if_pos (by omega)]
        have e2 : bestS length l pr = ([], 0) := by
          unfold bestS
          rw [if_neg (by omega)]
        rw [e1, e2]
        refine ⟨_, _, vwk_mt [0, 1, 2] ?_ ?_ ?_, 0, 0, 0, 0, fun _ => 0, [], rfl, ⟨rfl, .inl ⟨rfl, rfl, rfl⟩⟩, (fun h => by omega), rfl⟩
        · refine sxo ?_
          try with_reducible exact trivial
        · kernel_rfl
        · refine sxo ?_
          try with_reducible exact trivial
      · have e1 : bestE length l pr = 0 := by
          unfold bestE
          rw [if_neg (by omega), if_neg hb, if_neg (by omega)]
        have e2 : bestS length l pr = dearG l pr [] length 0 ([], -1) := by
          unfold bestS
          rw [if_pos e1]
        have hpq : ∀ q ∈ pr, 0 ≤ q ∧ q ≤ 1073741824 := fun q hq => by
          have : ¬ badP q = true := fun hbq => hb (List.any_eq_true.2 ⟨q, hq, hbq⟩)
          unfold badP at this
          simp at this
          omega
        rw [e1, e2]
        refine (begin_sp l pr c cp ho).mono ?_
        rintro r0 H1 ⟨rfl, rfl⟩
        refine sxo ?_
        try with_reducible exact trivial
        have h0 := dearest_sp l pr c cp ho (by omega) hpq l.length 0 length 0 (fun _ => 0) [] (fun _ => 0) 0 0 0 ([], -1) (by omega) (by omega) hl1 (by omega) (by omega) (by simp) (by simp only; omega) ⟨rfl, .inl ⟨rfl, rfl, rfl⟩⟩
        refine sp_pre_mt (args' := [.p 4 0 0, .v (.int .i64 ((0 : Nat) : Int)), .v (.int .i64 length), .v (.int .i64 0)]) (H' := [rPc l, rInt 3 pr, rOwn 3 l.length l.length (fun _ => 0), rOwn 3 (l.length + 1) (l.length + 1) (fun k => aft (l.drop k)), oB l.length c pr.length cp 0 0 0 (-1), oFam l.length ([] : List (List Int)).length (fun _ => 0) []]) [0, 1, 2, 3, 4, 5] ?_ (by kernel_rfl) ?_ (h0.mono ?_)
        · refine sxo ?_
          try with_reducible exact trivial
        · refine sxo ?_
          try with_reducible exact trivial
        rintro r0 H1 ⟨nf', bf, caps, bi, bl, bc, s', rfl, q1, q2, q2b, q3, rfl⟩
        have q2 : s' = dearG l pr [] length 0 ([], -1) := by simpa [preF] using q2
        refine sxo ?_
        try with_reducible exact trivial
        refine ⟨_, _, vwk_mt [0, 1, 5] ?_ ?_ ?_, bf.length, bi, bl, bc, caps, bf, rfl, by rw [← q2]; exact q3, fun _ => ⟨dearG_ge _ _ _ _ _ _, by rw [← q2]; exact q2b⟩, rfl⟩
        · rw [← q2]
          refine sxo ?_
          try with_reducible exact trivial
        · kernel_rfl
        · refine sxo ?_
          try with_reducible exact trivial
  · have e1 : bestE length l pr = givenE length l pr.length := by
      unfold bestE
      rw [if_pos h]
    have e2 : bestS length l pr = ([], 0) := by
      unfold bestS
      rw [if_neg (by rw [e1]; exact h)]
    rw [e1, e2]
    refine ⟨_, _, vwk_mt [0, 1, 2] ?_ ?_ ?_, 0, 0, 0, 0, fun _ => 0, [], rfl, ⟨rfl, .inl ⟨rfl, rfl, rfl⟩⟩, (fun h => by omega), rfl⟩
    · refine sxo ?_
      try with_reducible exact trivial
    · kernel_rfl
    · refine sxo ?_
      try with_reducible exact trivial
end Go.Proofs.YtolioflblegneaaGreat.Pat
namespace Go.Proofs.YtolioflblegneaaGreat.Pat
open Go.RowKit
end Go.Proofs.YtolioflblegneaaGreat.Pat
namespace Go.Proofs.YtolioflblegneaaGreat.Pat
open Go.RowKit
end Go.Proofs.YtolioflblegneaaGreat.Pat
namespace Go.Proofs.YtolioflblegneaaGreat.Pat
open Go.RowKit
end Go.Proofs.YtolioflblegneaaGreat.Pat
namespace Go.Proofs.YtolioflblegneaaGreat.Pat
open Go.RowKit
end Go.Proofs.YtolioflblegneaaGreat.Pat
namespace Go.Proofs.YtolioflblegneaaGreat.Pat
open Go.RowKit
end Go.Proofs.YtolioflblegneaaGreat.Pat
namespace Go.Proofs.YtolioflblegneaaGreat.Pat
open Go.RowKit
theorem order_pos {l : List Pc} (h : orderB l = true) : ∀ p ∈ l, 1 ≤ p.len ∧ p.len ≤ 1048576 ∧ 1 ≤ p.cnt ∧ p.cnt ≤ 1000000 := fun p hp => by
  obtain ⟨k, hk, rfl⟩ := List.getElem_of_mem hp
  rw [← ix_eq hk]
  exact order_at h hk
theorem sumL_nonneg : ∀ {l : List Pc} {ns : List Int}, (∀ p ∈ l, 1 ≤ p.len) → inB l ns = true → 0 ≤ sumL l ns
  | [], _, _, _ => by simp [sumL]
  | _ :: _, [], _, _ => by simp [sumL]
  | p :: l, n :: ns, h, hi => by
    simp only [inB, Bool.and_eq_true, decide_eq_true_eq] at hi
    have h1 := h p (List.mem_cons_self ..)
    have h2 := sumL_nonneg (fun q hq => h q (List.mem_cons_of_mem _ hq)) hi.2
    have := Int.mul_nonneg (show 0 ≤ p.len by omega) hi.1.1
    simp only [sumL]
    omega
attribute [push_cast] validV wasteV
end Go.Proofs.YtolioflblegneaaGreat.Pat
namespace Go.Proofs.YtolioflblegneaaGreat.Pat
open Go.RowKit
/-- All patterns that fit, the greatest one first. -/
def eachG : List Pc → Int → List (List Int)
  | [], _ => [[]]
  | p :: l, left => downG (fun n => (eachG l (left - n * p.len)).map (n :: ·)) (fun _ => false) (mostF p left).toNat
abbrev PosL (l : List Pc) : Prop := ∀ p ∈ l, 1 ≤ p.len ∧ 1 ≤ p.cnt
theorem posL_of {l : List Pc} (h : orderB l = true) : PosL l := fun p hp => ⟨(order_pos h p hp).1, (order_pos h p hp).2.2.1⟩
theorem PosL.tail {p : Pc} {l : List Pc} (h : PosL (p :: l)) : PosL l := fun q hq => h q (List.mem_cons_of_mem _ hq)
theorem PosL.head {p : Pc} {l : List Pc} (h : PosL (p :: l)) : 1 ≤ p.len ∧ 1 ≤ p.cnt := h p (List.mem_cons_self ..)
theorem mem_downG {α : Type} {g : Int → List α} {x : α} : ∀ {m : Nat}, x ∈ downG g (fun _ => false) m ↔ ∃ n : Nat, n ≤ m ∧ x ∈ g n
  | 0 => by
    simp only [downG, Bool.false_eq_true, if_false]
    constructor
    · intro h; exact ⟨0, Nat.le_refl _, h⟩
    · rintro ⟨n, hn, h⟩
      obtain rfl : n = 0 := by omega
      exact h
  | m + 1 => by
    simp only [downG, Bool.false_eq_true, if_false, List.mem_append, mem_downG]
    constructor
    · rintro (h | ⟨n, hn, h⟩)
      · exact ⟨m + 1, Nat.le_refl _, h⟩
      · exact ⟨n, by omega, h⟩
    · rintro ⟨n, hn, h⟩
      by_cases e : n = m + 1
      · subst e; exact .inl h
      · exact .inr ⟨n, by omega, h⟩
theorem most_nonneg {p : Pc} {left : Int} (hp : 1 ≤ p.len ∧ 1 ≤ p.cnt) (h0 : 0 ≤ left) : 0 ≤ mostF p left := by
  have := Int.ediv_nonneg h0 (show 0 ≤ p.len by omega)
  unfold mostF
  omega
theorem most_mul {p : Pc} {left n : Int} (hp : 1 ≤ p.len ∧ 1 ≤ p.cnt) (h : n ≤ mostF p left) : n * p.len ≤ left :=
  (Int.le_ediv_iff_mul_le (show 0 < p.len by omega)).1 (by unfold mostF at h; omega)
theorem most_iff {p : Pc} {left n : Int} (hp : 1 ≤ p.len ∧ 1 ≤ p.cnt) : n ≤ mostF p left ↔ n ≤ p.cnt ∧ n * p.len ≤ left := by
  rw [← Int.le_ediv_iff_mul_le (show 0 < p.len by omega)]
  unfold mostF
  omega
theorem mem_eachG : ∀ {l : List Pc} {left : Int} {q : List Int}, PosL l → 0 ≤ left → (q ∈ eachG l left ↔ q.length = l.length ∧ inB l q = true ∧ sumL l q ≤ left)
  | [], left, q, _, h0 => by
    simp only [eachG, List.mem_singleton]
    constructor
    · rintro rfl; exact ⟨rfl, rfl, h0⟩
    · rintro ⟨h, _, _⟩; exact List.length_eq_zero_iff.1 h
  | p :: l, left, q, hp, h0 => by
    have hpp := hp.head
    simp only [eachG, mem_downG, List.mem_map]
    constructor
    · rintro ⟨n, hn, s, hs, rfl⟩
      have hn : (n : Int) ≤ mostF p left := by have := most_nonneg hpp h0; omega
      have h1 := most_mul hpp hn
      obtain ⟨s1, s2, s3⟩ := (mem_eachG hp.tail (by omega)).1 hs
      have hc := (most_iff hpp).1 hn
      refine ⟨by simp [s1], ?_, ?_⟩
      · simp only [inB, s2, Bool.and_true, Bool.and_eq_true, decide_eq_true_eq]
        omega
      · simp only [sumL]
        rw [Int.mul_comm]
        omega
    · match q with
      | [] => rintro ⟨h, _⟩; simp at h
      | n :: s =>
        rintro ⟨h1, h2, h3⟩
        simp only [inB, Bool.and_eq_true, decide_eq_true_eq] at h2
        simp only [sumL] at h3
        have := sumL_nonneg (fun q hq => (hp.tail q hq).1) h2.2
        rw [Int.mul_comm] at h3
        have hm : n ≤ mostF p left := (most_iff hpp).2 ⟨h2.1.2, by omega⟩
        refine ⟨n.toNat, by omega, s, ?_, ?_⟩
        · rw [show ((n.toNat : Nat) : Int) = n by omega]
          exact (mem_eachG hp.tail (by omega)).2 ⟨by simpa using h1, h2.2, by omega⟩
        · rw [show ((n.toNat : Nat) : Int) = n by omega]
end Go.Proofs.YtolioflblegneaaGreat.Pat
namespace Go.Proofs.YtolioflblegneaaGreat.Pat
open Go.RowKit
/-- The price of a pattern. -/
def priceL : List Int → List Int → Int
  | n :: ns, q :: qs => n * q + priceL ns qs
  | _, _ => 0
def pickB (pre : List Int) (price : Int) (qs : List Int) (s : Bst) (q : List Int) : Bst := if s.2 < price + priceL q qs then (pre ++ q, price + priceL q qs) else s
theorem foldl_downG {α σ : Type} {g : Int → List α} {F : σ → α → σ} : ∀ {m : Nat} {s : σ}, (downG g (fun _ => false) m).foldl F s = downS (fun n s => (g n).foldl F s) m s
  | 0, s => by simp [downG, downS]
  | m + 1, s => by simp only [downG, Bool.false_eq_true, if_false, List.foldl_append, downS, foldl_downG]
theorem downS_congr {σ : Type} {f f' : Int → σ → σ} : ∀ {m : Nat} {s : σ}, (∀ (n : Nat) s, n ≤ m → f n s = f' n s) → downS f m s = downS f' m s
  | 0, s, h => by simp only [downS]; exact h 0 s (Nat.le_refl _)
  | m + 1, s, h => by
    simp only [downS]
    rw [show f ((m : Int) + 1) s = f' ((m : Int) + 1) s from h (m + 1) s (Nat.le_refl _)]
    exact downS_congr fun n s hn => h n s (by omega)
theorem price_hope : ∀ {ps : List Pc} {qs q : List Int} {rest : Int}, PosL ps → (∀ x ∈ qs, 0 ≤ x) → inB ps q = true → q.length = ps.length → sumL ps q ≤ rest → priceL q qs ≤ hopeF rest ps qs
  | [], qs, q, rest, _, _, _, hl, _ => by
    obtain rfl := List.length_eq_zero_iff.1 hl
    simp [priceL, hopeF]
  | p :: ps, [], q, rest, _, _, _, _, _ => by cases q <;> simp [priceL, hopeF]
  | p :: ps, x :: qs, [], rest, _, _, _, hl, _ => by simp at hl
  | p :: ps, x :: qs, n :: q, rest, hp, hx, hi, hl, hs => by
    simp only [inB, Bool.and_eq_true, decide_eq_true_eq] at hi
    simp only [sumL] at hs
    have hpp := hp.head
    have s0 := sumL_nonneg (fun q hq => (hp.tail q hq).1) hi.2
    have t0 := Int.mul_nonneg (show 0 ≤ p.len by omega) hi.1.1
    have ih := price_hope (rest := rest) hp.tail (fun y hy => hx y (List.mem_cons_of_mem _ hy)) hi.2 (by simpa using hl) (by omega)
    have hm : n ≤ mostF p rest := (most_iff hpp).2 ⟨hi.1.2, by rw [Int.mul_comm]; omega⟩
    have := Int.mul_le_mul_of_nonneg_right hm (hx x (List.mem_cons_self ..))
    simp only [priceL, hopeF]
    omega
theorem foldl_stay {α σ : Type} {F : σ → α → σ} {s : σ} : ∀ {E : List α}, (∀ a ∈ E, F s a = s) → E.foldl F s = s
  | [], _ => rfl
  | a :: E, h => by rw [List.foldl_cons, h a (List.mem_cons_self ..)]; exact foldl_stay fun b hb => h b (List.mem_cons_of_mem _ hb)
theorem dearG_eq : ∀ {ps : List Pc} {qs pre : List Int} {rest price : Int} {s : Bst}, PosL ps → qs.length = ps.length → (∀ x ∈ qs, 0 ≤ x) → 0 ≤ rest →
    dearG ps qs pre rest price s = (eachG ps rest).foldl (pickB pre price qs) s
  | [], [], pre, rest, price, s, _, _, _, _ => by simp [dearG, eachG, pickB, priceL]
  | [], _ :: _, _, _, _, _, _, h, _, _ => by simp at h
  | _ :: _, [], _, _, _, _, _, h, _, _ => by simp at h
  | p :: ps, x :: qs, pre, rest, price, s, hp, hl, hx, h0 => by
    have hpp := hp.head
    have hM := most_nonneg hpp h0
    rw [dearG]
    split
    · rename_i hh
      refine (foldl_stay fun q hq => ?_).symm
      obtain ⟨q1, q2, q3⟩ := (mem_eachG hp h0).1 hq
      have := price_hope (qs := x :: qs) hp hx q2 q1 q3
      unfold pickB
      rw [if_neg (by omega)]
    · rw [eachG, foldl_downG]
      refine downS_congr fun n s hn => ?_
      have hm := most_mul hpp (show (n : Int) ≤ mostF p rest by omega)
      rw [dearG_eq hp.tail (by simpa using hl) (fun y hy => hx y (List.mem_cons_of_mem _ hy)) (by omega), List.foldl_map]
      congr 1
      funext s q
      simp only [pickB, priceL, List.append_assoc, List.singleton_append, Int.add_assoc]
      rfl
end Go.Proofs.YtolioflblegneaaGreat.Pat
namespace Go.Proofs.YtolioflblegneaaGreat.Pat
open Go.RowKit
end Go.Proofs.YtolioflblegneaaGreat.Pat
namespace Go.Proofs.YtolioflblegneaaGreat.Pat
open Go.RowKit
end Go.Proofs.YtolioflblegneaaGreat.Pat
namespace Go.Proofs.YtolioflblegneaaGreat.Pat
open Go.RowKit
@[push_cast] theorem vwO_row0 {ty : TypeId} {ro : Bool} {sz N : Nat} {len cap : Nat → Nat} {f : Nat → Nat → List SV} {a : Nat} : vwO ⟨ty, ro, .row sz N len cap f⟩ a = ⟨ty, true, .row sz 1 (fun _ => len a) (fun _ => 0) (fun _ => f a)⟩ := rfl
end Go.Proofs.YtolioflblegneaaGreat.Pat
namespace Go.Proofs.YtolioflblegneaaGreat.Pat
open Go.RowKit
theorem bestS_fold {length : Int} {l : List Pc} {pr : List Int} (ho : orderB l = true) (h0 : 0 ≤ length) (hl : pr.length = l.length) (hp : ∀ x ∈ pr, 0 ≤ x) (hE : bestE length l pr = 0) : bestS length l pr = (eachG l length).foldl (pickB [] 0 pr) ([], -1) := by
  rw [bestS, if_pos hE, dearG_eq (posL_of ho) hl hp h0]
end Go.Proofs.YtolioflblegneaaGreat.Pat
namespace Go.Proofs.YtolioflblegneaaGreat.Pat
open Go.RowKit
end Go.Proofs.YtolioflblegneaaGreat.Pat
namespace Go.Proofs.YtolioflblegneaaGreat.Pat
open Go.RowKit
end Go.Proofs.YtolioflblegneaaGreat.Pat
