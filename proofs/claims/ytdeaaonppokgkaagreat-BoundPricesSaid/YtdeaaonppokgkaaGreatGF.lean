/- Contracts of small functions: lengths, orders. Contracts: full, Valid, Waste, Maximal; the reference's Order, Given, Sum, Fits, Maximal. Contracts: begin. Contracts: Clone; the search for all. -/
import Derived.Test.YtdeaaonppokgkaaGreatTi
set_option maxRecDepth 100000
set_option linter.unusedSimpArgs false
set_option linter.unusedVariables false
namespace Go.Proofs.YtdeaaonppokgkaaGreat.Pat
open Go.RowKit
theorem sxo {P Q : Prop} (h : Q) (e : P = Q := by (conv => lhs; simp only [push_cast, ↓branch_true, ↓branch_false, Nat.reduceBEq, Nat.reduceAdd, Nat.reduceMul, Nat.reduceSub, Int.reduceToNat, reduceCtorEq, branch_decide, branch_not, branch_beq, branch_bne])) : P := Eq.mpr e h
structure Pc where
  len : Int
  cnt : Int
instance : Inhabited Pc := ⟨⟨0, 0⟩⟩
def cPc (p : Pc) : List SV := [.v (.int .i64 p.len), .v (.int .i64 p.cnt)]
/-- A row of pieces that is only read. -/
def rPc (l : List Pc) : Ob := ⟨49, true, .row 2 1 (fun _ => l.length) (fun _ => 0) (fun _ k => cPc (ix l k))⟩
attribute [push_cast] rPc cPc
def lenB (n : Int) : Bool := decide (1 ≤ n) && decide (n ≤ 1048576)
theorem length_pu (n : Int) : Pu Tryz.prog 78 [.v (.int .i64 n)] [] (.v (.bool (lenB n))) := by
  refine pu_of_ex true [] mixed Tryz.call78 Tryz.func78 rfl Tryz.ntmps78 Tryz.results78 (by decide +kernel) rfl rfl rfl ?_
  refine sxo ?_
  try with_reducible exact trivial
  unfold lenB
  exact ⟨fun h => by simp [h], fun h => by simp [h]⟩
def badB (p : Pc) : Bool := !lenB p.len || decide (p.cnt < 1) || decide (1000000 < p.cnt)
theorem bad_pu (p : Pc) : Pu Tryz.prog 77 [.a (cPc p)] [] (.v (.bool (badB p))) := by
  refine pu_of_ex true [] mixed Tryz.call77 Tryz.func77 rfl Tryz.ntmps77 Tryz.results77 (by decide +kernel) rfl rfl rfl ?_
  refine sxo ?_
  try with_reducible exact trivial
  refine sp_call (length_pu p.len) rfl [] rfl (by simp only [push_cast, ↓branch_true, ↓branch_false, Nat.reduceBEq, Nat.reduceAdd, Nat.reduceMul, Nat.reduceSub, Int.reduceToNat, reduceCtorEq, branch_decide, branch_not, branch_beq, branch_bne]) (by simp only [push_cast, ↓branch_true, ↓branch_false, Nat.reduceBEq, Nat.reduceAdd, Nat.reduceMul, Nat.reduceSub, Int.reduceToNat, reduceCtorEq, branch_decide, branch_not, branch_beq, branch_bne]) ?_
  refine sxo ?_
  try with_reducible exact trivial
  simp only [branch, badB]
  refine ⟨fun h => ⟨fun h2 => ?_, fun h2 => ?_⟩, fun h => ?_⟩ <;> simp [*]
/-- The number of the first element with a property. -/
def idxB {α : Type} (p : α → Bool) : List α → Int → Int
  | [], _ => -1
  | x :: l, k => bif p x then k else idxB p l (k + 1)
theorem idxB_at {α : Type} [Inhabited α] (p : α → Bool) : ∀ (l : List α) (i : Int) (k : Nat), k < l.length → (∀ j, j < k → p (ix l j) = false) → p (ix l k) = true → idxB p l i = i + k
  | [], i, k, hk, _, _ => by simp at hk
  | x :: l, i, 0, _, _, hp => by
    have : p x = true := hp
    simp [idxB, this]
  | x :: l, i, k + 1, hk, hn, hp => by
    have h0 : p x = false := hn 0 (by omega)
    simp only [idxB, h0, cond_false]
    rw [idxB_at p l (i + 1) k (by simpa using hk) (fun j hj => hn (j + 1) (by omega)) hp]
    push_cast
    omega
theorem idxB_none {α : Type} [Inhabited α] (p : α → Bool) : ∀ (l : List α) (i : Int), (∀ j, j < l.length → p (ix l j) = false) → idxB p l i = -1
  | [], i, _ => rfl
  | x :: l, i, hn => by
    have h0 : p x = false := hn 0 (by simp)
    simp only [idxB, h0, cond_false]
    exact idxB_none p l (i + 1) fun j hj => hn (j + 1) (by simpa using hj)
theorem idxB_any {α : Type} (p : α → Bool) : ∀ (l : List α) (i : Int), 0 ≤ i → decide (0 ≤ idxB p l i) = l.any p
  | [], i, _ => rfl
  | x :: l, i, h => by
    have ih := idxB_any p l (i + 1) (by omega)
    simp only [idxB, List.any_cons]
    by_cases hp : p x = true
    · simp [hp, h]
    · have hp : p x = false := by simpa using hp
      simp [hp]
      simpa using ih
theorem indexPc_pu (l : List Pc) (c : Nat) (g : FuncId) (fs cs : List SV) (H : List Ob) (p : Pc → Bool) (hro : roB H = true) (hl : l.length ≤ 9223372036854775807)
    (hp : ∀ x ∈ l, Pu Tryz.prog g (fs ++ [.a (cPc x)] ++ cs) (rPc l :: H) (.v (.bool (p x)))) : Pu Tryz.prog 79 [.s 0 0 0 l.length c 2, .f (.func g) fs cs] (rPc l :: H) (.v (.int .i64 (idxB p l 0))) := by
  refine pu_of_ex true [] mixed Tryz.call79 Tryz.func79 rfl Tryz.ntmps79 Tryz.results79 (by decide +kernel) rfl (by simp [roB, hro, rPc]) rfl ?_
  refine sxo ?_
  try with_reducible exact trivial
  refine tr_loop0 mixed (by kernel_rfl) (fun (k : Nat) => [(8, .v (.int .i64 k)), (7, .v (.int .i64 l.length)), (0, .s 0 0 0 l.length c 2), (1, .f (.func g) fs cs)]) (fun k => k ≤ l.length ∧ ∀ j, j < k → p (ix l j) = false) (fun k => l.length - k) 0 ⟨Nat.zero_le _, fun j h => by omega⟩ ?_ ?_
  · refine sxo ?_
    try with_reducible exact trivial
  · rintro k ⟨hk, hn⟩
    refine sxo ?_
    try with_reducible exact trivial
    refine ⟨fun h1 => ?_, fun h1 => ?_⟩
    · repeat (with_reducible refine And.intro (by omega) ?_)
      have hp1 := hp _ (ix_mem (l := l) (k := k) (by omega))
      refine sp_pu (by simpa only [push_cast] using hp1) ?_
      refine sxo ?_
      try with_reducible exact trivial
      simp only [branch]
      refine ⟨fun h2 => ?_, fun h2 => ?_⟩
      · rw [idxB_at p l 0 k (by omega) hn h2]; simp
      · repeat (with_reducible refine And.intro (by omega) ?_)
        refine lp0_normal (k + 1) ⟨by omega, fun j hj => ?_⟩ (by omega) ?_
        · by_cases e : j = k
          · rw [e]; exact h2
          · exact hn j (by omega)
        · refine sxo ?_
          try with_reducible exact trivial
    · rw [idxB_none p l 0 fun j hj => hn j (by omega)]
theorem containsPc_pu (l : List Pc) (c : Nat) (g : FuncId) (fs cs : List SV) (H : List Ob) (p : Pc → Bool) (hro : roB H = true) (hl : l.length ≤ 9223372036854775807)
    (hp : ∀ x ∈ l, Pu Tryz.prog g (fs ++ [.a (cPc x)] ++ cs) (rPc l :: H) (.v (.bool (p x)))) : Pu Tryz.prog 44 [.s 0 0 0 l.length c 2, .f (.func g) fs cs] (rPc l :: H) (.v (.bool (l.any p))) := by
  refine pu_of_ex true [] mixed Tryz.call44 Tryz.func44 rfl Tryz.ntmps44 Tryz.results44 (by decide +kernel) rfl (by simp [roB, hro, rPc]) rfl ?_
  refine sxo ?_
  try with_reducible exact trivial
  refine sp_pu (indexPc_pu l c g fs cs H p hro hl hp) ?_
  refine sxo ?_
  try with_reducible exact trivial
  rw [idxB_any p l 0 (Int.le_refl 0)]
def orderB (l : List Pc) : Bool := decide (l.length ≤ 200) && !l.any badB
theorem order_pu (l : List Pc) (c : Nat) (hl : l.length ≤ 9223372036854775807) : Pu Tryz.prog 43 [.s 0 0 0 l.length c 2] [rPc l] (.v (.bool (orderB l))) := by
  refine pu_of_ex true [] mixed Tryz.call43 Tryz.func43 rfl Tryz.ntmps43 Tryz.results43 (by decide +kernel) rfl rfl rfl ?_
  refine sxo ?_
  try with_reducible exact trivial
  unfold orderB
  refine ⟨fun h1 => ?_, fun h1 => ?_⟩
  · refine sp_pu (containsPc_pu l c 77 [] [] [] badB rfl hl fun x _ => ?_) ?_
    · refine pu_at (bad_pu x) rfl [] rfl ?_ ?_ <;> (simp only [push_cast, ↓branch_true, ↓branch_false, Nat.reduceBEq, Nat.reduceAdd, Nat.reduceMul, Nat.reduceSub, Int.reduceToNat, reduceCtorEq, branch_decide, branch_not, branch_beq, branch_bne])
    · refine sxo ?_
      try with_reducible exact trivial
      have : l.length ≤ 200 := by omega
      simp [this]
  · have : ¬ l.length ≤ 200 := by omega
    simp [this]
/-- What is wrong with a length, an order and a number: 0 for nothing. -/
def givenE (length : Int) (l : List Pc) (n : Int) : Int := if orderB l = false then 1 else if length < 1 ∨ 1048576 < length then 2 else if n = l.length then 0 else 3
theorem given_pu (length n : Int) (l : List Pc) (c : Nat) (hl : l.length ≤ 9223372036854775807) : Pu Tryz.prog 49 [.v (.int .i64 length), .s 0 0 0 l.length c 2, .v (.int .i64 n)] [rPc l] (.v (.int .i64 (givenE length l n))) := by
  refine pu_of_ex true [] mixed Tryz.call49 Tryz.func49 rfl Tryz.ntmps49 Tryz.results49 (by decide +kernel) rfl rfl rfl ?_
  refine sxo ?_
  try with_reducible exact trivial
  refine sp_call (order_pu l c hl) rfl [0] rfl (by simp only [push_cast, ↓branch_true, ↓branch_false, Nat.reduceBEq, Nat.reduceAdd, Nat.reduceMul, Nat.reduceSub, Int.reduceToNat, reduceCtorEq, branch_decide, branch_not, branch_beq, branch_bne]) (by simp only [push_cast, ↓branch_true, ↓branch_false, Nat.reduceBEq, Nat.reduceAdd, Nat.reduceMul, Nat.reduceSub, Int.reduceToNat, reduceCtorEq, branch_decide, branch_not, branch_beq, branch_bne]) ?_
  refine sxo ?_
  try with_reducible exact trivial
  simp only [branch, givenE]
  repeat' (with_reducible (first | apply And.intro | intro _))
  all_goals simp [*]
theorem order_at {l : List Pc} (h : orderB l = true) {k : Nat} (hk : k < l.length) : 1 ≤ (ix l k).len ∧ (ix l k).len ≤ 1048576 ∧ 1 ≤ (ix l k).cnt ∧ (ix l k).cnt ≤ 1000000 := by
  simp only [orderB, Bool.and_eq_true, Bool.not_eq_true', List.any_eq_false] at h
  have := h.2 _ (ix_mem hk)
  simp only [badB, lenB, Bool.or_eq_true, Bool.not_eq_true', Bool.and_eq_false_iff, decide_eq_true_eq, decide_eq_false_iff_not] at this
  omega
end Go.Proofs.YtdeaaonppokgkaaGreat.Pat
namespace Go.Proofs.YtdeaaonppokgkaaGreat.Pat
open Go.RowKit
theorem order_len {l : List Pc} (h : orderB l = true) : l.length ≤ 200 := by
  simp only [orderB, Bool.and_eq_true, decide_eq_true_eq] at h
  exact h.1
def fullB (rest : Int) : List Pc → List Int → Bool
  | p :: l, n :: ns => !(decide (n < p.cnt) && decide (p.len ≤ rest)) && fullB rest l ns
  | _, _ => true
theorem fullB_step {rest : Int} {l : List Pc} {ns : List Int} {k : Nat} (h1 : k < l.length) (h2 : k < ns.length) : fullB rest (l.drop k) (ns.drop k) = (!(decide (ix ns k < (ix l k).cnt) && decide ((ix l k).len ≤ rest)) && fullB rest (l.drop (k + 1)) (ns.drop (k + 1))) := by
  rw [drop_ix h1, drop_ix h2, fullB]
theorem full_pu (rest : Int) (l : List Pc) (ns : List Int) (c c2 : Nat) (hl : l.length ≤ 9223372036854775806) (he : ns.length = l.length) : Pu Tryz.prog 80 [.v (.int .i64 rest), .s 0 0 0 l.length c 2, .s 1 0 0 ns.length c2 1] [rPc l, rInt 3 ns] (.v (.bool (fullB rest l ns))) := by
  refine pu_of_ex true [] mixed Tryz.call80 Tryz.func80 rfl Tryz.ntmps80 Tryz.results80 (by decide +kernel) rfl rfl rfl ?_
  refine sxo ?_
  try with_reducible exact trivial
  refine tr_loop0 mixed (by kernel_rfl) (fun (k : Nat) => [(11, .v (.int .i64 k)), (0, .v (.int .i64 rest)), (10, .v (.int .i64 ns.length)), (9, .s 1 0 0 ns.length c2 1), (1, .s 0 0 0 l.length c 2)]) (fun k => k ≤ ns.length ∧ fullB rest l ns = fullB rest (l.drop k) (ns.drop k)) (fun k => ns.length - k) 0 ⟨Nat.zero_le _, by simp⟩ ?_ ?_
  · refine sxo ?_
    try with_reducible exact trivial
  · rintro k ⟨hk, hr⟩
    refine sxo ?_
    try with_reducible exact trivial
    refine ⟨fun h1 => ?_, fun h1 => ?_⟩
    · rw [fullB_step (by omega) (by omega)] at hr
      repeat' (with_reducible (first | apply And.intro | intro _))
      all_goals try omega
      · simp [*]
      · refine lp0_normal (k + 1) ⟨by omega, by simp [*]⟩ (by omega) ?_
        refine sxo ?_
        try with_reducible exact trivial
      · refine lp0_normal (k + 1) ⟨by omega, by simp [*]⟩ (by omega) ?_
        refine sxo ?_
        try with_reducible exact trivial
    · have e : k = ns.length := by omega
      subst e
      simp only [List.drop_length, he, fullB] at hr
      rw [hr]
theorem between_pu (n lo hi : Int) : Pu Tryz.prog 60 [.v (.int .i64 n), .v (.int .i64 lo), .v (.int .i64 hi)] [] (.v (.bool (decide (lo ≤ n) && decide (n ≤ hi)))) := by
  refine pu_of_ex true [] mixed Tryz.call60 Tryz.func60 rfl Tryz.ntmps60 Tryz.results60 (by decide +kernel) rfl rfl rfl ?_
  refine sxo ?_
  try with_reducible exact trivial
  repeat' (with_reducible (first | apply And.intro | intro _))
  all_goals simp [*]
theorem rorder_pu (l : List Pc) (c : Nat) (hl : l.length ≤ 9223372036854775806) : Pu Tryz.prog 23 [.s 0 0 0 l.length c 2] [rPc l] (.v (.bool (orderB l))) := by
  refine pu_of_ex true [] mixed Tryz.call23 Tryz.func23 rfl Tryz.ntmps23 Tryz.results23 (by decide +kernel) rfl rfl rfl ?_
  refine sxo ?_
  try with_reducible exact trivial
  refine ⟨fun h0 => ?_, fun h0 => ?_⟩
  · have : ¬ l.length ≤ 200 := by omega
    simp [orderB, this]
  · refine tr_loop0 mixed (by kernel_rfl) (fun (k : Nat) => [(3, .v (.int .i64 k)), (0, .s 0 0 0 l.length c 2)]) (fun k => k ≤ l.length ∧ l.any badB = (l.drop k).any badB) (fun k => l.length - k) 0 ⟨Nat.zero_le _, by simp⟩ ?_ ?_
    · refine sxo ?_
      try with_reducible exact trivial
    · rintro k ⟨hk, hr⟩
      refine sxo ?_
      try with_reducible exact trivial
      have h200 : l.length ≤ 200 := by omega
      refine ⟨fun h1 => ?_, fun h1 => ?_⟩
      · repeat (with_reducible refine And.intro (by omega) ?_)
        rw [drop_ix (by omega), List.any_cons] at hr
        refine sp_call (between_pu (ix l k).len 1 1048576) rfl [] rfl (by simp only [push_cast, ↓branch_true, ↓branch_false, Nat.reduceBEq, Nat.reduceAdd, Nat.reduceMul, Nat.reduceSub, Int.reduceToNat, reduceCtorEq, branch_decide, branch_not, branch_beq, branch_bne]) (by simp only [push_cast, ↓branch_true, ↓branch_false, Nat.reduceBEq, Nat.reduceAdd, Nat.reduceMul, Nat.reduceSub, Int.reduceToNat, reduceCtorEq, branch_decide, branch_not, branch_beq, branch_bne]) ?_
        refine sxo ?_
        try with_reducible exact trivial
        simp only [branch]
        refine ⟨fun h2 => ?_, fun h2 => ?_⟩
        · repeat (with_reducible refine And.intro (by omega) ?_)
          refine sp_call (between_pu (ix l k).cnt 1 1000000) rfl [] rfl (by simp only [push_cast, ↓branch_true, ↓branch_false, Nat.reduceBEq, Nat.reduceAdd, Nat.reduceMul, Nat.reduceSub, Int.reduceToNat, reduceCtorEq, branch_decide, branch_not, branch_beq, branch_bne]) (by simp only [push_cast, ↓branch_true, ↓branch_false, Nat.reduceBEq, Nat.reduceAdd, Nat.reduceMul, Nat.reduceSub, Int.reduceToNat, reduceCtorEq, branch_decide, branch_not, branch_beq, branch_bne]) ?_
          refine sxo ?_
          try with_reducible exact trivial
          simp only [branch]
          refine ⟨fun h3 => ?_, fun h3 => ?_⟩
          · repeat (with_reducible refine And.intro (by omega) ?_)
            have hb : badB (ix l k) = false := by
              simp only [Bool.and_eq_true, decide_eq_true_eq] at h2 h3
              simp [badB, lenB]
              omega
            refine lp0_normal (k + 1) ⟨by omega, by rw [hr, hb, Bool.false_or]⟩ (by omega) ?_
            refine sxo ?_
            try with_reducible exact trivial
          · have hb : badB (ix l k) = true := by
              simp only [Bool.and_eq_true, decide_eq_true_eq, Bool.and_eq_false_iff, decide_eq_false_iff_not] at h2 h3
              simp [badB, lenB]
              omega
            simp [orderB, hr, hb]
        · have hb : badB (ix l k) = true := by
            simp only [Bool.and_eq_false_iff, decide_eq_false_iff_not] at h2
            simp [badB, lenB]
            omega
          simp [orderB, hr, hb]
      · have e : k = l.length := by omega
        subst e
        simp [orderB, hr, h200]
theorem rgiven_pu (length n : Int) (l : List Pc) (c : Nat) (hl : l.length ≤ 9223372036854775806) : Pu Tryz.prog 17 [.v (.int .i64 length), .s 0 0 0 l.length c 2, .v (.int .i64 n)] [rPc l] (.v (.int .i64 (givenE length l n))) := by
  refine pu_of_ex true [] mixed Tryz.call17 Tryz.func17 rfl Tryz.ntmps17 Tryz.results17 (by decide +kernel) rfl rfl rfl ?_
  refine sxo ?_
  try with_reducible exact trivial
  refine sp_call (rorder_pu l c hl) rfl [0] rfl (by simp only [push_cast, ↓branch_true, ↓branch_false, Nat.reduceBEq, Nat.reduceAdd, Nat.reduceMul, Nat.reduceSub, Int.reduceToNat, reduceCtorEq, branch_decide, branch_not, branch_beq, branch_bne]) (by simp only [push_cast, ↓branch_true, ↓branch_false, Nat.reduceBEq, Nat.reduceAdd, Nat.reduceMul, Nat.reduceSub, Int.reduceToNat, reduceCtorEq, branch_decide, branch_not, branch_beq, branch_bne]) ?_
  refine sxo ?_
  try with_reducible exact trivial
  simp only [branch, givenE]
  repeat' (with_reducible (first | apply And.intro | intro _))
  all_goals simp [*]
theorem given_0 {length n : Int} {l : List Pc} (h : givenE length l n = 0) : orderB l = true ∧ 1 ≤ length ∧ length ≤ 1048576 ∧ n = l.length := by
  unfold givenE at h
  split at h
  · omega
  · split at h
    · omega
    · split at h
      · rename_i h1 h2 h3
        exact ⟨by simpa using h1, by omega, by omega, h3⟩
      · omega
/-- The length of a pattern's pieces. -/
def sumL : List Pc → List Int → Int
  | p :: l, n :: ns => p.len * n + sumL l ns
  | _, _ => 0
def inB : List Pc → List Int → Bool
  | p :: l, n :: ns => decide (0 ≤ n) && decide (n ≤ p.cnt) && inB l ns
  | _, _ => true
theorem inB_at : ∀ {l : List Pc} {ns : List Int}, inB l ns = true → ∀ k, k < l.length → k < ns.length → 0 ≤ ix ns k ∧ ix ns k ≤ (ix l k).cnt
  | [], ns, _, k, h, _ => by simp at h
  | p :: l, [], _, k, _, h => by simp at h
  | p :: l, n :: ns, h, 0, _, _ => by
    simp only [inB, Bool.and_eq_true, decide_eq_true_eq] at h
    exact h.1
  | p :: l, n :: ns, h, k + 1, h1, h2 => by
    simp only [inB, Bool.and_eq_true, decide_eq_true_eq] at h
    exact inB_at h.2 k (by simpa using h1) (by simpa using h2)
theorem sumL_step {l : List Pc} {ns : List Int} {k : Nat} (h1 : k < l.length) (h2 : k < ns.length) : sumL (l.drop k) (ns.drop k) = (ix l k).len * ix ns k + sumL (l.drop (k + 1)) (ns.drop (k + 1)) := by
  rw [drop_ix h1, drop_ix h2, sumL]
theorem term_le {a b : Int} (h1 : 0 ≤ a) (h2 : a ≤ 1048576) (h3 : 0 ≤ b) (h4 : b ≤ 1000000) : 0 ≤ a * b ∧ a * b ≤ 1048576000000 :=
  ⟨Int.mul_nonneg h1 h3, Int.le_trans (Int.mul_le_mul h2 h4 h3 (by omega)) (by omega)⟩
theorem sumL_le : ∀ {l : List Pc} {ns : List Int}, orderB l = true → inB l ns = true → 0 ≤ sumL l ns ∧ sumL l ns ≤ l.length * 1048576000000
  | [], ns, _, _ => by simp [sumL]
  | p :: l, [], _, _ => by simp [sumL]; omega
  | p :: l, n :: ns, ho, h => by
    have h0 := order_at ho (k := 0) (by simp)
    have ho' : orderB l = true := by
      simp only [orderB, List.length_cons, List.any_cons, Bool.and_eq_true, decide_eq_true_eq, Bool.not_eq_true', Bool.or_eq_false_iff] at ho ⊢
      exact ⟨by omega, ho.2.2⟩
    simp only [inB, Bool.and_eq_true, decide_eq_true_eq] at h
    obtain ⟨i1, i2⟩ := sumL_le ho' h.2
    have e : ix (p :: l) 0 = p := rfl
    rw [e] at h0
    obtain ⟨t1, t2⟩ := term_le (a := p.len) (b := n) (by omega) h0.2.1 h.1.1 (by omega)
    simp only [sumL, List.length_cons]
    push_cast
    omega
end Go.Proofs.YtdeaaonppokgkaaGreat.Pat
namespace Go.Proofs.YtdeaaonppokgkaaGreat.Pat
open Go.RowKit
/-- The length of all pieces. -/
def aft : List Pc → Int
  | [] => 0
  | p :: l => p.cnt * p.len + aft l
theorem aft_bound : ∀ (l : List Pc), (∀ p ∈ l, 1 ≤ p.len ∧ p.len ≤ 1048576 ∧ 1 ≤ p.cnt ∧ p.cnt ≤ 1000000) → 0 ≤ aft l ∧ aft l ≤ 1048576000000 * l.length
  | [], _ => by simp [aft]
  | p :: l, h => by
    have ih := aft_bound l fun q hq => h q (List.mem_cons_of_mem _ hq)
    have hp := h p List.mem_cons_self
    simp only [aft, List.length_cons]
    have h1 : 0 ≤ p.cnt * p.len := Int.mul_nonneg (by omega) (by omega)
    have h2 : p.cnt * p.len ≤ 1000000 * 1048576 := Int.mul_le_mul (by omega) (by omega) (by omega) (by omega)
    push_cast
    omega
theorem order_mem {l : List Pc} (h : orderB l = true) {p : Pc} (hp : p ∈ l) : 1 ≤ p.len ∧ p.len ≤ 1048576 ∧ 1 ≤ p.cnt ∧ p.cnt ≤ 1000000 := by
  obtain ⟨k, hk, rfl⟩ := List.mem_iff_getElem.1 hp
  rw [← ix_eq hk]
  exact order_at h hk
/-- A search: the order, the numbers now, the lengths behind, what it found, prices, the best. -/
def oS (n c np cp cn ca : Nat) (out best : SV) (most : Int) : Ob := ⟨96, false, .st [.s 0 0 0 n c 2, .s 2 0 0 n cn 1, .s 3 0 0 (n + 1) ca 1, out, .s 1 0 0 np cp 1, best, .v (.int .i64 most)]⟩
attribute [push_cast] oS
theorem begin_sp (l : List Pc) (pr : List Int) (c cp : Nat) (ho : orderB l = true) : Sp Tryz.prog 50 [.s 0 0 0 l.length c 2, .s 1 0 0 pr.length cp 1] [rPc l, rInt 3 pr]
    (fun r H => r = .p 4 0 0 ∧ H = [rPc l, rInt 3 pr, rOwn 3 l.length l.length (fun _ => 0), rOwn 3 (l.length + 1) (l.length + 1) (fun k => aft (l.drop k)), oS l.length c pr.length cp l.length (l.length + 1) (.v (.slice none 0 0)) (.v (.slice none 0 0)) (-1)]) := by
  have hl := order_len ho
  have h0 : ∀ k, k < l.length + 1 → Value.int .i64 (if (k : Int) ≤ l.length - 1 then 0 else aft (l.drop k)) = Value.int .i64 0 := fun k hk => by
    by_cases e : (k : Int) ≤ l.length - 1
    · rw [if_pos e]
    · rw [if_neg e, show k = l.length by omega, List.drop_length]; rfl
  refine sp_of_ex true [(1, .one 0 (.one 1 (.one 2 (.one 4 (.one 5 (.one 6 (.one 8 (.alt [(3, .one 7 (.one 9 (.one 10 (.one 11 .fin)))), (7, .one 3 (.one 9 (.one 10 (.one 11 .fin))))]))))))))] mixed Tryz.call50 Tryz.func50 rfl Tryz.ntmps50 Tryz.results50 (by decide +kernel) rfl ?_
  refine sxo ?_
  try with_reducible exact trivial
  repeat' (with_reducible (first | apply And.intro | intro _))
  all_goals try omega
  all_goals refine tr_wk (σ' := [(5, .p 4 0 0), (6, .v (.int .i64 (l.length - 1))), (0, .s 0 0 0 l.length c 2)]) (H' := [rPc l, rInt 3 pr, rOwn 3 l.length l.length (fun _ => 0), rOwn 3 (l.length + 1) (l.length + 1) (fun k => if (k : Int) ≤ l.length - 1 then 0 else aft (l.drop k)), oS l.length c pr.length cp l.length (l.length + 1) (.v (.slice none 0 0)) (.v (.slice none 0 0)) (-1)]) ?_ ?_
  · refine Mt.wk (rl := [0, 1, 2, 3, 4]) ⟨by kernel_rfl, ?_, ?_⟩
    · refine sxo ?_
      try with_reducible exact trivial
    · refine sxo ?_
      try with_reducible exact trivial
      exact ⟨fun i hi => ⟨by omega, by omega, fun k hk => h0 k hk⟩, by omega, by omega⟩
  rotate_left
  · refine Mt.wk (rl := [0, 1, 3, 2, 4]) ⟨by kernel_rfl, ?_, ?_⟩
    · refine sxo ?_
      try with_reducible exact trivial
    · refine sxo ?_
      try with_reducible exact trivial
      exact ⟨fun i hi => ⟨by omega, by omega, fun k hk => h0 k hk⟩, by omega, by omega⟩
  all_goals
    refine tr_loop mixed (by kernel_rfl) (fun (i : Int) => [(5, .p 4 0 0), (6, .v (.int .i64 i)), (0, .s 0 0 0 l.length c 2)]) (fun i => [rPc l, rInt 3 pr, rOwn 3 l.length l.length (fun _ => 0), rOwn 3 (l.length + 1) (l.length + 1) (fun k => if (k : Int) ≤ i then 0 else aft (l.drop k)), oS l.length c pr.length cp l.length (l.length + 1) (.v (.slice none 0 0)) (.v (.slice none 0 0)) (-1)])
      (fun i => -1 ≤ i ∧ i < l.length) (fun i => (i + 1).toNat) (l.length - 1) ⟨by omega, by omega⟩ (Mt.wk (rl := [0, 1, 2, 3, 4]) ⟨by kernel_rfl, ?_, ?_⟩) ?_
    · refine sxo ?_
      try with_reducible exact trivial
    · refine sxo ?_
      try with_reducible exact trivial
    rintro i ⟨hi, hi2⟩
    refine sxo ?_
    try with_reducible exact trivial
    refine ⟨fun h1 => ?_, fun h1 => ?_⟩
    · have hat := order_at ho (k := i.toNat) (by omega)
      have hb := aft_bound l fun p hp => order_mem ho hp
      have hb2 := aft_bound (l.drop (i + 1).toNat) fun p hp => order_mem ho (List.mem_of_mem_drop hp)
      have hd : aft (l.drop i.toNat) = (ix l i.toNat).cnt * (ix l i.toNat).len + aft (l.drop (i + 1).toNat) := by
        rw [drop_ix (by omega), aft, show i.toNat + 1 = (i + 1).toNat by omega]
      have hm1 : 0 ≤ (ix l i.toNat).cnt * (ix l i.toNat).len := Int.mul_nonneg (by omega) (by omega)
      have hm2 : (ix l i.toNat).cnt * (ix l i.toNat).len ≤ 1000000 * 1048576 := Int.mul_le_mul (by omega) (by omega) (by omega) (by omega)
      have hdl : (l.drop (i + 1).toNat).length ≤ 200 := by rw [List.length_drop]; omega
      rw [if_neg (by omega)]
      repeat (with_reducible refine And.intro (by omega) ?_)
      refine lpK_normal (i - 1) [0, 1, 2, 3, 4] ⟨by omega, by omega⟩ (by omega) (by kernel_rfl) ?_ ?_
      · refine sxo ?_
        try with_reducible exact trivial
      · refine sxo ?_
        try with_reducible exact trivial
        intro j hj k hk
        obtain rfl : j = 0 := by omega
        by_cases e : k = i.toNat
        · subst e
          simp only [beq_self_eq_true, Bool.and_self, cond_true, mtL, and_true]
          rw [if_neg (by omega), hd, Int.add_comm]
        · have eb : (k == i.toNat) = false := by simpa using e
          simp only [eb, Bool.and_false, cond_false, mtL, and_true]
          by_cases e2 : (k : Int) ≤ i
          · rw [if_pos (by omega), if_pos e2]
          · rw [if_neg (by omega), if_neg e2]
    · obtain rfl : i = -1 := by omega
      have e : (fun (x : Nat) (k : Nat) => [SV.v (Value.int .i64 (if (k : Int) ≤ -1 then 0 else aft (l.drop k)))]) = fun x k => [SV.v (Value.int .i64 (aft (l.drop k)))] := by
        funext x k
        rw [if_neg (by omega)]
      simp only [e, and_self]
end Go.Proofs.YtdeaaonppokgkaaGreat.Pat
namespace Go.Proofs.YtdeaaonppokgkaaGreat.Pat
open Go.RowKit
/-- A row of ints by its elements, read or owned. -/
def rF (ro : Bool) (n cap : Nat) (f : Nat → Int) : Ob := ⟨3, ro, .row 1 1 (fun _ => n) (fun _ => cap) (fun _ k => [.v (.int .i64 (f k))])⟩
attribute [push_cast] rF
theorem clone_sp (ro : Bool) (n c cc : Nat) (f : Nat → Int) (hc : n ≤ c) (hn : n ≤ 1000000) : Sp Tryz.prog 81 [.s 0 0 0 n c 1] [rF ro n cc f] (fun r H => ∃ cap, n ≤ cap ∧ r = .s 1 0 0 n cap 1 ∧ H = [rF ro n cc f, rOwn 3 n cap f]) := by
  refine sp_weak ?_
  refine sp_of_ex true [] mixed Tryz.call81 Tryz.func81 rfl Tryz.ntmps81 Tryz.results81 (by decide +kernel) rfl ?_
  refine sxo ?_
  try with_reducible exact trivial
  intro b hb
  cases b
  · simp only [branch_false]
    refine ⟨by omega, by omega, ?_, appZ_of (fun h => ?_) fun _ => .inl ⟨by omega, by omega, fun cap hcap => ?_⟩⟩
    · unfold srcOk
      split <;> simp [lenP, lenIs, ones, one1]
    · subst h
      refine ⟨_, _, [0, 1], ?_, ?_, ?_, 0, Nat.le_refl _, rfl, rfl⟩
      · refine sxo ?_
        try with_reducible exact trivial
      · kernel_rfl
      · refine sxo ?_
        try with_reducible exact trivial
        cases ro <;> simp [rowM]
    · refine ⟨_, _, [0, 2], ?_, ?_, ?_, cap, hcap, rfl, rfl⟩
      · refine sxo ?_
        try with_reducible exact trivial
      · kernel_rfl
      · refine sxo ?_
        try with_reducible exact trivial
        cases ro <;> simp
  · simp only [branch_true]
    have hc0 : c = 0 := by
      rcases Nat.eq_zero_or_pos c with h | h
      · exact h
      · have := hb h; cases this
    obtain rfl : n = 0 := by omega
    refine ⟨_, _, [0, 1], ?_, ?_, ?_, 0, Nat.le_refl _, rfl, rfl⟩
    · refine sxo ?_
      try with_reducible exact trivial
    · kernel_rfl
    · refine sxo ?_
      try with_reducible exact trivial
      cases ro <;> simp [rowM]
end Go.Proofs.YtdeaaonppokgkaaGreat.Pat
