/- Contracts: names. -/
import Derived.Test.YtolioflblegneaaGreatA
import Derived.Test.YtolioflblegneaaGreatTi
set_option maxRecDepth 100000
set_option linter.unusedSimpArgs false
set_option linter.unusedVariables false
-- 
namespace Go.Proofs.YtolioflblegneaaGreat
open Go.RowKit
def letB (c : Int) : Bool := (decide (97 ≤ c) && decide (c ≤ 122)) || (decide (65 ≤ c) && decide (c ≤ 90))
def digB (c : Int) : Bool := decide (48 ≤ c) && decide (c ≤ 57)
def wchB (c : Int) : Bool := (letB c || digB c) || decide (c = 95)
theorem letter_pu (c : Int) : Pu Tryz.prog 174 [.v (.int .u8 c)] [] (.v (.bool (letB c))) := by
  refine pu_of_ex true [] mixed Tryz.call174 Tryz.func174 rfl Tryz.ntmps174 Tryz.results174 (by decide +kernel) rfl rfl rfl ?_
  refine sxo ?_
  try with_reducible exact trivial
  unfold letB
  repeat' (with_reducible (first | apply And.intro | intro _))
  all_goals simp [*]
  all_goals omega
theorem digit_pu (c : Int) : Pu Tryz.prog 206 [.v (.int .u8 c)] [] (.v (.bool (digB c))) := by
  refine pu_of_ex true [] mixed Tryz.call206 Tryz.func206 rfl Tryz.ntmps206 Tryz.results206 (by decide +kernel) rfl rfl rfl ?_
  refine sxo ?_
  try with_reducible exact trivial
  unfold digB
  repeat' (with_reducible (first | apply And.intro | intro _))
  all_goals simp [*]
def wordR : List UInt8 → Nat
  | [] => 0
  | b :: l => if wchB b.toNat then wordR l + 1 else 0
theorem byte_get {s : ByteArray} {i : Nat} {b : UInt8} (h : s[i]? = some b) : s.data.toList[i]? = some b := by
  have h2 : i < s.size := by
    rcases Nat.lt_or_ge i s.size with h3 | h3
    · exact h3
    · rw [getElem?_neg s i (by omega)] at h; cases h
  rw [getElem?_pos s i h2] at h
  have h3 : i < s.data.size := h2
  rw [Array.getElem?_toList, Array.getElem?_eq_getElem h3]
  exact h
theorem word_step {s : ByteArray} {i : Nat} {b : UInt8} (h : s[i]? = some b) (hw : wordR s.data.toList = i + wordR (s.data.toList.drop i)) :
    (wchB b.toNat = true → wordR s.data.toList = (i + 1) + wordR (s.data.toList.drop (i + 1))) ∧ (wchB b.toNat = false → wordR s.data.toList = i) := by
  obtain ⟨h1, h2⟩ := List.getElem?_eq_some_iff.1 (byte_get h)
  rw [List.drop_eq_getElem_cons h1, h2, wordR] at hw
  exact ⟨fun e => by rw [if_pos e] at hw; omega, fun e => by rw [if_neg (by rw [e]; simp)] at hw; omega⟩
theorem word_end {s : ByteArray} {i : Nat} (h : s.size ≤ i) (hw : wordR s.data.toList = i + wordR (s.data.toList.drop i)) : wordR s.data.toList = i := by
  have h1 : s.data.toList.length ≤ i := by simpa using h
  rw [List.drop_eq_nil_of_le h1, wordR] at hw
  omega
theorem word_pu (s : ByteArray) (hs : s.size ≤ 9223372036854775807) : Pu Tryz.prog 175 [.v (.string s)] [] (.v (.int .i64 (wordR s.data.toList))) := by
  refine pu_of_ex true [] mixed Tryz.call175 Tryz.func175 rfl Tryz.ntmps175 Tryz.results175 (by decide +kernel) rfl rfl rfl ?_
  refine sxo ?_
  try with_reducible exact trivial
  refine tr_loop0 mixed (by kernel_rfl) (fun (i : Nat) => [(3, .v (.int .i64 i)), (0, .v (.string s))]) (fun i => i ≤ s.size ∧ wordR s.data.toList = i + wordR (s.data.toList.drop i)) (fun i => s.size - i) 0 ⟨Nat.zero_le _, by simp⟩ ?_ ?_
  · refine sxo ?_
    try with_reducible exact trivial
  rintro i ⟨h1, h2⟩
  refine sxo ?_
  try with_reducible exact trivial
  refine ⟨fun h => ?_, fun h => by rw [word_end (by omega) h2]⟩
  repeat (with_reducible refine And.intro (by omega) ?_)
  intro b hb
  obtain ⟨w1, w2⟩ := word_step hb h2
  refine sp_call (letter_pu b.toNat) rfl [] rfl (by simp only [push_cast, ↓branch_true, ↓branch_false, Nat.reduceBEq, Nat.reduceAdd, Nat.reduceMul, Nat.reduceSub, Int.reduceToNat, reduceCtorEq, branch_decide, branch_not, branch_beq, branch_bne]) (by simp only [push_cast, ↓branch_true, ↓branch_false, Nat.reduceBEq, Nat.reduceAdd, Nat.reduceMul, Nat.reduceSub, Int.reduceToNat, reduceCtorEq, branch_decide, branch_not, branch_beq, branch_bne]) ?_
  refine sxo ?_
  try with_reducible exact trivial
  cases hl : letB b.toNat with
  | true =>
    refine sxo ?_
    try with_reducible exact trivial
    repeat (with_reducible refine And.intro (by omega) ?_)
    refine lp0_normal (i + 1) ⟨by omega, w1 (by simp [wchB, hl])⟩ (by omega) ?_
    refine sxo ?_
    try with_reducible exact trivial
  | false =>
    refine sxo ?_
    try with_reducible exact trivial
    repeat (with_reducible refine And.intro (by omega) ?_)
    intro b2 hb2
    obtain rfl : b = b2 := Option.some.inj (hb.symm.trans hb2)
    refine sp_call (digit_pu b.toNat) rfl [] rfl (by simp only [push_cast, ↓branch_true, ↓branch_false, Nat.reduceBEq, Nat.reduceAdd, Nat.reduceMul, Nat.reduceSub, Int.reduceToNat, reduceCtorEq, branch_decide, branch_not, branch_beq, branch_bne]) (by simp only [push_cast, ↓branch_true, ↓branch_false, Nat.reduceBEq, Nat.reduceAdd, Nat.reduceMul, Nat.reduceSub, Int.reduceToNat, reduceCtorEq, branch_decide, branch_not, branch_beq, branch_bne]) ?_
    refine sxo ?_
    try with_reducible exact trivial
    cases hd : digB b.toNat with
    | true =>
      refine sxo ?_
      try with_reducible exact trivial
      repeat (with_reducible refine And.intro (by omega) ?_)
      refine lp0_normal (i + 1) ⟨by omega, w1 (by simp [wchB, hd])⟩ (by omega) ?_
      refine sxo ?_
      try with_reducible exact trivial
    | false =>
      refine sxo ?_
      try with_reducible exact trivial
      repeat (with_reducible refine And.intro (by omega) ?_)
      intro b3 hb3
      obtain rfl : b = b3 := Option.some.inj (hb.symm.trans hb3)
      refine ⟨fun h => ?_, fun h => ?_⟩
      · repeat (with_reducible refine And.intro (by omega) ?_)
        refine lp0_normal (i + 1) ⟨by omega, w1 (by simp [wchB, h])⟩ (by omega) ?_
        refine sxo ?_
        try with_reducible exact trivial
      · rw [w2 (by simp [wchB, hl, hd, h])]
theorem beq_cast (a b : Nat) : ((a : Int) == (b : Int)) = decide (a = b) := by
  by_cases h : a = b
  · subst h; simp
  · have : ¬ (a : Int) = (b : Int) := by omega
    simp [h, this]
def nameB (s : ByteArray) : Bool := decide (s.size ≠ 0) && (decide (s.size ≤ 20) && (letB ((s.data.toList.headD 0).toNat) && decide (wordR s.data.toList = s.size)))
theorem head_get {s : ByteArray} {b : UInt8} (h : s[0]? = some b) : s.data.toList.headD 0 = b := by
  have := byte_get h
  cases hl : s.data.toList with
  | nil => rw [hl] at this; cases this
  | cons x l => rw [hl] at this; simpa using this
theorem size0 {s : ByteArray} : s = ⟨#[]⟩ ↔ s.size = 0 := by
  obtain ⟨d⟩ := s
  constructor
  · intro h; rw [h]; rfl
  · intro h
    have : d.size = 0 := h
    rw [Array.eq_empty_of_size_eq_zero this]
theorem name_pu (s : ByteArray) (hs : s.size ≤ 9223372036854775807) : Pu Tryz.prog 136 [.v (.string s)] [] (.v (.bool (nameB s))) := by
  refine pu_of_ex true [] mixed Tryz.call136 Tryz.func136 rfl Tryz.ntmps136 Tryz.results136 (by decide +kernel) rfl rfl rfl ?_
  refine sxo ?_
  try with_reducible exact trivial
  refine ⟨fun h => ?_, fun h => ⟨fun h2 => ?_, fun h2 => ?_⟩⟩
  · simp [nameB, size0.1 h]
  · have h0 : s.size ≠ 0 := fun e => h (size0.2 e)
    repeat (with_reducible refine And.intro (by omega) ?_)
    intro b hb
    refine sp_call (letter_pu b.toNat) rfl [] rfl (by simp only [push_cast, ↓branch_true, ↓branch_false, Nat.reduceBEq, Nat.reduceAdd, Nat.reduceMul, Nat.reduceSub, Int.reduceToNat, reduceCtorEq, branch_decide, branch_not, branch_beq, branch_bne]) (by simp only [push_cast, ↓branch_true, ↓branch_false, Nat.reduceBEq, Nat.reduceAdd, Nat.reduceMul, Nat.reduceSub, Int.reduceToNat, reduceCtorEq, branch_decide, branch_not, branch_beq, branch_bne]) ?_
    refine sxo ?_
    try with_reducible exact trivial
    have hh := head_get hb
    cases hl : letB b.toNat with
    | false =>
      refine sxo ?_
      try with_reducible exact trivial
      simp only [nameB, hh, hl]; simp
    | true =>
      refine sxo ?_
      try with_reducible exact trivial
      refine sp_call (word_pu s hs) rfl [] rfl (by simp only [push_cast, ↓branch_true, ↓branch_false, Nat.reduceBEq, Nat.reduceAdd, Nat.reduceMul, Nat.reduceSub, Int.reduceToNat, reduceCtorEq, branch_decide, branch_not, branch_beq, branch_bne]) (by simp only [push_cast, ↓branch_true, ↓branch_false, Nat.reduceBEq, Nat.reduceAdd, Nat.reduceMul, Nat.reduceSub, Int.reduceToNat, reduceCtorEq, branch_decide, branch_not, branch_beq, branch_bne]) ?_
      refine sxo ?_
      try with_reducible exact trivial
      have h3 : s.size ≤ 20 := by omega
      simp only [nameB, hh, hl]; simp [h0, h3]
      exact beq_cast _ _
  · have h3 : ¬ s.size ≤ 20 := by omega
    simp [nameB, h3]
end Go.Proofs.YtolioflblegneaaGreat
