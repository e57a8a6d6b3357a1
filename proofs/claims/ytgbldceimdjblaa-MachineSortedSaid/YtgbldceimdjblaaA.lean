/- Contracts: names. -/
import Derived.Test.YtgbldceimdjblaaTi
set_option maxRecDepth 100000
set_option linter.unusedSimpArgs false
set_option linter.unusedVariables false
namespace Go.Proofs.Ytgbldceimdjblaa
open Go.RowKit
def letterB (c : Int) : Bool := (decide (97 ≤ c) && decide (c ≤ 122)) || (decide (65 ≤ c) && decide (c ≤ 90))
def digitB (c : Int) : Bool := decide (48 ≤ c) && decide (c ≤ 57)
theorem letter_pu (c : Int) : Pu Try.prog 61 [.v (.int .u8 c)] [] (.v (.bool (letterB c))) := by
  refine pu_of_ex true [] mixed Try.call61 Try.func61 rfl Try.ntmps61 Try.results61 (by decide +kernel) rfl rfl rfl ?_
  simp only [push_cast, ↓branch_true, ↓branch_false, Nat.reduceBEq, Nat.reduceAdd, Nat.reduceMul, Nat.reduceSub, Int.reduceToNat, reduceCtorEq, branch_decide, branch_not, branch_beq, branch_bne]
  unfold letterB
  repeat' (with_reducible (first | apply And.intro | intro _))
  all_goals simp [*]
theorem rletter_pu (c : Int) : Pu Try.prog 59 [.v (.int .u8 c)] [] (.v (.bool (letterB c))) := by
  refine pu_of_ex true [] mixed Try.call59 Try.func59 rfl Try.ntmps59 Try.results59 (by decide +kernel) rfl rfl rfl ?_
  simp only [push_cast, ↓branch_true, ↓branch_false, Nat.reduceBEq, Nat.reduceAdd, Nat.reduceMul, Nat.reduceSub, Int.reduceToNat, reduceCtorEq, branch_decide, branch_not, branch_beq, branch_bne]
  unfold letterB
  repeat' (with_reducible (first | apply And.intro | intro _))
  all_goals simp [*]
theorem digit_pu (c : Int) : Pu Try.prog 69 [.v (.int .u8 c)] [] (.v (.bool (digitB c))) := by
  refine pu_of_ex true [] mixed Try.call69 Try.func69 rfl Try.ntmps69 Try.results69 (by decide +kernel) rfl rfl rfl ?_
  simp only [push_cast, ↓branch_true, ↓branch_false, Nat.reduceBEq, Nat.reduceAdd, Nat.reduceMul, Nat.reduceSub, Int.reduceToNat, reduceCtorEq, branch_decide, branch_not, branch_beq, branch_bne]
  unfold digitB
  repeat' (with_reducible (first | apply And.intro | intro _))
  all_goals simp [*]
theorem rdigit_pu (c : Int) : Pu Try.prog 68 [.v (.int .u8 c)] [] (.v (.bool (digitB c))) := by
  refine pu_of_ex true [] mixed Try.call68 Try.func68 rfl Try.ntmps68 Try.results68 (by decide +kernel) rfl rfl rfl ?_
  simp only [push_cast, ↓branch_true, ↓branch_false, Nat.reduceBEq, Nat.reduceAdd, Nat.reduceMul, Nat.reduceSub, Int.reduceToNat, reduceCtorEq, branch_decide, branch_not, branch_beq, branch_bne]
  unfold digitB
  repeat' (with_reducible (first | apply And.intro | intro _))
  all_goals simp [*]
def wordB (b : UInt8) : Bool := letterB (b.toNat : Int) || digitB (b.toNat : Int) || ((b.toNat : Int) == 95)
def wordL : List UInt8 → Nat
  | [] => 0
  | b :: l => bif wordB b then wordL l + 1 else 0
def bytes (s : ByteArray) : List UInt8 := s.data.toList
theorem bytes_len (s : ByteArray) : (bytes s).length = s.size := by
  show s.data.toList.length = s.data.size
  exact Array.length_toList
theorem loop_bytes (s : ByteArray) : ∀ (n i : Nat) (r : List UInt8), s.size - i = n → ByteArray.toList.loop s i r = r.reverse ++ (bytes s).drop i
  | 0, i, r, h => by
    rw [ByteArray.toList.loop, if_neg (by omega), List.drop_eq_nil_of_le (by rw [bytes_len]; omega), List.append_nil]
  | n + 1, i, r, h => by
    have hi : i < s.size := by omega
    have hi2 : i < (bytes s).length := by rw [bytes_len]; exact hi
    have hg : s.get! i = (bytes s)[i] := by
      show s.data[i]! = s.data.toList[i]
      rw [getElem!_pos s.data i hi]
      rfl
    rw [ByteArray.toList.loop, if_pos hi, loop_bytes s n (i + 1) _ (by omega), List.drop_eq_getElem_cons hi2, hg]
    simp
theorem toList_bytes (s : ByteArray) : s.toList = bytes s := by
  rw [ByteArray.toList, loop_bytes s _ 0 [] rfl]
  simp
theorem bytes_get {s : ByteArray} {k : Nat} {b : UInt8} (h : s[k]? = some b) : (bytes s)[k]? = some b := by
  by_cases c : k < s.size
  · rw [getElem?_pos s k c, Option.some.injEq] at h
    rw [← h]
    have hk : k < (bytes s).length := by rw [bytes_len]; exact c
    rw [List.getElem?_eq_getElem hk]
    rfl
  · rw [getElem?_neg s k c] at h; cases h
theorem wordL_step {s : ByteArray} {k : Nat} {b : UInt8} (h : s[k]? = some b) : wordL ((bytes s).drop k) = bif wordB b then wordL ((bytes s).drop (k + 1)) + 1 else 0 := by
  have h := bytes_get h
  obtain ⟨hk, h1⟩ := List.getElem?_eq_some_iff.1 h
  rw [List.drop_eq_getElem_cons hk, h1, wordL]
theorem word_pu (s : ByteArray) (hs : s.size ≤ 9223372036854775806) : Pu Try.prog 62 [.v (.string s)] [] (.v (.int .i64 (wordL (bytes s)))) := by
  refine pu_of_ex true [] mixed Try.call62 Try.func62 rfl Try.ntmps62 Try.results62 (by decide +kernel) rfl rfl rfl ?_
  simp only [push_cast, ↓branch_true, ↓branch_false, Nat.reduceBEq, Nat.reduceAdd, Nat.reduceMul, Nat.reduceSub, Int.reduceToNat, reduceCtorEq, branch_decide, branch_not, branch_beq, branch_bne]
  refine tr_loop0 mixed (by kernel_rfl) (fun (k : Nat) => [(3, .v (.int .i64 k)), (0, .v (.string s))]) (fun k => k ≤ s.size ∧ wordL (bytes s) = k + wordL ((bytes s).drop k)) (fun k => s.size - k) 0 ⟨Nat.zero_le _, by simp⟩ ?_ ?_
  · simp only [push_cast, ↓branch_true, ↓branch_false, Nat.reduceBEq, Nat.reduceAdd, Nat.reduceMul, Nat.reduceSub, Int.reduceToNat, reduceCtorEq, branch_decide, branch_not, branch_beq, branch_bne]
  rintro k ⟨r1, r2⟩
  simp only [push_cast, ↓branch_true, ↓branch_false, Nat.reduceBEq, Nat.reduceAdd, Nat.reduceMul, Nat.reduceSub, Int.reduceToNat, reduceCtorEq, branch_decide, branch_not, branch_beq, branch_bne]
  refine ⟨fun h => ?_, fun h => ?_⟩
  · repeat (with_reducible refine And.intro (by omega) ?_)
    intro b hb
    have hst := wordL_step hb
    refine sp_call (letter_pu b.toNat) rfl [] rfl (by simp only [push_cast, ↓branch_true, ↓branch_false, Nat.reduceBEq, Nat.reduceAdd, Nat.reduceMul, Nat.reduceSub, Int.reduceToNat, reduceCtorEq, branch_decide, branch_not, branch_beq, branch_bne]) (by simp only [push_cast, ↓branch_true, ↓branch_false, Nat.reduceBEq, Nat.reduceAdd, Nat.reduceMul, Nat.reduceSub, Int.reduceToNat, reduceCtorEq, branch_decide, branch_not, branch_beq, branch_bne]) ?_
    simp only [push_cast, ↓branch_true, ↓branch_false, Nat.reduceBEq, Nat.reduceAdd, Nat.reduceMul, Nat.reduceSub, Int.reduceToNat, reduceCtorEq, branch_decide, branch_not, branch_beq, branch_bne]
    simp only [branch]
    refine ⟨fun hl => ?_, fun hl => ?_⟩
    · have hw : wordB b = true := by simp [wordB, hl]
      repeat (with_reducible refine And.intro (by omega) ?_)
      refine lp0_normal (k + 1) ⟨by omega, by rw [r2, hst, hw, cond_true]; omega⟩ (by omega) ?_
      simp only [push_cast, ↓branch_true, ↓branch_false, Nat.reduceBEq, Nat.reduceAdd, Nat.reduceMul, Nat.reduceSub, Int.reduceToNat, reduceCtorEq, branch_decide, branch_not, branch_beq, branch_bne]
    · repeat (with_reducible refine And.intro (by omega) ?_)
      intro b1 hb1
      obtain rfl : b = b1 := by rw [hb] at hb1; exact Option.some.inj hb1
      refine sp_call (digit_pu b.toNat) rfl [] rfl (by simp only [push_cast, ↓branch_true, ↓branch_false, Nat.reduceBEq, Nat.reduceAdd, Nat.reduceMul, Nat.reduceSub, Int.reduceToNat, reduceCtorEq, branch_decide, branch_not, branch_beq, branch_bne]) (by simp only [push_cast, ↓branch_true, ↓branch_false, Nat.reduceBEq, Nat.reduceAdd, Nat.reduceMul, Nat.reduceSub, Int.reduceToNat, reduceCtorEq, branch_decide, branch_not, branch_beq, branch_bne]) ?_
      simp only [push_cast, ↓branch_true, ↓branch_false, Nat.reduceBEq, Nat.reduceAdd, Nat.reduceMul, Nat.reduceSub, Int.reduceToNat, reduceCtorEq, branch_decide, branch_not, branch_beq, branch_bne]
      simp only [branch]
      refine ⟨fun hd => ?_, fun hd => ?_⟩
      · have hw : wordB b = true := by simp [wordB, hd]
        repeat (with_reducible refine And.intro (by omega) ?_)
        refine lp0_normal (k + 1) ⟨by omega, by rw [r2, hst, hw, cond_true]; omega⟩ (by omega) ?_
        simp only [push_cast, ↓branch_true, ↓branch_false, Nat.reduceBEq, Nat.reduceAdd, Nat.reduceMul, Nat.reduceSub, Int.reduceToNat, reduceCtorEq, branch_decide, branch_not, branch_beq, branch_bne]
      · repeat (with_reducible refine And.intro (by omega) ?_)
        intro b1 hb1
        obtain rfl : b = b1 := by rw [hb] at hb1; exact Option.some.inj hb1
        refine ⟨fun hu => ?_, fun hu => ?_⟩
        · have hw : wordB b = true := by simp [wordB, hu]
          repeat (with_reducible refine And.intro (by omega) ?_)
          refine lp0_normal (k + 1) ⟨by omega, by rw [r2, hst, hw, cond_true]; omega⟩ (by omega) ?_
          simp only [push_cast, ↓branch_true, ↓branch_false, Nat.reduceBEq, Nat.reduceAdd, Nat.reduceMul, Nat.reduceSub, Int.reduceToNat, reduceCtorEq, branch_decide, branch_not, branch_beq, branch_bne]
        · have hw : wordB b = false := by simp [wordB, hl, hd, hu]
          rw [r2, hst, hw]
          simp
  · obtain rfl : k = s.size := by omega
    rw [r2, List.drop_eq_nil_of_le (by rw [bytes_len]; omega)]
    simp [wordL]
theorem rword_pu (s : ByteArray) (hs : s.size ≤ 9223372036854775806) : Pu Try.prog 60 [.v (.string s), .v (.int .i64 0)] [] (.v (.int .i64 (wordL (bytes s)))) := by
  refine pu_of_ex true [] mixed Try.call60 Try.func60 rfl Try.ntmps60 Try.results60 (by decide +kernel) rfl rfl rfl ?_
  simp only [push_cast, ↓branch_true, ↓branch_false, Nat.reduceBEq, Nat.reduceAdd, Nat.reduceMul, Nat.reduceSub, Int.reduceToNat, reduceCtorEq, branch_decide, branch_not, branch_beq, branch_bne]
  refine tr_loop0 mixed (by kernel_rfl) (fun (k : Nat) => [(1, .v (.int .i64 k)), (0, .v (.string s))]) (fun k => k ≤ s.size ∧ wordL (bytes s) = k + wordL ((bytes s).drop k)) (fun k => s.size - k) 0 ⟨Nat.zero_le _, by simp⟩ ?_ ?_
  · simp only [push_cast, ↓branch_true, ↓branch_false, Nat.reduceBEq, Nat.reduceAdd, Nat.reduceMul, Nat.reduceSub, Int.reduceToNat, reduceCtorEq, branch_decide, branch_not, branch_beq, branch_bne]
  rintro k ⟨r1, r2⟩
  simp only [push_cast, ↓branch_true, ↓branch_false, Nat.reduceBEq, Nat.reduceAdd, Nat.reduceMul, Nat.reduceSub, Int.reduceToNat, reduceCtorEq, branch_decide, branch_not, branch_beq, branch_bne]
  refine ⟨fun h => ?_, fun h => ?_⟩
  · repeat (with_reducible refine And.intro (by omega) ?_)
    intro b hb
    have hst := wordL_step hb
    refine sp_call (rletter_pu b.toNat) rfl [] rfl (by simp only [push_cast, ↓branch_true, ↓branch_false, Nat.reduceBEq, Nat.reduceAdd, Nat.reduceMul, Nat.reduceSub, Int.reduceToNat, reduceCtorEq, branch_decide, branch_not, branch_beq, branch_bne]) (by simp only [push_cast, ↓branch_true, ↓branch_false, Nat.reduceBEq, Nat.reduceAdd, Nat.reduceMul, Nat.reduceSub, Int.reduceToNat, reduceCtorEq, branch_decide, branch_not, branch_beq, branch_bne]) ?_
    simp only [push_cast, ↓branch_true, ↓branch_false, Nat.reduceBEq, Nat.reduceAdd, Nat.reduceMul, Nat.reduceSub, Int.reduceToNat, reduceCtorEq, branch_decide, branch_not, branch_beq, branch_bne]
    simp only [branch]
    refine ⟨fun hl => ?_, fun hl => ?_⟩
    · have hw : wordB b = true := by simp [wordB, hl]
      repeat (with_reducible refine And.intro (by omega) ?_)
      refine lp0_normal (k + 1) ⟨by omega, by rw [r2, hst, hw, cond_true]; omega⟩ (by omega) ?_
      simp only [push_cast, ↓branch_true, ↓branch_false, Nat.reduceBEq, Nat.reduceAdd, Nat.reduceMul, Nat.reduceSub, Int.reduceToNat, reduceCtorEq, branch_decide, branch_not, branch_beq, branch_bne]
    · repeat (with_reducible refine And.intro (by omega) ?_)
      intro b1 hb1
      obtain rfl : b = b1 := by rw [hb] at hb1; exact Option.some.inj hb1
      refine sp_call (rdigit_pu b.toNat) rfl [] rfl (by simp only [push_cast, ↓branch_true, ↓branch_false, Nat.reduceBEq, Nat.reduceAdd, Nat.reduceMul, Nat.reduceSub, Int.reduceToNat, reduceCtorEq, branch_decide, branch_not, branch_beq, branch_bne]) (by simp only [push_cast, ↓branch_true, ↓branch_false, Nat.reduceBEq, Nat.reduceAdd, Nat.reduceMul, Nat.reduceSub, Int.reduceToNat, reduceCtorEq, branch_decide, branch_not, branch_beq, branch_bne]) ?_
      simp only [push_cast, ↓branch_true, ↓branch_false, Nat.reduceBEq, Nat.reduceAdd, Nat.reduceMul, Nat.reduceSub, Int.reduceToNat, reduceCtorEq, branch_decide, branch_not, branch_beq, branch_bne]
      simp only [branch]
      refine ⟨fun hd => ?_, fun hd => ?_⟩
      · have hw : wordB b = true := by simp [wordB, hd]
        repeat (with_reducible refine And.intro (by omega) ?_)
        refine lp0_normal (k + 1) ⟨by omega, by rw [r2, hst, hw, cond_true]; omega⟩ (by omega) ?_
        simp only [push_cast, ↓branch_true, ↓branch_false, Nat.reduceBEq, Nat.reduceAdd, Nat.reduceMul, Nat.reduceSub, Int.reduceToNat, reduceCtorEq, branch_decide, branch_not, branch_beq, branch_bne]
      · repeat (with_reducible refine And.intro (by omega) ?_)
        intro b1 hb1
        obtain rfl : b = b1 := by rw [hb] at hb1; exact Option.some.inj hb1
        refine ⟨fun hu => ?_, fun hu => ?_⟩
        · have hw : wordB b = true := by simp [wordB, hu]
          repeat (with_reducible refine And.intro (by omega) ?_)
          refine lp0_normal (k + 1) ⟨by omega, by rw [r2, hst, hw, cond_true]; omega⟩ (by omega) ?_
          simp only [push_cast, ↓branch_true, ↓branch_false, Nat.reduceBEq, Nat.reduceAdd, Nat.reduceMul, Nat.reduceSub, Int.reduceToNat, reduceCtorEq, branch_decide, branch_not, branch_beq, branch_bne]
        · have hw : wordB b = false := by simp [wordB, hl, hd, hu]
          rw [r2, hst, hw]
          simp
  · obtain rfl : k = s.size := by omega
    rw [r2, List.drop_eq_nil_of_le (by rw [bytes_len]; omega)]
    simp [wordL]
/-- A name. -/
def nameB (s : ByteArray) : Bool := decide (0 < s.size) && decide (s.size ≤ 20) && (match bytes s with | [] => false | b :: _ => letterB b.toNat) && decide (wordL (bytes s) = s.size)
theorem name_pu (s : ByteArray) : Pu Try.prog 47 [.v (.string s)] [] (.v (.bool (nameB s))) := by
  refine pu_of_ex true [] mixed Try.call47 Try.func47 rfl Try.ntmps47 Try.results47 (by decide +kernel) rfl rfl rfl ?_
  simp only [push_cast, ↓branch_true, ↓branch_false, Nat.reduceBEq, Nat.reduceAdd, Nat.reduceMul, Nat.reduceSub, Int.reduceToNat, reduceCtorEq, branch_decide, branch_not, branch_beq, branch_bne]
  rw [toList_bytes, toList_bytes]
  have hem : (bytes s == bytes { data := #[] }) = decide (s.size = 0) := by
    have h0 : bytes ({ data := #[] } : ByteArray) = [] := rfl
    rw [h0, ← bytes_len s]
    cases bytes s <;> simp
  rw [hem]
  simp only [branch]
  refine ⟨fun h => ?_, fun h => ?_⟩
  · have h : s.size = 0 := by simpa using h
    simp [nameB, h]
  · have h : ¬ s.size = 0 := by simpa using h
    refine ⟨fun h2 => ?_, fun h2 => ?_⟩
    · repeat (with_reducible refine And.intro (by omega) ?_)
      intro b hb
      have hb0 := bytes_get hb
      have hbl : bytes s = b :: (bytes s).drop 1 := by
        cases hc : bytes s with
        | nil => rw [hc] at hb0; simp at hb0
        | cons x l => rw [hc] at hb0; simp at hb0; rw [hb0]; rfl
      refine sp_call (letter_pu b.toNat) rfl [] rfl (by simp only [push_cast, ↓branch_true, ↓branch_false, Nat.reduceBEq, Nat.reduceAdd, Nat.reduceMul, Nat.reduceSub, Int.reduceToNat, reduceCtorEq, branch_decide, branch_not, branch_beq, branch_bne]) (by simp only [push_cast, ↓branch_true, ↓branch_false, Nat.reduceBEq, Nat.reduceAdd, Nat.reduceMul, Nat.reduceSub, Int.reduceToNat, reduceCtorEq, branch_decide, branch_not, branch_beq, branch_bne]) ?_
      simp only [push_cast, ↓branch_true, ↓branch_false, Nat.reduceBEq, Nat.reduceAdd, Nat.reduceMul, Nat.reduceSub, Int.reduceToNat, reduceCtorEq, branch_decide, branch_not, branch_beq, branch_bne]
      simp only [branch]
      refine ⟨fun hl => ?_, fun hl => ?_⟩
      · refine sp_call (word_pu s (by omega)) rfl [] rfl (by simp only [push_cast, ↓branch_true, ↓branch_false, Nat.reduceBEq, Nat.reduceAdd, Nat.reduceMul, Nat.reduceSub, Int.reduceToNat, reduceCtorEq, branch_decide, branch_not, branch_beq, branch_bne]) (by simp only [push_cast, ↓branch_true, ↓branch_false, Nat.reduceBEq, Nat.reduceAdd, Nat.reduceMul, Nat.reduceSub, Int.reduceToNat, reduceCtorEq, branch_decide, branch_not, branch_beq, branch_bne]) ?_
        simp only [push_cast, ↓branch_true, ↓branch_false, Nat.reduceBEq, Nat.reduceAdd, Nat.reduceMul, Nat.reduceSub, Int.reduceToNat, reduceCtorEq, branch_decide, branch_not, branch_beq, branch_bne]
        unfold nameB
        rw [hbl]
        simp [hl, show 0 < s.size by omega, show s.size ≤ 20 by omega]
        rw [Bool.eq_iff_iff, beq_iff_eq, decide_eq_true_eq]
        omega
      · unfold nameB
        rw [hbl]
        simp [hl]
    · simp [nameB, show ¬ s.size ≤ 20 by omega]
theorem rname_pu (s : ByteArray) : Pu Try.prog 43 [.v (.string s)] [] (.v (.bool (nameB s))) := by
  refine pu_of_ex true [] mixed Try.call43 Try.func43 rfl Try.ntmps43 Try.results43 (by decide +kernel) rfl rfl rfl ?_
  simp only [push_cast, ↓branch_true, ↓branch_false, Nat.reduceBEq, Nat.reduceAdd, Nat.reduceMul, Nat.reduceSub, Int.reduceToNat, reduceCtorEq, branch_decide, branch_not, branch_beq, branch_bne]
  refine ⟨fun h => ?_, fun h => ⟨fun h2 => ?_, fun h2 => ?_⟩⟩
  · simp [nameB, show s.size = 0 by omega]
  · simp [nameB, show ¬ s.size ≤ 20 by omega]
  · repeat (with_reducible refine And.intro (by omega) ?_)
    intro b hb
    have hb0 := bytes_get hb
    have hbl : bytes s = b :: (bytes s).drop 1 := by
      cases hc : bytes s with
      | nil => rw [hc] at hb0; simp at hb0
      | cons x l => rw [hc] at hb0; simp at hb0; rw [hb0]; rfl
    refine sp_call (rletter_pu b.toNat) rfl [] rfl (by simp only [push_cast, ↓branch_true, ↓branch_false, Nat.reduceBEq, Nat.reduceAdd, Nat.reduceMul, Nat.reduceSub, Int.reduceToNat, reduceCtorEq, branch_decide, branch_not, branch_beq, branch_bne]) (by simp only [push_cast, ↓branch_true, ↓branch_false, Nat.reduceBEq, Nat.reduceAdd, Nat.reduceMul, Nat.reduceSub, Int.reduceToNat, reduceCtorEq, branch_decide, branch_not, branch_beq, branch_bne]) ?_
    simp only [push_cast, ↓branch_true, ↓branch_false, Nat.reduceBEq, Nat.reduceAdd, Nat.reduceMul, Nat.reduceSub, Int.reduceToNat, reduceCtorEq, branch_decide, branch_not, branch_beq, branch_bne]
    simp only [branch]
    refine ⟨fun hl => ?_, fun hl => ?_⟩
    · refine sp_call (rword_pu s (by omega)) rfl [] rfl (by simp only [push_cast, ↓branch_true, ↓branch_false, Nat.reduceBEq, Nat.reduceAdd, Nat.reduceMul, Nat.reduceSub, Int.reduceToNat, reduceCtorEq, branch_decide, branch_not, branch_beq, branch_bne]) (by simp only [push_cast, ↓branch_true, ↓branch_false, Nat.reduceBEq, Nat.reduceAdd, Nat.reduceMul, Nat.reduceSub, Int.reduceToNat, reduceCtorEq, branch_decide, branch_not, branch_beq, branch_bne]) ?_
      simp only [push_cast, ↓branch_true, ↓branch_false, Nat.reduceBEq, Nat.reduceAdd, Nat.reduceMul, Nat.reduceSub, Int.reduceToNat, reduceCtorEq, branch_decide, branch_not, branch_beq, branch_bne]
      unfold nameB
      rw [hbl]
      simp [hl, show 0 < s.size by omega, show s.size ≤ 20 by omega]
      rw [Bool.eq_iff_iff, beq_iff_eq, decide_eq_true_eq]
      omega
    · unfold nameB
      rw [hbl]
      simp [hl]
end Go.Proofs.Ytgbldceimdjblaa
