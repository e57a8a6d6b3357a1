/- Contracts: bundles, which are valid. -/
import Derived.Test.YtdinkpefoljigaaA
set_option maxRecDepth 100000
set_option linter.unusedSimpArgs false
set_option linter.unusedVariables false
namespace Go.Proofs.Ytdinkpefoljigaa
open Go.RowKit
instance : LawfulBEq ByteArray where
  eq_of_beq h := (MapKept.bytes_beq _ _).1 h
  rfl := (MapKept.bytes_beq _ _).2 rfl
structure Bun where
  tag : ByteArray
  mark : ByteArray
  count : Int
  mass : Int
instance : Inhabited Bun := ⟨⟨⟨#[]⟩, ⟨#[]⟩, 0, 0⟩⟩
def cB (b : Bun) : List SV := [.v (.string b.tag), .v (.string b.mark), .v (.int .i64 b.count), .v (.int .i64 b.mass)]
def rB (l : List Bun) : Ob := ⟨48, true, .row 4 1 (fun _ => l.length) (fun _ => 0) (fun _ k => cB (ix l k))⟩
attribute [push_cast] cB rB
/-- Strings that fit. -/
def strOk (l : List Bun) : Prop := ∀ b ∈ l, b.tag.size ≤ 9223372036854775807 ∧ b.mark.size ≤ 9223372036854775807
def seenB (l : List Bun) (k : Nat) (s : ByteArray) : Bool := (l.take k).any fun b => s == b.tag
def okA (l : List Bun) (k : Nat) : Bool := nameB (ix l k).tag && (nameB (ix l k).mark && (!seenB l k (ix l k).tag && (decide (1 ≤ (ix l k).count) && (decide ((ix l k).count ≤ 1000) && (decide (0 ≤ (ix l k).mass) && decide ((ix l k).mass ≤ 1099511627776))))))
def vB (l : List Bun) : Bool := decide (l.length ≤ 1000) && (List.range l.length).all (okA l)
theorem vB_yes {l : List Bun} : vB l = true ↔ l.length ≤ 1000 ∧ ∀ k, k < l.length → okA l k = true := by
  simp [vB]
theorem vB_no {l : List Bun} {k : Nat} (hk : k < l.length) (h : okA l k = false) : vB l = false := by
  cases e : vB l with
  | false => rfl
  | true => rw [(vB_yes.1 e).2 k hk] at h; cases h
theorem seen_step {l : List Bun} {k : Nat} (hk : k < l.length) (s : ByteArray) : seenB l (k + 1) s = (s == (ix l k).tag || seenB l k s) := by
  unfold seenB
  rw [take_snoc hk, List.any_append, Bool.or_comm]
  simp
set_option maxHeartbeats 1000000 in
theorem valid_pu (l : List Bun) (c : Nat) (hs : strOk l) (hl : l.length ≤ 9223372036854775807) : Pu Try.prog 27 [.s 0 0 0 l.length c 4] [rB l] (.v (.bool (vB l))) := by
  refine pu_of_ex true [] mixed Try.call27 Try.func27 rfl Try.ntmps27 Try.results27 (by decide +kernel) rfl rfl rfl ?_
  simp only [push_cast, ↓branch_true, ↓branch_false, Nat.reduceBEq, Nat.reduceAdd, Nat.reduceMul, Nat.reduceSub, Int.reduceToNat, reduceCtorEq, branch_decide, branch_not, branch_beq, branch_bne]
  refine ⟨fun h => ?_, fun h => ?_⟩
  · have : ¬ l.length ≤ 1000 := by omega
    simp [vB, this]
  have hlen : l.length ≤ 1000 := by omega
  refine tr_loop mixed (by kernel_rfl) (fun (k : Nat) => [(12, .v (.int .i64 k)), (11, .v (.int .i64 l.length)), (10, .s 0 0 0 l.length c 4), (3, .m 1), (0, .s 0 0 0 l.length c 4)])
    (fun k => [rB l, ⟨76, false, .mp .string k (gS (seenB l k))⟩]) (fun k => k ≤ l.length ∧ ∀ i, i < k → okA l i = true) (fun k => l.length - k) 0 ⟨Nat.zero_le _, fun i hi => by omega⟩ (Mt.wk (rl := [0, 1]) ⟨by kernel_rfl, ?_, ?_⟩) ?_
  · simp only [push_cast, ↓branch_true, ↓branch_false, Nat.reduceBEq, Nat.reduceAdd, Nat.reduceMul, Nat.reduceSub, Int.reduceToNat, reduceCtorEq, branch_decide, branch_not, branch_beq, branch_bne]
  · simp only [push_cast, ↓branch_true, ↓branch_false, Nat.reduceBEq, Nat.reduceAdd, Nat.reduceMul, Nat.reduceSub, Int.reduceToNat, reduceCtorEq, branch_decide, branch_not, branch_beq, branch_bne]
    exact gS_no (fun s => by simp [seenB]) _
  rintro k ⟨h1, h2⟩
  simp only [push_cast, ↓branch_true, ↓branch_false, Nat.reduceBEq, Nat.reduceAdd, Nat.reduceMul, Nat.reduceSub, Int.reduceToNat, reduceCtorEq, branch_decide, branch_not, branch_beq, branch_bne]
  refine ⟨fun h => ?_, fun h => ?_⟩
  · repeat (with_reducible refine And.intro (by omega) ?_)
    have hk : k < l.length := by omega
    obtain ⟨s1, s2⟩ := hs _ (ix_mem hk)
    have no : okA l k = false → vB l = false := vB_no hk
    refine sp_call (name_pu (ix l k).tag s1) rfl [] rfl (by simp only [push_cast, ↓branch_true, ↓branch_false, Nat.reduceBEq, Nat.reduceAdd, Nat.reduceMul, Nat.reduceSub, Int.reduceToNat, reduceCtorEq, branch_decide, branch_not, branch_beq, branch_bne]) (by simp only [push_cast, ↓branch_true, ↓branch_false, Nat.reduceBEq, Nat.reduceAdd, Nat.reduceMul, Nat.reduceSub, Int.reduceToNat, reduceCtorEq, branch_decide, branch_not, branch_beq, branch_bne]) ?_
    simp only [push_cast, ↓branch_true, ↓branch_false, Nat.reduceBEq, Nat.reduceAdd, Nat.reduceMul, Nat.reduceSub, Int.reduceToNat, reduceCtorEq, branch_decide, branch_not, branch_beq, branch_bne]
    cases n1 : nameB (ix l k).tag with
    | false =>
      simp only [push_cast, ↓branch_true, ↓branch_false, Nat.reduceBEq, Nat.reduceAdd, Nat.reduceMul, Nat.reduceSub, Int.reduceToNat, reduceCtorEq, branch_decide, branch_not, branch_beq, branch_bne]
      rw [no (by simp [okA, n1])]
    | true =>
    simp only [push_cast, ↓branch_true, ↓branch_false, Nat.reduceBEq, Nat.reduceAdd, Nat.reduceMul, Nat.reduceSub, Int.reduceToNat, reduceCtorEq, branch_decide, branch_not, branch_beq, branch_bne]
    refine sp_call (name_pu (ix l k).mark s2) rfl [] rfl (by simp only [push_cast, ↓branch_true, ↓branch_false, Nat.reduceBEq, Nat.reduceAdd, Nat.reduceMul, Nat.reduceSub, Int.reduceToNat, reduceCtorEq, branch_decide, branch_not, branch_beq, branch_bne]) (by simp only [push_cast, ↓branch_true, ↓branch_false, Nat.reduceBEq, Nat.reduceAdd, Nat.reduceMul, Nat.reduceSub, Int.reduceToNat, reduceCtorEq, branch_decide, branch_not, branch_beq, branch_bne]) ?_
    simp only [push_cast, ↓branch_true, ↓branch_false, Nat.reduceBEq, Nat.reduceAdd, Nat.reduceMul, Nat.reduceSub, Int.reduceToNat, reduceCtorEq, branch_decide, branch_not, branch_beq, branch_bne]
    cases n2 : nameB (ix l k).mark with
    | false =>
      simp only [push_cast, ↓branch_true, ↓branch_false, Nat.reduceBEq, Nat.reduceAdd, Nat.reduceMul, Nat.reduceSub, Int.reduceToNat, reduceCtorEq, branch_decide, branch_not, branch_beq, branch_bne]
      rw [no (by simp [okA, n2])]
    | true =>
    simp only [push_cast, ↓branch_true, ↓branch_false, Nat.reduceBEq, Nat.reduceAdd, Nat.reduceMul, Nat.reduceSub, Int.reduceToNat, reduceCtorEq, branch_decide, branch_not, branch_beq, branch_bne]
    cases n3 : seenB l k (ix l k).tag with
    | true =>
      simp only [push_cast, ↓branch_true, ↓branch_false, Nat.reduceBEq, Nat.reduceAdd, Nat.reduceMul, Nat.reduceSub, Int.reduceToNat, reduceCtorEq, branch_decide, branch_not, branch_beq, branch_bne]
      rw [no (by simp [okA, n3])]
    | false =>
    simp only [push_cast, ↓branch_true, ↓branch_false, Nat.reduceBEq, Nat.reduceAdd, Nat.reduceMul, Nat.reduceSub, Int.reduceToNat, reduceCtorEq, branch_decide, branch_not, branch_beq, branch_bne]
    refine ⟨fun h3 => ?_, fun h3 => ⟨fun h4 => ?_, fun h4 => ⟨fun h5 => ?_, fun h5 => ⟨fun h6 => ?_, fun h6 => ?_⟩⟩⟩⟩
    · have : ¬ 1 ≤ (ix l k).count := by omega
      rw [no (by simp [okA, this])]
    · have : ¬ (ix l k).count ≤ 1000 := by omega
      rw [no (by simp [okA, this])]
    · have : ¬ 0 ≤ (ix l k).mass := by omega
      rw [no (by simp [okA, this])]
    · have : ¬ (ix l k).mass ≤ 1099511627776 := by omega
      rw [no (by simp [okA, this])]
    · have yes : okA l k = true := by
        simp [okA, n1, n2, n3]; omega
      repeat (with_reducible refine And.intro (by omega) ?_)
      refine lpK_normal (k + 1) [0, 1] ⟨by omega, fun i hi => ?_⟩ (by omega) (by kernel_rfl) ?_ ?_
      · by_cases e : i = k
        · subst e; exact yes
        · exact h2 i (by omega)
      · simp only [push_cast, ↓branch_true, ↓branch_false, Nat.reduceBEq, Nat.reduceAdd, Nat.reduceMul, Nat.reduceSub, Int.reduceToNat, reduceCtorEq, branch_decide, branch_not, branch_beq, branch_bne]
      · simp only [push_cast, ↓branch_true, ↓branch_false, Nat.reduceBEq, Nat.reduceAdd, Nat.reduceMul, Nat.reduceSub, Int.reduceToNat, reduceCtorEq, branch_decide, branch_not, branch_beq, branch_bne]
        exact gS_up (seen_step hk)
  · have : vB l = true := vB_yes.2 ⟨hlen, fun i hi => h2 i (by omega)⟩
    rw [this]
/-- The place of a tag. -/
def fnd (l : List Bun) (s : ByteArray) : Int :=
  match l.findIdx? fun b => b.tag == s with
  | some i => i
  | none => -1
theorem fnd_at {l : List Bun} {s : ByteArray} {k : Nat} (hk : k < l.length) (h : (ix l k).tag = s) (hn : ∀ i, i < k → (ix l i).tag ≠ s) : fnd l s = k := by
  have : l.findIdx? (fun b => b.tag == s) = some k := by
    rw [List.findIdx?_eq_some_iff_getElem]
    refine ⟨hk, by rw [← ix_eq hk, h]; simp, fun j hj => ?_⟩
    have := hn j hj
    rw [ix_eq (by omega)] at this
    simpa using this
  unfold fnd
  rw [this]
theorem fnd_no {l : List Bun} {s : ByteArray} (hn : ∀ i, i < l.length → (ix l i).tag ≠ s) : fnd l s = -1 := by
  have : l.findIdx? (fun b => b.tag == s) = none := by
    rw [List.findIdx?_eq_none_iff]
    intro b hb
    obtain ⟨i, hi, rfl⟩ := List.mem_iff_getElem.1 hb
    have := hn i hi
    rw [ix_eq hi] at this
    simpa using this
  unfold fnd
  rw [this]
theorem fnd_seen {l : List Bun} {k : Nat} (hk : k < l.length) : fnd l (ix l k).tag = k ↔ seenB l k (ix l k).tag = false := by
  constructor
  · intro h
    unfold fnd at h
    split at h
    · rename_i i hi
      obtain rfl : i = k := by omega
      rw [List.findIdx?_eq_some_iff_getElem] at hi
      obtain ⟨_, _, h3⟩ := hi
      unfold seenB
      rw [List.any_eq_false]
      intro b hb
      obtain ⟨j, hj, rfl⟩ := List.mem_iff_getElem.1 hb
      have hj' : j < i := by simp at hj; omega
      have := h3 j hj'
      simp only [List.getElem_take, beq_iff_eq]
      simp only [Bool.not_eq_true, beq_eq_false_iff_ne] at this
      exact fun e => this e.symm
    · omega
  · intro h
    refine fnd_at hk rfl fun i hi e => ?_
    unfold seenB at h
    rw [List.any_eq_false] at h
    have := h (ix l i) (by rw [ix_eq (by omega)]; exact List.mem_iff_getElem.2 ⟨i, by simp; omega, by simp⟩)
    simp [e] at this
theorem rfind_pu (l : List Bun) (s : ByteArray) (c : Nat) (hl : l.length ≤ 9223372036854775807) : Pu Try.prog 34 [.s 0 0 0 l.length c 4, .v (.string s)] [rB l] (.v (.int .i64 (fnd l s))) := by
  refine pu_of_ex true [] mixed Try.call34 Try.func34 rfl Try.ntmps34 Try.results34 (by decide +kernel) rfl rfl rfl ?_
  simp only [push_cast, ↓branch_true, ↓branch_false, Nat.reduceBEq, Nat.reduceAdd, Nat.reduceMul, Nat.reduceSub, Int.reduceToNat, reduceCtorEq, branch_decide, branch_not, branch_beq, branch_bne]
  refine tr_loop0 mixed (by kernel_rfl) (fun (k : Nat) => [(5, .v (.int .i64 k)), (0, .s 0 0 0 l.length c 4), (1, .v (.string s))]) (fun k => k ≤ l.length ∧ ∀ i, i < k → (ix l i).tag ≠ s) (fun k => l.length - k) 0 ⟨Nat.zero_le _, fun i hi => by omega⟩ ?_ ?_
  · simp only [push_cast, ↓branch_true, ↓branch_false, Nat.reduceBEq, Nat.reduceAdd, Nat.reduceMul, Nat.reduceSub, Int.reduceToNat, reduceCtorEq, branch_decide, branch_not, branch_beq, branch_bne]
  rintro k ⟨h1, h2⟩
  simp only [push_cast, ↓branch_true, ↓branch_false, Nat.reduceBEq, Nat.reduceAdd, Nat.reduceMul, Nat.reduceSub, Int.reduceToNat, reduceCtorEq, branch_decide, branch_not, branch_beq, branch_bne]
  refine ⟨fun h => ?_, fun h => ?_⟩
  · repeat (with_reducible refine And.intro (by omega) ?_)
    have hk : k < l.length := by omega
    refine ⟨fun h3 => ?_, fun h3 => ?_⟩
    · rw [fnd_at hk h3 h2]
    · repeat (with_reducible refine And.intro (by omega) ?_)
      refine lp0_normal (k + 1) ⟨by omega, fun i hi => ?_⟩ (by omega) ?_
      · by_cases e : i = k
        · subst e; exact h3
        · exact h2 i (by omega)
      · simp only [push_cast, ↓branch_true, ↓branch_false, Nat.reduceBEq, Nat.reduceAdd, Nat.reduceMul, Nat.reduceSub, Int.reduceToNat, reduceCtorEq, branch_decide, branch_not, branch_beq, branch_bne]
  · rw [fnd_no fun i hi => h2 i (by omega)]
set_option maxHeartbeats 1000000 in
theorem rvalid_pu (l : List Bun) (c : Nat) (hs : strOk l) (hl : l.length ≤ 9223372036854775807) : Pu Try.prog 30 [.s 0 0 0 l.length c 4] [rB l] (.v (.bool (vB l))) := by
  refine pu_of_ex true [] mixed Try.call30 Try.func30 rfl Try.ntmps30 Try.results30 (by decide +kernel) rfl rfl rfl ?_
  simp only [push_cast, ↓branch_true, ↓branch_false, Nat.reduceBEq, Nat.reduceAdd, Nat.reduceMul, Nat.reduceSub, Int.reduceToNat, reduceCtorEq, branch_decide, branch_not, branch_beq, branch_bne]
  refine ⟨fun h => ?_, fun h => ?_⟩
  · have : ¬ l.length ≤ 1000 := by omega
    simp [vB, this]
  have hlen : l.length ≤ 1000 := by omega
  refine tr_loop mixed (by kernel_rfl) (fun (k : Nat) => [(3, .v (.int .i64 k)), (0, .s 0 0 0 l.length c 4)])
    (fun k => [rB l]) (fun k => k ≤ l.length ∧ ∀ i, i < k → okA l i = true) (fun k => l.length - k) 0 ⟨Nat.zero_le _, fun i hi => by omega⟩ (Mt.wk (rl := [0]) ⟨by kernel_rfl, ?_, ?_⟩) ?_
  · simp only [push_cast, ↓branch_true, ↓branch_false, Nat.reduceBEq, Nat.reduceAdd, Nat.reduceMul, Nat.reduceSub, Int.reduceToNat, reduceCtorEq, branch_decide, branch_not, branch_beq, branch_bne]
  · simp only [push_cast, ↓branch_true, ↓branch_false, Nat.reduceBEq, Nat.reduceAdd, Nat.reduceMul, Nat.reduceSub, Int.reduceToNat, reduceCtorEq, branch_decide, branch_not, branch_beq, branch_bne]
  rintro k ⟨h1, h2⟩
  simp only [push_cast, ↓branch_true, ↓branch_false, Nat.reduceBEq, Nat.reduceAdd, Nat.reduceMul, Nat.reduceSub, Int.reduceToNat, reduceCtorEq, branch_decide, branch_not, branch_beq, branch_bne]
  refine ⟨fun h => ?_, fun h => ?_⟩
  · repeat (with_reducible refine And.intro (by omega) ?_)
    have hk : k < l.length := by omega
    obtain ⟨s1, s2⟩ := hs _ (ix_mem hk)
    have no : okA l k = false → vB l = false := vB_no hk
    refine sp_call (rname_pu (ix l k).tag s1) rfl [] rfl (by simp only [push_cast, ↓branch_true, ↓branch_false, Nat.reduceBEq, Nat.reduceAdd, Nat.reduceMul, Nat.reduceSub, Int.reduceToNat, reduceCtorEq, branch_decide, branch_not, branch_beq, branch_bne]) (by simp only [push_cast, ↓branch_true, ↓branch_false, Nat.reduceBEq, Nat.reduceAdd, Nat.reduceMul, Nat.reduceSub, Int.reduceToNat, reduceCtorEq, branch_decide, branch_not, branch_beq, branch_bne]) ?_
    simp only [push_cast, ↓branch_true, ↓branch_false, Nat.reduceBEq, Nat.reduceAdd, Nat.reduceMul, Nat.reduceSub, Int.reduceToNat, reduceCtorEq, branch_decide, branch_not, branch_beq, branch_bne]
    cases n1 : nameB (ix l k).tag with
    | false =>
      simp only [push_cast, ↓branch_true, ↓branch_false, Nat.reduceBEq, Nat.reduceAdd, Nat.reduceMul, Nat.reduceSub, Int.reduceToNat, reduceCtorEq, branch_decide, branch_not, branch_beq, branch_bne]
      rw [no (by simp [okA, n1])]
    | true =>
    simp only [push_cast, ↓branch_true, ↓branch_false, Nat.reduceBEq, Nat.reduceAdd, Nat.reduceMul, Nat.reduceSub, Int.reduceToNat, reduceCtorEq, branch_decide, branch_not, branch_beq, branch_bne]
    refine sp_call (rname_pu (ix l k).mark s2) rfl [] rfl (by simp only [push_cast, ↓branch_true, ↓branch_false, Nat.reduceBEq, Nat.reduceAdd, Nat.reduceMul, Nat.reduceSub, Int.reduceToNat, reduceCtorEq, branch_decide, branch_not, branch_beq, branch_bne]) (by simp only [push_cast, ↓branch_true, ↓branch_false, Nat.reduceBEq, Nat.reduceAdd, Nat.reduceMul, Nat.reduceSub, Int.reduceToNat, reduceCtorEq, branch_decide, branch_not, branch_beq, branch_bne]) ?_
    simp only [push_cast, ↓branch_true, ↓branch_false, Nat.reduceBEq, Nat.reduceAdd, Nat.reduceMul, Nat.reduceSub, Int.reduceToNat, reduceCtorEq, branch_decide, branch_not, branch_beq, branch_bne]
    cases n2 : nameB (ix l k).mark with
    | false =>
      simp only [push_cast, ↓branch_true, ↓branch_false, Nat.reduceBEq, Nat.reduceAdd, Nat.reduceMul, Nat.reduceSub, Int.reduceToNat, reduceCtorEq, branch_decide, branch_not, branch_beq, branch_bne]
      rw [no (by simp [okA, n2])]
    | true =>
    simp only [push_cast, ↓branch_true, ↓branch_false, Nat.reduceBEq, Nat.reduceAdd, Nat.reduceMul, Nat.reduceSub, Int.reduceToNat, reduceCtorEq, branch_decide, branch_not, branch_beq, branch_bne]
    refine ⟨fun h3 => ?_, fun h3 => ⟨fun h4 => ?_, fun h4 => ⟨fun h5 => ?_, fun h5 => ⟨fun h6 => ?_, fun h6 => ?_⟩⟩⟩⟩
    · have : ¬ 1 ≤ (ix l k).count := by omega
      rw [no (by simp [okA, this])]
    · have : ¬ (ix l k).count ≤ 1000 := by omega
      rw [no (by simp [okA, this])]
    · have : ¬ 0 ≤ (ix l k).mass := by omega
      rw [no (by simp [okA, this])]
    · have : ¬ (ix l k).mass ≤ 1099511627776 := by omega
      rw [no (by simp [okA, this])]
    · refine sp_call (rfind_pu l (ix l k).tag c hl) rfl [0] rfl (by simp only [push_cast, ↓branch_true, ↓branch_false, Nat.reduceBEq, Nat.reduceAdd, Nat.reduceMul, Nat.reduceSub, Int.reduceToNat, reduceCtorEq, branch_decide, branch_not, branch_beq, branch_bne]) (by simp only [push_cast, ↓branch_true, ↓branch_false, Nat.reduceBEq, Nat.reduceAdd, Nat.reduceMul, Nat.reduceSub, Int.reduceToNat, reduceCtorEq, branch_decide, branch_not, branch_beq, branch_bne]) ?_
      simp only [push_cast, ↓branch_true, ↓branch_false, Nat.reduceBEq, Nat.reduceAdd, Nat.reduceMul, Nat.reduceSub, Int.reduceToNat, reduceCtorEq, branch_decide, branch_not, branch_beq, branch_bne]
      refine ⟨fun h7 => ?_, fun h7 => ?_⟩
      · have n3 := (fnd_seen hk).1 h7
        have yes : okA l k = true := by
          simp [okA, n1, n2, n3]; omega
        repeat (with_reducible refine And.intro (by omega) ?_)
        refine lpK_normal (k + 1) [0] ⟨by omega, fun i hi => ?_⟩ (by omega) (by kernel_rfl) ?_ ?_
        · by_cases e : i = k
          · subst e; exact yes
          · exact h2 i (by omega)
        · simp only [push_cast, ↓branch_true, ↓branch_false, Nat.reduceBEq, Nat.reduceAdd, Nat.reduceMul, Nat.reduceSub, Int.reduceToNat, reduceCtorEq, branch_decide, branch_not, branch_beq, branch_bne]
        · simp only [push_cast, ↓branch_true, ↓branch_false, Nat.reduceBEq, Nat.reduceAdd, Nat.reduceMul, Nat.reduceSub, Int.reduceToNat, reduceCtorEq, branch_decide, branch_not, branch_beq, branch_bne]
      · have n3 : seenB l k (ix l k).tag = true := by
          cases e : seenB l k (ix l k).tag with
          | true => rfl
          | false => exact absurd ((fnd_seen hk).2 e) h7
        rw [no (by simp [okA, n3])]
  · have : vB l = true := vB_yes.2 ⟨hlen, fun i hi => h2 i (by omega)⟩
    rw [this]
end Go.Proofs.Ytdinkpefoljigaa
