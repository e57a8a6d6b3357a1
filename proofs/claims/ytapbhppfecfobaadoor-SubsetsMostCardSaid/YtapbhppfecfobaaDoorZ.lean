/- Contracts: Check, of the program. -/
import Derived.Test.YtapbhppfecfobaaDoorY
set_option maxRecDepth 100000
set_option linter.unusedSimpArgs false
set_option linter.unusedVariables false
namespace Go.Proofs.YtapbhppfecfobaaDoor
open Go.RowKit
def rFa (N : Nat) (out : List (List Int)) : Ob := ⟨3, true, .row 1 N (fun k => (ix out k).length) (fun _ => 0) (fun k q => [.v (.int .i64 (ix (ix out k) q))])⟩
def rOut (F : Nat) (out : List (List Int)) (cp : Nat → Nat) : Ob := ⟨22, true, .row 1 1 (fun _ => out.length) (fun _ => 0) (fun _ k => [.s F k 0 (ix out k).length (cp k) 1])⟩
attribute [push_cast] rFa rOut
noncomputable def chkD (l : List Int) (parts : List (List Int)) : Bool := @decide (chkB l parts) (Classical.propDecidable _)
theorem chkD_yes {l : List Int} {parts : List (List Int)} (h : chkB l parts) : chkD l parts = true := by
  unfold chkD
  exact @decide_eq_true _ (Classical.propDecidable _) h
theorem chkD_no {l : List Int} {parts : List (List Int)} (h : ¬ chkB l parts) : chkD l parts = false := by
  unfold chkD
  exact @decide_eq_false _ (Classical.propDecidable _) h
noncomputable def chkR (l : List Int) (parts : List (List Int)) : Bool := if givE l ≠ 0 then false else chkD l parts
def bgI (parts : List (List Int)) (i : Nat) : Int := if i = 0 then -1 else ix (ix parts (i - 1)) 0
def lsI (p : List Int) (k : Nat) : Int := if k = 0 then -1 else ix p (k - 1)
theorem u32_or {a b : Nat} (ha : a < 65536) (hb : b < 65536) : IntKind.u32.wrap (((BitVec.ofInt IntKind.u32.bits (a : Int) ||| BitVec.ofInt IntKind.u32.bits (b : Int)).toNat : Nat) : Int) = ((a ||| b : Nat) : Int) := by
  have hab : a ||| b < 2 ^ 16 := Nat.or_lt_two_pow ha hb
  show IntKind.u32.wrap (((BitVec.ofInt 32 (a : Int) ||| BitVec.ofInt 32 (b : Int)).toNat : Nat) : Int) = ((a ||| b : Nat) : Int)
  rw [BitVec.toNat_or, BitVec.ofInt_natCast, BitVec.ofInt_natCast, BitVec.toNat_ofNat, BitVec.toNat_ofNat, Nat.mod_eq_of_lt (by omega), Nat.mod_eq_of_lt (by omega), IntKind.wrap_u32]
  omega
theorem u32_has {s x : Nat} (hs : s < 65536) (hx : x < 16) : (IntKind.u32.wrap (((BitVec.ofInt IntKind.u32.bits ((s : Int).fdiv (2 ^ min x IntKind.u32.bits)) &&& BitVec.ofInt IntKind.u32.bits 1).toNat : Nat) : Int) = 1) = (s.testBit x = true) := by
  have hq : s / 2 ^ x < 4294967296 := Nat.lt_of_le_of_lt (Nat.div_le_self _ _) (by omega)
  have e := u32_and hq (show 1 < 4294967296 by decide)
  rw [show ((1 : Nat) : Int) = 1 from rfl] at e
  rw [show min x IntKind.u32.bits = x from Nat.min_eq_left (by show x ≤ 32; omega), u32_sh, e, Nat.and_one_is_mod, Nat.testBit_eq_decide_div_mod_eq, decide_eq_true_eq]
  exact propext ⟨fun h => by omega, fun h => by omega⟩
def BitsOf (s : Nat) (S : List Int) : Prop := s < 65536 ∧ (∀ x : Nat, s.testBit x = true ↔ (x : Int) ∈ S) ∧ (bitsL s).length = S.length
theorem bitsOf_nil : BitsOf 0 [] := ⟨by decide, fun x => by simp, by rw [bits_zero]; rfl⟩
theorem bitsOf_snoc {s x : Nat} {S : List Int} (h : BitsOf s S) (hx : x < 16) (hn : s.testBit x = false) : BitsOf (s ||| 2 ^ x) (S ++ [(x : Int)]) := by
  have hx16 : 2 ^ x < 2 ^ 16 := Nat.pow_lt_pow_right (by decide) hx
  refine ⟨Nat.or_lt_two_pow (n := 16) h.1 hx16, fun y => ?_, ?_⟩
  · rw [Nat.testBit_or, Nat.testBit_two_pow, Bool.or_eq_true, decide_eq_true_eq, h.2.1, List.mem_append, List.mem_singleton]
    exact ⟨fun h => h.elim .inl fun h => .inr (by omega), fun h => h.elim .inl fun h => .inr (by omega)⟩
  · rw [bits_or (by omega) hn, h.2.2]; simp
set_option maxHeartbeats 2000000 in
theorem check_pu (l : List Int) (parts : List (List Int)) (c c2 N : Nat) (cp : Nat → Nat) (hl : l.length ≤ 9223372036854775807) (hN : parts.length ≤ N) (hpl : parts.length ≤ 1000000) (hpp : ∀ i, i < parts.length → (ix parts i).length ≤ 1000) :
    Pu Tryd.prog 28 [.s 0 0 0 l.length c 1, .s 1 0 0 parts.length c2 1] [rR l, rOut 2 parts cp, rFa N parts] (.t [.v (.bool (chkR l parts)), .v (.int .i64 (givE l))]) := by
  refine pu_of_ex true [] mixed Tryd.call28 Tryd.func28 rfl Tryd.ntmps28 Tryd.results28 (by decide +kernel) rfl rfl rfl ?_
  simp only [push_cast, ↓branch_true, ↓branch_false, Nat.reduceBEq, Nat.reduceAdd, Nat.reduceMul, Nat.reduceSub, Int.reduceToNat, reduceCtorEq, branch_decide, branch_not, branch_beq, branch_bne]
  refine sp_call (given_pu l c hl) rfl [0] rfl (by simp only [push_cast, ↓branch_true, ↓branch_false, Nat.reduceBEq, Nat.reduceAdd, Nat.reduceMul, Nat.reduceSub, Int.reduceToNat, reduceCtorEq, branch_decide, branch_not, branch_beq, branch_bne]) (by simp only [push_cast, ↓branch_true, ↓branch_false, Nat.reduceBEq, Nat.reduceAdd, Nat.reduceMul, Nat.reduceSub, Int.reduceToNat, reduceCtorEq, branch_decide, branch_not, branch_beq, branch_bne]) ?_
  simp only [push_cast, ↓branch_true, ↓branch_false, Nat.reduceBEq, Nat.reduceAdd, Nat.reduceMul, Nat.reduceSub, Int.reduceToNat, reduceCtorEq, branch_decide, branch_not, branch_beq, branch_bne]
  by_cases hg : givE l = 0
  rotate_left
  · refine ⟨fun h => absurd h hg, fun _ => ?_⟩
    rw [chkR, if_pos hg]
  refine ⟨fun _ => ?_, fun h => absurd hg h⟩
  obtain ⟨h1, h2⟩ := given_0 hg
  have hR : chkR l parts = chkD l parts := if_neg (by simp [hg])
  rw [hR, hg]
  refine tr_loop0 mixed (by kernel_rfl) (fun (y : Nat × Nat) => [(22, .v (.int .i64 y.1)), (21, .v (.int .i64 parts.length)), (20, .s 1 0 0 parts.length c2 1), (7, .v (.int .u32 y.2)), (8, .v (.int .i64 (bgI parts y.1))), (0, .s 0 0 0 l.length c 1)])
    (fun y => y.1 ≤ parts.length ∧ OkC l parts y.1 0 ∧ BitsOf y.2 (Pre parts y.1 0)) (fun y => parts.length - y.1) (0, 0) ⟨Nat.zero_le _, okC_0 l parts, by rw [pre_0]; exact bitsOf_nil⟩ ?_ ?_
  · simp only [push_cast, ↓branch_true, ↓branch_false, Nat.reduceBEq, Nat.reduceAdd, Nat.reduceMul, Nat.reduceSub, Int.reduceToNat, reduceCtorEq, branch_decide, branch_not, branch_beq, branch_bne]
    rfl
  rintro ⟨i, seen⟩ ⟨g1, g2, g3⟩
  simp only at g1 g2 g3
  simp only [push_cast, ↓branch_true, ↓branch_false, Nat.reduceBEq, Nat.reduceAdd, Nat.reduceMul, Nat.reduceSub, Int.reduceToNat, reduceCtorEq, branch_decide, branch_not, branch_beq, branch_bne]
  refine ⟨fun h => ?_, fun h => ?_⟩
  rotate_left
  · obtain rfl : i = parts.length := by omega
    rw [pre_end] at g3
    refine sp_call (size_pu seen g3.1) rfl [] rfl (by simp only [push_cast, ↓branch_true, ↓branch_false, Nat.reduceBEq, Nat.reduceAdd, Nat.reduceMul, Nat.reduceSub, Int.reduceToNat, reduceCtorEq, branch_decide, branch_not, branch_beq, branch_bne]) (by simp only [push_cast, ↓branch_true, ↓branch_false, Nat.reduceBEq, Nat.reduceAdd, Nat.reduceMul, Nat.reduceSub, Int.reduceToNat, reduceCtorEq, branch_decide, branch_not, branch_beq, branch_bne]) ?_
    simp only [push_cast, ↓branch_true, ↓branch_false, Nat.reduceBEq, Nat.reduceAdd, Nat.reduceMul, Nat.reduceSub, Int.reduceToNat, reduceCtorEq, branch_decide, branch_not, branch_beq, branch_bne]
    rw [g3.2.2]
    by_cases h3 : parts.flatten.length = l.length
    · rw [chkD_yes ⟨g2, h3⟩, h3]
      simp
    · have e : ((parts.flatten.length : Int) == (l.length : Int)) = false := by
        rw [beq_eq_false_iff_ne]; omega
      rw [chkD_no fun h => h3 h.2, e]
  have hi : i < parts.length := by omega
  have hpi := hpp i hi
  repeat (with_reducible refine And.intro (by omega) ?_)
  refine ⟨fun h3 => ?_, fun h3 => ?_⟩
  · rw [chkD_no]
    rintro ⟨q, _⟩
    exact (q.part i hi).1 (List.eq_nil_of_length_eq_zero (by omega))
  have hp0 : 0 < (ix parts i).length := by omega
  have hne : ix parts i ≠ [] := fun e => by rw [e] at hp0; simp at hp0
  repeat (with_reducible refine And.intro (by omega) ?_)
  refine ⟨fun h4 => ?_, fun h4 => ?_⟩
  · rw [chkD_no]
    rintro ⟨q, _⟩
    have q1 := okC_at q hi hp0
    unfold bgI at h4
    split at h4
    · have := q1.1.1
      omega
    · have := q.head i (by omega) hi
      omega
  have hhd : 0 < i → ix (ix parts (i - 1)) 0 < ix (ix parts i) 0 := fun h => by
    unfold bgI at h4
    rw [if_neg (by omega)] at h4
    omega
  have hbg : bgI parts (i + 1) = ix (ix parts i) 0 := by rw [bgI, if_neg (by omega)]; rfl
  repeat (with_reducible refine And.intro (by omega) ?_)
  refine tr_loop0 mixed (by kernel_rfl) (fun (z : Nat × Nat) => [(41, .v (.int .i64 z.1)), (40, .v (.int .i64 (ix parts i).length)), (39, .s 2 i 0 (ix parts i).length (cp i) 1), (12, .v (.int .i64 (lsI (ix parts i) z.1))), (11, .v (.int .i64 (sumP l ((ix parts i).take z.1)))), (7, .v (.int .u32 z.2)), (8, .v (.int .i64 (ix (ix parts i) 0))), (22, .v (.int .i64 i)), (21, .v (.int .i64 parts.length)), (20, .s 1 0 0 parts.length c2 1), (0, .s 0 0 0 l.length c 1)])
    (fun z => z.1 ≤ (ix parts i).length ∧ OkC l parts i z.1 ∧ BitsOf z.2 (Pre parts i z.1)) (fun z => (ix parts i).length - z.1) (0, seen) ⟨Nat.zero_le _, g2, g3⟩ ?_ ?_
  · simp only [push_cast, ↓branch_true, ↓branch_false, Nat.reduceBEq, Nat.reduceAdd, Nat.reduceMul, Nat.reduceSub, Int.reduceToNat, reduceCtorEq, branch_decide, branch_not, branch_beq, branch_bne]
    try exact ⟨rfl, rfl⟩
  rintro ⟨k, s⟩ ⟨k1, k2, k3⟩
  simp only at k1 k2 k3
  have hsr := sumP_range h2 ((ix parts i).take k)
  have htl : ((ix parts i).take k).length ≤ 1000 := by rw [List.length_take]; omega
  simp only [push_cast, ↓branch_true, ↓branch_false, Nat.reduceBEq, Nat.reduceAdd, Nat.reduceMul, Nat.reduceSub, Int.reduceToNat, reduceCtorEq, branch_decide, branch_not, branch_beq, branch_bne]
  refine ⟨fun h5 => ?_, fun h5 => ?_⟩
  · have hk : k < (ix parts i).length := by omega
    have hps := pre_succ hk
    have hss := sumP_succ (l := l) hk
    have hls : lsI (ix parts i) (k + 1) = ix (ix parts i) k := by rw [lsI, if_neg (by omega)]; rfl
    have hx0 : ¬ ix (ix parts i) k ≤ lsI (ix parts i) k → 0 ≤ ix (ix parts i) k ∧ (0 < k → ix (ix parts i) (k - 1) < ix (ix parts i) k) := fun h => by
      unfold lsI at h
      split at h
      · exact ⟨by omega, fun h => by omega⟩
      · have := (k2.rng (ix (ix parts i) (k - 1)) (by
          rw [show k = (k - 1) + 1 by omega, pre_succ (show k - 1 < (ix parts i).length by omega)]; simp)).1
        exact ⟨by omega, fun _ => by omega⟩
    have hat : chkB l parts → _ := fun h => okC_at h.1 hi hk
    generalize hxe : ix (ix parts i) k = x at *
    repeat (with_reducible refine And.intro (by omega) ?_)
    refine ⟨fun h6 => ?_, fun h6 => ⟨fun h7 => ?_, fun h7 => ?_⟩⟩
    · rw [chkD_no fun h => ?_]
      obtain ⟨⟨a1, _⟩, _, a3⟩ := hat h
      unfold lsI at h6
      split at h6
      · omega
      · have := a3 (by omega)
        omega
    · rw [chkD_no fun h => ?_]
      obtain ⟨⟨_, a2⟩, _, _⟩ := hat h
      omega
    obtain ⟨y0, y1⟩ := hx0 h6
    obtain ⟨n, rfl⟩ : ∃ n : Nat, x = (n : Int) := ⟨x.toNat, by omega⟩
    have hn : n < 16 := by omega
    have hn16 : 2 ^ n < 2 ^ 16 := Nat.pow_lt_pow_right (by decide) hn
    have e5 : (1 : Int) * 2 ^ min n IntKind.u32.bits = ((2 ^ n : Nat) : Int) := by
      rw [show min n IntKind.u32.bits = n from Nat.min_eq_left (by show n ≤ 32; omega)]
      push_cast
      omega
    have hor := u32_or k3.1 hn16
    have hbs := fun h => bitsOf_snoc k3 hn h
    have hir := ix_range h2 n
    rw [Int.toNat_natCast] at hss ⊢
    rw [u32_has k3.1 hn, e5, hor]
    generalize 2 ^ n = K at *
    repeat (with_reducible refine And.intro (by omega) ?_)
    refine ⟨fun h8 => ?_, fun h8 => ?_⟩
    · rw [chkD_no fun h => ?_]
      obtain ⟨_, a2, _⟩ := hat h
      exact a2 ((k3.2.1 n).1 h8)
    · have h9 : s.testBit n = false := by simpa using h8
      have hnm : (n : Int) ∉ Pre parts i k := fun h => h8 ((k3.2.1 n).2 h)
      have hOk := okC_step k2 hk (by rw [hxe]; omega) (by rw [hxe]; exact hnm) (by rw [hxe]; exact y1)
      have hB := hbs h9
      rw [← hps] at hB
      repeat (with_reducible refine And.intro (by omega) ?_)
      refine lp0_normal (k + 1, s ||| K) ⟨hk, hOk, hB⟩ (show (ix parts i).length - (k + 1) < (ix parts i).length - k by omega) ?_
      simp only [push_cast, ↓branch_true, ↓branch_false, Nat.reduceBEq, Nat.reduceAdd, Nat.reduceMul, Nat.reduceSub, Int.reduceToNat, reduceCtorEq, branch_decide, branch_not, branch_beq, branch_bne, hss, hls]
  · obtain rfl : k = (ix parts i).length := by omega
    rw [List.take_length] at hsr ⊢
    refine ⟨fun h6 => ?_, fun h6 => ?_⟩
    · repeat (with_reducible refine And.intro (by omega) ?_)
      refine lp0_normal (i + 1, s) ⟨hi, okC_next hi k2 hne h6 hhd, by rw [pre_next hi]; exact k3⟩ (show parts.length - (i + 1) < parts.length - i by omega) ?_
      simp only [push_cast, ↓branch_true, ↓branch_false, Nat.reduceBEq, Nat.reduceAdd, Nat.reduceMul, Nat.reduceSub, Int.reduceToNat, reduceCtorEq, branch_decide, branch_not, branch_beq, branch_bne, hbg]
    · rw [chkD_no]
      rintro ⟨q, _⟩
      exact h6 (q.part i hi).2
end Go.Proofs.YtapbhppfecfobaaDoor
