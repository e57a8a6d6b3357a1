/- Contracts: At, Short, Sum; the reference's Given, Sum. -/
import Derived.Test.YtekokeiajgcfkaaF
set_option maxRecDepth 100000
set_option linter.unusedSimpArgs false
set_option linter.unusedVariables false
namespace Go.Proofs.Ytekokeiajgcfkaa
open Go.RowKit
def atR (l : List Stp) (x : Int) : Int × Int := if validB l = true then (atL l x, 0) else (0, 1)
theorem At_pu (l : List Stp) (x : Int) (c : Nat) (hl : l.length ≤ 250) : Pu Try.prog 26 [.s 0 0 0 l.length c 2, .v (.int .i64 x)] [rSt l] (.t [.v (.int .i64 (atR l x).1), .v (.int .i64 (atR l x).2)]) := by
  refine pu_of_ex true [] mixed Try.call26 Try.func26 rfl Try.ntmps26 Try.results26 (by decide +kernel) rfl rfl rfl ?_
  simp only [push_cast, ↓branch_true, ↓branch_false, Nat.reduceBEq, Nat.reduceAdd, Nat.reduceMul, Nat.reduceSub, Int.reduceToNat, reduceCtorEq, branch_decide, branch_not, branch_beq, branch_bne]
  refine sp_call (valid_pu l c (by omega)) rfl [0] rfl (by simp only [push_cast, ↓branch_true, ↓branch_false, Nat.reduceBEq, Nat.reduceAdd, Nat.reduceMul, Nat.reduceSub, Int.reduceToNat, reduceCtorEq, branch_decide, branch_not, branch_beq, branch_bne]) (by simp only [push_cast, ↓branch_true, ↓branch_false, Nat.reduceBEq, Nat.reduceAdd, Nat.reduceMul, Nat.reduceSub, Int.reduceToNat, reduceCtorEq, branch_decide, branch_not, branch_beq, branch_bne]) ?_
  simp only [push_cast, ↓branch_true, ↓branch_false, Nat.reduceBEq, Nat.reduceAdd, Nat.reduceMul, Nat.reduceSub, Int.reduceToNat, reduceCtorEq, branch_decide, branch_not, branch_beq, branch_bne]
  cases hv : validB l with
  | false =>
    simp only [push_cast, ↓branch_true, ↓branch_false, Nat.reduceBEq, Nat.reduceAdd, Nat.reduceMul, Nat.reduceSub, Int.reduceToNat, reduceCtorEq, branch_decide, branch_not, branch_beq, branch_bne]
    simp [atR, hv]
  | true =>
  simp only [push_cast, ↓branch_true, ↓branch_false, Nat.reduceBEq, Nat.reduceAdd, Nat.reduceMul, Nat.reduceSub, Int.reduceToNat, reduceCtorEq, branch_decide, branch_not, branch_beq, branch_bne]
  refine sp_call (at_pu l x c (by omega) (asc_of (valid_yes.1 hv).2)) rfl [0] rfl (by simp only [push_cast, ↓branch_true, ↓branch_false, Nat.reduceBEq, Nat.reduceAdd, Nat.reduceMul, Nat.reduceSub, Int.reduceToNat, reduceCtorEq, branch_decide, branch_not, branch_beq, branch_bne]) (by simp only [push_cast, ↓branch_true, ↓branch_false, Nat.reduceBEq, Nat.reduceAdd, Nat.reduceMul, Nat.reduceSub, Int.reduceToNat, reduceCtorEq, branch_decide, branch_not, branch_beq, branch_bne]) ?_
  simp only [push_cast, ↓branch_true, ↓branch_false, Nat.reduceBEq, Nat.reduceAdd, Nat.reduceMul, Nat.reduceSub, Int.reduceToNat, reduceCtorEq, branch_decide, branch_not, branch_beq, branch_bne]
  simp [atR, hv]
def shortR (l : List Stp) : List Stp := if validB l = true then shortL 0 l else []
theorem Short_sp (l : List Stp) (c : Nat) (hl : l.length ≤ 250) : Sp Try.prog 27 [.s 0 0 0 l.length c 2] [rSt l] (fun r H => ∃ cap, (shortR l).length ≤ cap ∧ r = .t [.s 1 0 0 (shortR l).length cap 2, .v (.int .i64 (if validB l = true then 0 else 1))] ∧ H = [rSt l, rSO (shortR l) cap]) := by
  refine sp_weak ?_
  refine sp_of_ex true [] mixed Try.call27 Try.func27 rfl Try.ntmps27 Try.results27 (by decide +kernel) rfl ?_
  simp only [push_cast, ↓branch_true, ↓branch_false, Nat.reduceBEq, Nat.reduceAdd, Nat.reduceMul, Nat.reduceSub, Int.reduceToNat, reduceCtorEq, branch_decide, branch_not, branch_beq, branch_bne]
  refine sp_call (valid_pu l c (by omega)) rfl [0] rfl (by simp only [push_cast, ↓branch_true, ↓branch_false, Nat.reduceBEq, Nat.reduceAdd, Nat.reduceMul, Nat.reduceSub, Int.reduceToNat, reduceCtorEq, branch_decide, branch_not, branch_beq, branch_bne]) (by simp only [push_cast, ↓branch_true, ↓branch_false, Nat.reduceBEq, Nat.reduceAdd, Nat.reduceMul, Nat.reduceSub, Int.reduceToNat, reduceCtorEq, branch_decide, branch_not, branch_beq, branch_bne]) ?_
  simp only [push_cast, ↓branch_true, ↓branch_false, Nat.reduceBEq, Nat.reduceAdd, Nat.reduceMul, Nat.reduceSub, Int.reduceToNat, reduceCtorEq, branch_decide, branch_not, branch_beq, branch_bne]
  cases hv : validB l with
  | false =>
    simp only [push_cast, ↓branch_true, ↓branch_false, Nat.reduceBEq, Nat.reduceAdd, Nat.reduceMul, Nat.reduceSub, Int.reduceToNat, reduceCtorEq, branch_decide, branch_not, branch_beq, branch_bne]
    have he : shortR l = [] := by simp [shortR, hv]
    rw [he]
    refine ⟨_, _, [0, 1], ?_, by kernel_rfl, ?_, 0, Nat.le_refl _, rfl, rfl⟩ <;> (simp only [push_cast, ↓branch_true, ↓branch_false, Nat.reduceBEq, Nat.reduceAdd, Nat.reduceMul, Nat.reduceSub, Int.reduceToNat, reduceCtorEq, branch_decide, branch_not, branch_beq, branch_bne])
  | true =>
  simp only [push_cast, ↓branch_true, ↓branch_false, Nat.reduceBEq, Nat.reduceAdd, Nat.reduceMul, Nat.reduceSub, Int.reduceToNat, reduceCtorEq, branch_decide, branch_not, branch_beq, branch_bne]
  refine sp_at (short_sp l c (by omega)) [0] rfl ?_ ?_ ?_
  · simp only [push_cast, ↓branch_true, ↓branch_false, Nat.reduceBEq, Nat.reduceAdd, Nat.reduceMul, Nat.reduceSub, Int.reduceToNat, reduceCtorEq, branch_decide, branch_not, branch_beq, branch_bne]
  · simp only [push_cast, ↓branch_true, ↓branch_false, Nat.reduceBEq, Nat.reduceAdd, Nat.reduceMul, Nat.reduceSub, Int.reduceToNat, reduceCtorEq, branch_decide, branch_not, branch_beq, branch_bne]
  rintro _ _ ⟨cap, hcap, rfl, rfl⟩
  simp only [push_cast, ↓branch_true, ↓branch_false, Nat.reduceBEq, Nat.reduceAdd, Nat.reduceMul, Nat.reduceSub, Int.reduceToNat, reduceCtorEq, branch_decide, branch_not, branch_beq, branch_bne]
  have he : shortR l = shortL 0 l := by simp [shortR, hv]
  rw [he]
  refine ⟨_, _, [0, 1], ?_, by kernel_rfl, ?_, cap, hcap, rfl, rfl⟩ <;> (simp only [push_cast, ↓branch_true, ↓branch_false, Nat.reduceBEq, Nat.reduceAdd, Nat.reduceMul, Nat.reduceSub, Int.reduceToNat, reduceCtorEq, branch_decide, branch_not, branch_beq, branch_bne])
theorem rgiven_pu (lo hi : Int) : Pu Try.prog 21 [.v (.int .i64 lo), .v (.int .i64 hi)] [] (.v (.int .i64 (if rngB lo hi = true then 0 else 2))) := by
  refine pu_of_ex true [] mixed Try.call21 Try.func21 rfl Try.ntmps21 Try.results21 (by decide +kernel) rfl rfl rfl ?_
  simp only [push_cast, ↓branch_true, ↓branch_false, Nat.reduceBEq, Nat.reduceAdd, Nat.reduceMul, Nat.reduceSub, Int.reduceToNat, reduceCtorEq, branch_decide, branch_not, branch_beq, branch_bne]
  refine sp_call (rplace_pu lo) rfl [] rfl (by simp only [push_cast, ↓branch_true, ↓branch_false, Nat.reduceBEq, Nat.reduceAdd, Nat.reduceMul, Nat.reduceSub, Int.reduceToNat, reduceCtorEq, branch_decide, branch_not, branch_beq, branch_bne]) (by simp only [push_cast, ↓branch_true, ↓branch_false, Nat.reduceBEq, Nat.reduceAdd, Nat.reduceMul, Nat.reduceSub, Int.reduceToNat, reduceCtorEq, branch_decide, branch_not, branch_beq, branch_bne]) ?_
  simp only [push_cast, ↓branch_true, ↓branch_false, Nat.reduceBEq, Nat.reduceAdd, Nat.reduceMul, Nat.reduceSub, Int.reduceToNat, reduceCtorEq, branch_decide, branch_not, branch_beq, branch_bne]
  cases h1 : placeB lo with
  | false =>
    simp only [push_cast, ↓branch_true, ↓branch_false, Nat.reduceBEq, Nat.reduceAdd, Nat.reduceMul, Nat.reduceSub, Int.reduceToNat, reduceCtorEq, branch_decide, branch_not, branch_beq, branch_bne]
    simp [rngB, h1]
  | true =>
  simp only [push_cast, ↓branch_true, ↓branch_false, Nat.reduceBEq, Nat.reduceAdd, Nat.reduceMul, Nat.reduceSub, Int.reduceToNat, reduceCtorEq, branch_decide, branch_not, branch_beq, branch_bne]
  refine sp_call (rplace_pu hi) rfl [] rfl (by simp only [push_cast, ↓branch_true, ↓branch_false, Nat.reduceBEq, Nat.reduceAdd, Nat.reduceMul, Nat.reduceSub, Int.reduceToNat, reduceCtorEq, branch_decide, branch_not, branch_beq, branch_bne]) (by simp only [push_cast, ↓branch_true, ↓branch_false, Nat.reduceBEq, Nat.reduceAdd, Nat.reduceMul, Nat.reduceSub, Int.reduceToNat, reduceCtorEq, branch_decide, branch_not, branch_beq, branch_bne]) ?_
  simp only [push_cast, ↓branch_true, ↓branch_false, Nat.reduceBEq, Nat.reduceAdd, Nat.reduceMul, Nat.reduceSub, Int.reduceToNat, reduceCtorEq, branch_decide, branch_not, branch_beq, branch_bne]
  cases h2 : placeB hi with
  | false =>
    simp only [push_cast, ↓branch_true, ↓branch_false, Nat.reduceBEq, Nat.reduceAdd, Nat.reduceMul, Nat.reduceSub, Int.reduceToNat, reduceCtorEq, branch_decide, branch_not, branch_beq, branch_bne]
    simp [rngB, h2]
  | true =>
  simp only [push_cast, ↓branch_true, ↓branch_false, Nat.reduceBEq, Nat.reduceAdd, Nat.reduceMul, Nat.reduceSub, Int.reduceToNat, reduceCtorEq, branch_decide, branch_not, branch_beq, branch_bne]
  refine ⟨fun h3 => ?_, fun h3 => ?_⟩
  · have : ¬ lo ≤ hi := by omega
    simp [rngB, this]
  · have : lo ≤ hi := by omega
    simp [rngB, h1, h2, this]
/-- The sum over a range. -/
def segE (hi : Int) : List Stp → Int
  | [] => hi
  | q :: _ => min hi q.x
def sumF (lo hi : Int) : List Stp → Int
  | [] => 0
  | p :: l => p.v * max 0 (segE hi l - max lo p.x) + sumF lo hi l
def bnd (lo hi : Int) (l : List Stp) (k : Nat) : Int := if k < l.length then max 0 (min hi (ix l k).x - lo) else hi - lo
theorem segE_lt {hi : Int} {l : List Stp} {k : Nat} (h : k < l.length) : segE hi (l.drop k) = min hi (ix l k).x := by rw [drop_ix h]; rfl
theorem segE_end {hi : Int} {l : List Stp} {k : Nat} (h : l.length ≤ k) : segE hi (l.drop k) = hi := by rw [List.drop_eq_nil_of_le h]; rfl
theorem sum_step {lo hi : Int} {l : List Stp} {k : Nat} {n : Int} (hv : validB l = true) (hr : rngB lo hi = true) (hk : k < l.length) (h0 : 0 ≤ n) (h1 : n ≤ 1099511627776 * bnd lo hi l k) :
    let w := max 0 (segE hi (l.drop (k + 1)) - max lo (ix l k).x)
    0 ≤ (ix l k).v * w ∧ (ix l k).v * w ≤ 2305843009213693952 ∧ n ≤ 2305843009213693952 ∧ n + (ix l k).v * w ≤ 1099511627776 * bnd lo hi l (k + 1) ∧ 0 ≤ w ∧ w ≤ 2097152 := by
  intro w
  have hok := (valid_yes.1 hv).2 k hk
  simp only [okAt, placeB, Bool.and_eq_true, Bool.or_eq_true, decide_eq_true_eq] at hok
  simp only [rngB, placeB, Bool.and_eq_true, decide_eq_true_eq] at hr
  obtain ⟨⟨x1, x2⟩, v1, v2, _⟩ := hok
  have hw : w = max 0 (segE hi (l.drop (k + 1)) - max lo (ix l k).x) := rfl
  have hw0 : 0 ≤ w := by omega
  have hseg : segE hi (l.drop (k + 1)) ≤ hi := by
    by_cases h : k + 1 < l.length
    · rw [segE_lt h]; omega
    · rw [segE_end (by omega)]; omega
  have hw1 : w ≤ 2097152 := by omega
  obtain ⟨m, hm⟩ : ∃ m, m = (ix l k).v * w := ⟨_, rfl⟩
  have m0 : 0 ≤ m := by rw [hm]; exact Int.mul_nonneg v1 hw0
  have m1 : m ≤ 1099511627776 * w := by rw [hm]; exact Int.mul_le_mul_of_nonneg_right v2 hw0
  rw [← hm]
  have hb : bnd lo hi l k + w ≤ bnd lo hi l (k + 1) := by
    unfold bnd
    rw [if_pos hk]
    by_cases h : k + 1 < l.length
    · have hasc := asc_of (valid_yes.1 hv).2 k (k + 1) (by omega) h
      rw [if_pos h]
      rw [segE_lt h] at hw
      omega
    · rw [if_neg h]
      rw [segE_end (by omega)] at hw
      omega
  have hbk : bnd lo hi l k ≤ 2097152 := by
    unfold bnd
    rw [if_pos hk]
    omega
  exact ⟨m0, by omega, by omega, by omega, hw0, hw1⟩
theorem bnd_nonneg {lo hi : Int} {l : List Stp} (hr : rngB lo hi = true) : (0 : Int) ≤ 1099511627776 * bnd lo hi l 0 := by
  simp only [rngB, placeB, Bool.and_eq_true, decide_eq_true_eq] at hr
  unfold bnd
  split <;> omega
def sumR (l : List Stp) (lo hi : Int) : Int × Int := if validB l = false then (0, 1) else if rngB lo hi = false then (0, 2) else (sumF lo hi l, 0)
theorem sum_pu (l : List Stp) (lo hi : Int) (c : Nat) (hl : l.length ≤ 250) : Pu Try.prog 20 [.s 0 0 0 l.length c 2, .v (.int .i64 lo), .v (.int .i64 hi)] [rSt l] (.t [.v (.int .i64 (sumR l lo hi).1), .v (.int .i64 (sumR l lo hi).2)]) := by
  refine pu_of_ex true [] mixed Try.call20 Try.func20 rfl Try.ntmps20 Try.results20 (by decide +kernel) rfl rfl rfl ?_
  simp only [push_cast, ↓branch_true, ↓branch_false, Nat.reduceBEq, Nat.reduceAdd, Nat.reduceMul, Nat.reduceSub, Int.reduceToNat, reduceCtorEq, branch_decide, branch_not, branch_beq, branch_bne]
  refine sp_call (valid_pu l c (by omega)) rfl [0] rfl (by simp only [push_cast, ↓branch_true, ↓branch_false, Nat.reduceBEq, Nat.reduceAdd, Nat.reduceMul, Nat.reduceSub, Int.reduceToNat, reduceCtorEq, branch_decide, branch_not, branch_beq, branch_bne]) (by simp only [push_cast, ↓branch_true, ↓branch_false, Nat.reduceBEq, Nat.reduceAdd, Nat.reduceMul, Nat.reduceSub, Int.reduceToNat, reduceCtorEq, branch_decide, branch_not, branch_beq, branch_bne]) ?_
  simp only [push_cast, ↓branch_true, ↓branch_false, Nat.reduceBEq, Nat.reduceAdd, Nat.reduceMul, Nat.reduceSub, Int.reduceToNat, reduceCtorEq, branch_decide, branch_not, branch_beq, branch_bne]
  cases hv : validB l with
  | false =>
    simp only [push_cast, ↓branch_true, ↓branch_false, Nat.reduceBEq, Nat.reduceAdd, Nat.reduceMul, Nat.reduceSub, Int.reduceToNat, reduceCtorEq, branch_decide, branch_not, branch_beq, branch_bne]
    simp [sumR, hv]
  | true =>
  have bad : rngB lo hi = false → sumR l lo hi = (0, 2) := fun h => by simp [sumR, hv, h]
  simp only [push_cast, ↓branch_true, ↓branch_false, Nat.reduceBEq, Nat.reduceAdd, Nat.reduceMul, Nat.reduceSub, Int.reduceToNat, reduceCtorEq, branch_decide, branch_not, branch_beq, branch_bne]
  refine sp_call (place_pu lo) rfl [] rfl (by simp only [push_cast, ↓branch_true, ↓branch_false, Nat.reduceBEq, Nat.reduceAdd, Nat.reduceMul, Nat.reduceSub, Int.reduceToNat, reduceCtorEq, branch_decide, branch_not, branch_beq, branch_bne]) (by simp only [push_cast, ↓branch_true, ↓branch_false, Nat.reduceBEq, Nat.reduceAdd, Nat.reduceMul, Nat.reduceSub, Int.reduceToNat, reduceCtorEq, branch_decide, branch_not, branch_beq, branch_bne]) ?_
  simp only [push_cast, ↓branch_true, ↓branch_false, Nat.reduceBEq, Nat.reduceAdd, Nat.reduceMul, Nat.reduceSub, Int.reduceToNat, reduceCtorEq, branch_decide, branch_not, branch_beq, branch_bne]
  cases hp1 : placeB lo with
  | false =>
    simp only [push_cast, ↓branch_true, ↓branch_false, Nat.reduceBEq, Nat.reduceAdd, Nat.reduceMul, Nat.reduceSub, Int.reduceToNat, reduceCtorEq, branch_decide, branch_not, branch_beq, branch_bne]
    rw [bad (by simp [rngB, hp1])]
  | true =>
  simp only [push_cast, ↓branch_true, ↓branch_false, Nat.reduceBEq, Nat.reduceAdd, Nat.reduceMul, Nat.reduceSub, Int.reduceToNat, reduceCtorEq, branch_decide, branch_not, branch_beq, branch_bne]
  refine sp_call (place_pu hi) rfl [] rfl (by simp only [push_cast, ↓branch_true, ↓branch_false, Nat.reduceBEq, Nat.reduceAdd, Nat.reduceMul, Nat.reduceSub, Int.reduceToNat, reduceCtorEq, branch_decide, branch_not, branch_beq, branch_bne]) (by simp only [push_cast, ↓branch_true, ↓branch_false, Nat.reduceBEq, Nat.reduceAdd, Nat.reduceMul, Nat.reduceSub, Int.reduceToNat, reduceCtorEq, branch_decide, branch_not, branch_beq, branch_bne]) ?_
  simp only [push_cast, ↓branch_true, ↓branch_false, Nat.reduceBEq, Nat.reduceAdd, Nat.reduceMul, Nat.reduceSub, Int.reduceToNat, reduceCtorEq, branch_decide, branch_not, branch_beq, branch_bne]
  cases hp2 : placeB hi with
  | false =>
    simp only [push_cast, ↓branch_true, ↓branch_false, Nat.reduceBEq, Nat.reduceAdd, Nat.reduceMul, Nat.reduceSub, Int.reduceToNat, reduceCtorEq, branch_decide, branch_not, branch_beq, branch_bne]
    rw [bad (by simp [rngB, hp2])]
  | true =>
  simp only [push_cast, ↓branch_true, ↓branch_false, Nat.reduceBEq, Nat.reduceAdd, Nat.reduceMul, Nat.reduceSub, Int.reduceToNat, reduceCtorEq, branch_decide, branch_not, branch_beq, branch_bne]
  refine ⟨fun h1 => ?_, fun h1 => ?_⟩
  · rw [bad (by simp [rngB]; omega)]
  have hr : rngB lo hi = true := by
    simp [rngB, hp1, hp2]
    omega
  have he : sumR l lo hi = (sumF lo hi l, 0) := by simp [sumR, hv, hr]
  rw [he]
  refine tr_loop mixed (by kernel_rfl) (fun (x : Nat × Int) => [(32, .v (.int .i64 x.1)), (31, .v (.int .i64 l.length)), (30, .s 0 0 0 l.length c 2), (8, .v (.int .i64 x.2)), (0, .s 0 0 0 l.length c 2), (1, .v (.int .i64 lo)), (2, .v (.int .i64 hi))]) (fun _ => [rSt l]) (fun x => x.1 ≤ l.length ∧ 0 ≤ x.2 ∧ x.2 ≤ 1099511627776 * bnd lo hi l x.1 ∧ sumF lo hi l = x.2 + sumF lo hi (l.drop x.1)) (fun x => l.length - x.1) (0, 0) ⟨Nat.zero_le _, Int.le_refl _, bnd_nonneg hr, by simp⟩ (Mt.wk (rl := [0]) ⟨by kernel_rfl, ?_, ?_⟩) ?_
  · simp only [push_cast, ↓branch_true, ↓branch_false, Nat.reduceBEq, Nat.reduceAdd, Nat.reduceMul, Nat.reduceSub, Int.reduceToNat, reduceCtorEq, branch_decide, branch_not, branch_beq, branch_bne]
  · simp only [push_cast, ↓branch_true, ↓branch_false, Nat.reduceBEq, Nat.reduceAdd, Nat.reduceMul, Nat.reduceSub, Int.reduceToNat, reduceCtorEq, branch_decide, branch_not, branch_beq, branch_bne]
  rintro ⟨k, n⟩ ⟨q1, q2, q3, q4⟩
  simp only at q1 q2 q3 q4
  simp only [push_cast, ↓branch_true, ↓branch_false, Nat.reduceBEq, Nat.reduceAdd, Nat.reduceMul, Nat.reduceSub, Int.reduceToNat, reduceCtorEq, branch_decide, branch_not, branch_beq, branch_bne]
  refine ⟨fun h => ?_, fun h => ?_⟩
  · repeat (with_reducible refine And.intro (by omega) ?_)
    have hk : k < l.length := by omega
    obtain ⟨s0, s1, s2, s3, s4, s5⟩ := sum_step hv hr hk q2 q3
    rw [drop_ix hk, sumF] at q4
    simp only [rngB, placeB, Bool.and_eq_true, decide_eq_true_eq] at hr
    have hok := (valid_yes.1 hv).2 k hk
    simp only [okAt, placeB, Bool.and_eq_true, Bool.or_eq_true, decide_eq_true_eq] at hok
    refine ⟨fun h2 => ?_, fun h2 => ?_⟩
    · have e : (↑k + 1 : Int).toNat = k + 1 := by omega
      have hok2 := (valid_yes.1 hv).2 (k + 1) (by omega)
      simp only [okAt, placeB, Bool.and_eq_true, Bool.or_eq_true, decide_eq_true_eq] at hok2
      rw [e]
      rw [segE_lt (show k + 1 < l.length by omega)] at s0 s1 s3 s4 s5 q4
      obtain ⟨m, hm⟩ : ∃ m, m = (ix l k).v * max 0 (min hi (ix l (k + 1)).x - max lo (ix l k).x) := ⟨_, rfl⟩
      rw [← hm] at s0 s1 s3 q4 ⊢
      repeat (with_reducible refine And.intro (by omega) ?_)
      refine lpK_normal (k + 1, n + m) [0] ⟨by simp only; omega, by simp only; omega, s3, by simp only; omega⟩ (by simp only; omega) (by kernel_rfl) ?_ ?_
      · simp only [push_cast, ↓branch_true, ↓branch_false, Nat.reduceBEq, Nat.reduceAdd, Nat.reduceMul, Nat.reduceSub, Int.reduceToNat, reduceCtorEq, branch_decide, branch_not, branch_beq, branch_bne]
      · simp only [push_cast, ↓branch_true, ↓branch_false, Nat.reduceBEq, Nat.reduceAdd, Nat.reduceMul, Nat.reduceSub, Int.reduceToNat, reduceCtorEq, branch_decide, branch_not, branch_beq, branch_bne]
    · rw [segE_end (show l.length ≤ k + 1 by omega)] at s0 s1 s3 s4 s5 q4
      obtain ⟨m, hm⟩ : ∃ m, m = (ix l k).v * max 0 (hi - max lo (ix l k).x) := ⟨_, rfl⟩
      rw [← hm] at s0 s1 s3 q4 ⊢
      repeat (with_reducible refine And.intro (by omega) ?_)
      refine lpK_normal (k + 1, n + m) [0] ⟨by simp only; omega, by simp only; omega, s3, by simp only; omega⟩ (by simp only; omega) (by kernel_rfl) ?_ ?_
      · simp only [push_cast, ↓branch_true, ↓branch_false, Nat.reduceBEq, Nat.reduceAdd, Nat.reduceMul, Nat.reduceSub, Int.reduceToNat, reduceCtorEq, branch_decide, branch_not, branch_beq, branch_bne]
      · simp only [push_cast, ↓branch_true, ↓branch_false, Nat.reduceBEq, Nat.reduceAdd, Nat.reduceMul, Nat.reduceSub, Int.reduceToNat, reduceCtorEq, branch_decide, branch_not, branch_beq, branch_bne]
  · rw [q4, List.drop_eq_nil_of_le (by omega), sumF]
    simp
theorem rsum_pu (l : List Stp) (lo hi : Int) (c : Nat) (hv : validB l = true) (hr : rngB lo hi = true) : Pu Try.prog 22 [.s 0 0 0 l.length c 2, .v (.int .i64 lo), .v (.int .i64 hi)] [rSt l] (.v (.int .i64 (sumF lo hi l))) := by
  have hl := (valid_yes.1 hv).1
  refine pu_of_ex true [] mixed Try.call22 Try.func22 rfl Try.ntmps22 Try.results22 (by decide +kernel) rfl rfl rfl ?_
  simp only [push_cast, ↓branch_true, ↓branch_false, Nat.reduceBEq, Nat.reduceAdd, Nat.reduceMul, Nat.reduceSub, Int.reduceToNat, reduceCtorEq, branch_decide, branch_not, branch_beq, branch_bne]
  refine tr_loop0 mixed (by kernel_rfl) (fun (x : Nat × Int) => [(8, .v (.int .i64 x.1)), (7, .v (.int .i64 x.2)), (0, .s 0 0 0 l.length c 2), (1, .v (.int .i64 lo)), (2, .v (.int .i64 hi))]) (fun x => x.1 ≤ l.length ∧ 0 ≤ x.2 ∧ x.2 ≤ 1099511627776 * bnd lo hi l x.1 ∧ sumF lo hi l = x.2 + sumF lo hi (l.drop x.1)) (fun x => l.length - x.1) (0, 0) ⟨Nat.zero_le _, Int.le_refl _, bnd_nonneg hr, by simp⟩ ?_ ?_
  · simp only [push_cast, ↓branch_true, ↓branch_false, Nat.reduceBEq, Nat.reduceAdd, Nat.reduceMul, Nat.reduceSub, Int.reduceToNat, reduceCtorEq, branch_decide, branch_not, branch_beq, branch_bne]
  rintro ⟨k, n⟩ ⟨q1, q2, q3, q4⟩
  simp only at q1 q2 q3 q4
  simp only [push_cast, ↓branch_true, ↓branch_false, Nat.reduceBEq, Nat.reduceAdd, Nat.reduceMul, Nat.reduceSub, Int.reduceToNat, reduceCtorEq, branch_decide, branch_not, branch_beq, branch_bne]
  refine ⟨fun h => ?_, fun h => ?_⟩
  · repeat (with_reducible refine And.intro (by omega) ?_)
    have hk : k < l.length := by omega
    obtain ⟨s0, s1, s2, s3, s4, s5⟩ := sum_step hv hr hk q2 q3
    rw [drop_ix hk, sumF] at q4
    simp only [rngB, placeB, Bool.and_eq_true, decide_eq_true_eq] at hr
    have hok := (valid_yes.1 hv).2 k hk
    simp only [okAt, placeB, Bool.and_eq_true, Bool.or_eq_true, decide_eq_true_eq] at hok
    refine ⟨fun h2 => ?_, fun h2 => ?_⟩
    · have e : (↑k + 1 : Int).toNat = k + 1 := by omega
      have hok2 := (valid_yes.1 hv).2 (k + 1) (by omega)
      simp only [okAt, placeB, Bool.and_eq_true, Bool.or_eq_true, decide_eq_true_eq] at hok2
      rw [e]
      rw [segE_lt (show k + 1 < l.length by omega)] at s0 s1 s3 s4 s5 q4
      repeat (with_reducible refine And.intro (by omega) ?_)
      refine ⟨fun h3 => ?_, fun h3 => ?_⟩
      · rw [show max 0 (min hi (ix l (k + 1)).x - max lo (ix l k).x) = min hi (ix l (k + 1)).x - max lo (ix l k).x by omega] at s0 s1 s3 q4
        obtain ⟨m, hm⟩ : ∃ m, m = (ix l k).v * (min hi (ix l (k + 1)).x - max lo (ix l k).x) := ⟨_, rfl⟩
        rw [← hm] at s0 s1 s3 q4 ⊢
        repeat (with_reducible refine And.intro (by omega) ?_)
        refine lp0_normal (k + 1, n + m) ⟨by simp only; omega, by simp only; omega, s3, by simp only; omega⟩ (by simp only; omega) ?_
        simp only [push_cast, ↓branch_true, ↓branch_false, Nat.reduceBEq, Nat.reduceAdd, Nat.reduceMul, Nat.reduceSub, Int.reduceToNat, reduceCtorEq, branch_decide, branch_not, branch_beq, branch_bne]
      · rw [show max 0 (min hi (ix l (k + 1)).x - max lo (ix l k).x) = 0 by omega, Int.mul_zero] at s0 s1 s3 q4
        repeat (with_reducible refine And.intro (by omega) ?_)
        refine lp0_normal (k + 1, n) ⟨by simp only; omega, by simp only; omega, by simpa using s3, by simp only; omega⟩ (by simp only; omega) ?_
        simp only [push_cast, ↓branch_true, ↓branch_false, Nat.reduceBEq, Nat.reduceAdd, Nat.reduceMul, Nat.reduceSub, Int.reduceToNat, reduceCtorEq, branch_decide, branch_not, branch_beq, branch_bne]
    · rw [segE_end (show l.length ≤ k + 1 by omega)] at s0 s1 s3 s4 s5 q4
      repeat (with_reducible refine And.intro (by omega) ?_)
      refine ⟨fun h3 => ?_, fun h3 => ?_⟩
      · rw [show max 0 (hi - max lo (ix l k).x) = hi - max lo (ix l k).x by omega] at s0 s1 s3 q4
        obtain ⟨m, hm⟩ : ∃ m, m = (ix l k).v * (hi - max lo (ix l k).x) := ⟨_, rfl⟩
        rw [← hm] at s0 s1 s3 q4 ⊢
        repeat (with_reducible refine And.intro (by omega) ?_)
        refine lp0_normal (k + 1, n + m) ⟨by simp only; omega, by simp only; omega, s3, by simp only; omega⟩ (by simp only; omega) ?_
        simp only [push_cast, ↓branch_true, ↓branch_false, Nat.reduceBEq, Nat.reduceAdd, Nat.reduceMul, Nat.reduceSub, Int.reduceToNat, reduceCtorEq, branch_decide, branch_not, branch_beq, branch_bne]
      · rw [show max 0 (hi - max lo (ix l k).x) = 0 by omega, Int.mul_zero] at s0 s1 s3 q4
        repeat (with_reducible refine And.intro (by omega) ?_)
        refine lp0_normal (k + 1, n) ⟨by simp only; omega, by simp only; omega, by simpa using s3, by simp only; omega⟩ (by simp only; omega) ?_
        simp only [push_cast, ↓branch_true, ↓branch_false, Nat.reduceBEq, Nat.reduceAdd, Nat.reduceMul, Nat.reduceSub, Int.reduceToNat, reduceCtorEq, branch_decide, branch_not, branch_beq, branch_bne]
  · rw [q4, List.drop_eq_nil_of_le (by omega), sumF]
    simp
end Go.Proofs.Ytekokeiajgcfkaa
