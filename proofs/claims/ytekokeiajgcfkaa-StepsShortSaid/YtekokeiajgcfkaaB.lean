/- Contracts: place, Valid; the reference's Place, Valid, At. -/
import Derived.Test.YtekokeiajgcfkaaA
set_option maxRecDepth 100000
set_option linter.unusedSimpArgs false
set_option linter.unusedVariables false
namespace Go.Proofs.Ytekokeiajgcfkaa
open Go.RowKit
def placeB (n : Int) : Bool := decide (-1048576 ≤ n) && decide (n ≤ 1048576)
theorem place_pu (n : Int) : Pu Try.prog 46 [.v (.int .i64 n)] [] (.v (.bool (placeB n))) := by
  refine pu_of_ex true [] mixed Try.call46 Try.func46 rfl Try.ntmps46 Try.results46 (by decide +kernel) rfl rfl rfl ?_
  simp only [push_cast, ↓branch_true, ↓branch_false, Nat.reduceBEq, Nat.reduceAdd, Nat.reduceMul, Nat.reduceSub, Int.reduceToNat, reduceCtorEq, branch_decide, branch_not, branch_beq, branch_bne]
  unfold placeB
  repeat' (with_reducible (first | apply And.intro | intro _))
  all_goals simp [*]
theorem between_pu (n lo hi : Int) : Pu Try.prog 43 [.v (.int .i64 n), .v (.int .i64 lo), .v (.int .i64 hi)] [] (.v (.bool (decide (lo ≤ n) && decide (n ≤ hi)))) := by
  refine pu_of_ex true [] mixed Try.call43 Try.func43 rfl Try.ntmps43 Try.results43 (by decide +kernel) rfl rfl rfl ?_
  simp only [push_cast, ↓branch_true, ↓branch_false, Nat.reduceBEq, Nat.reduceAdd, Nat.reduceMul, Nat.reduceSub, Int.reduceToNat, reduceCtorEq, branch_decide, branch_not, branch_beq, branch_bne]
  repeat' (with_reducible (first | apply And.intro | intro _))
  all_goals simp [*]
theorem rplace_pu (n : Int) : Pu Try.prog 42 [.v (.int .i64 n)] [] (.v (.bool (placeB n))) := by
  refine pu_of_ex true [] mixed Try.call42 Try.func42 rfl Try.ntmps42 Try.results42 (by decide +kernel) rfl rfl rfl ?_
  simp only [push_cast, ↓branch_true, ↓branch_false, Nat.reduceBEq, Nat.reduceAdd, Nat.reduceMul, Nat.reduceSub, Int.reduceToNat, reduceCtorEq, branch_decide, branch_not, branch_beq, branch_bne]
  refine sp_call (between_pu n (-1048576) 1048576) rfl [] rfl (by simp only [push_cast, ↓branch_true, ↓branch_false, Nat.reduceBEq, Nat.reduceAdd, Nat.reduceMul, Nat.reduceSub, Int.reduceToNat, reduceCtorEq, branch_decide, branch_not, branch_beq, branch_bne]) (by simp only [push_cast, ↓branch_true, ↓branch_false, Nat.reduceBEq, Nat.reduceAdd, Nat.reduceMul, Nat.reduceSub, Int.reduceToNat, reduceCtorEq, branch_decide, branch_not, branch_beq, branch_bne]) ?_
  simp only [push_cast, ↓branch_true, ↓branch_false, Nat.reduceBEq, Nat.reduceAdd, Nat.reduceMul, Nat.reduceSub, Int.reduceToNat, reduceCtorEq, branch_decide, branch_not, branch_beq, branch_bne]
  rfl
def okAt (l : List Stp) (k : Nat) : Bool := placeB (ix l k).x && (decide (0 ≤ (ix l k).v) && (decide ((ix l k).v ≤ 1099511627776) && (decide (k = 0) || decide ((ix l (k - 1)).x < (ix l k).x))))
def validB (l : List Stp) : Bool := decide (l.length ≤ 200) && (List.range l.length).all (okAt l)
theorem valid_yes {l : List Stp} : validB l = true ↔ l.length ≤ 200 ∧ ∀ k, k < l.length → okAt l k = true := by
  simp [validB]
theorem valid_no {l : List Stp} {k : Nat} (hk : k < l.length) (h : okAt l k = false) : validB l = false := by
  cases e : validB l with
  | false => rfl
  | true => rw [(valid_yes.1 e).2 k hk] at h; cases h
theorem valid_all {l : List Stp} (h0 : l.length ≤ 200) (h : ∀ k, k < l.length → okAt l k = true) : validB l = true := valid_yes.2 ⟨h0, h⟩
theorem valid_pu (l : List Stp) (c : Nat) (hl : l.length ≤ 9223372036854775806) : Pu Try.prog 28 [.s 0 0 0 l.length c 2] [rSt l] (.v (.bool (validB l))) := by
  refine pu_of_ex true [] mixed Try.call28 Try.func28 rfl Try.ntmps28 Try.results28 (by decide +kernel) rfl rfl rfl ?_
  simp only [push_cast, ↓branch_true, ↓branch_false, Nat.reduceBEq, Nat.reduceAdd, Nat.reduceMul, Nat.reduceSub, Int.reduceToNat, reduceCtorEq, branch_decide, branch_not, branch_beq, branch_bne]
  refine ⟨fun h0 => ?_, fun h0 => ?_⟩
  · have : ¬ l.length ≤ 200 := by omega
    simp [validB, this]
  · refine tr_loop mixed (by kernel_rfl) (fun (k : Nat) => [(10, .v (.int .i64 k)), (9, .v (.int .i64 l.length)), (8, .s 0 0 0 l.length c 2), (0, .s 0 0 0 l.length c 2)]) (fun _ => [rSt l]) (fun k => k ≤ l.length ∧ ∀ j, j < k → okAt l j = true) (fun k => l.length - k) 0 ⟨Nat.zero_le _, fun j h => by omega⟩ (Mt.wk (rl := [0]) ⟨by kernel_rfl, ?_, ?_⟩) ?_
    · simp only [push_cast, ↓branch_true, ↓branch_false, Nat.reduceBEq, Nat.reduceAdd, Nat.reduceMul, Nat.reduceSub, Int.reduceToNat, reduceCtorEq, branch_decide, branch_not, branch_beq, branch_bne]
    · simp only [push_cast, ↓branch_true, ↓branch_false, Nat.reduceBEq, Nat.reduceAdd, Nat.reduceMul, Nat.reduceSub, Int.reduceToNat, reduceCtorEq, branch_decide, branch_not, branch_beq, branch_bne]
    rintro k ⟨hk, hn⟩
    simp only [push_cast, ↓branch_true, ↓branch_false, Nat.reduceBEq, Nat.reduceAdd, Nat.reduceMul, Nat.reduceSub, Int.reduceToNat, reduceCtorEq, branch_decide, branch_not, branch_beq, branch_bne]
    refine ⟨fun h1 => ?_, fun h1 => ?_⟩
    · repeat (with_reducible refine And.intro (by omega) ?_)
      refine qc_call (place_pu (ix l k).x) rfl [] rfl (by simp only [push_cast, ↓branch_true, ↓branch_false, Nat.reduceBEq, Nat.reduceAdd, Nat.reduceMul, Nat.reduceSub, Int.reduceToNat, reduceCtorEq, branch_decide, branch_not, branch_beq, branch_bne]) (by simp only [push_cast, ↓branch_true, ↓branch_false, Nat.reduceBEq, Nat.reduceAdd, Nat.reduceMul, Nat.reduceSub, Int.reduceToNat, reduceCtorEq, branch_decide, branch_not, branch_beq, branch_bne]) ?_
      simp only [push_cast, ↓branch_true, ↓branch_false, Nat.reduceBEq, Nat.reduceAdd, Nat.reduceMul, Nat.reduceSub, Int.reduceToNat, reduceCtorEq, branch_decide, branch_not, branch_beq, branch_bne]
      have e : (↑k - 1 : Int).toNat = k - 1 := by omega
      rw [e]
      simp only [branch]
      have bad : okAt l k = false → SV.v (Value.bool false) = SV.v (Value.bool (validB l)) := fun h => by rw [valid_no (by omega) h]
      have stp : okAt l k = true → ∀ j, j < k + 1 → okAt l j = true := fun h j hj => by
        by_cases e : j = k
        · subst e; exact h
        · exact hn j (by omega)
      refine ⟨fun h2 => ⟨fun h3 => bad (by simp [okAt]; omega), fun h3 => ⟨fun h4 => bad (by simp [okAt]; omega), fun h4 => ⟨fun h5 => ?_, fun h5 => ?_⟩⟩⟩, fun h2 => bad (by simp [okAt, h2])⟩
      · repeat (with_reducible refine And.intro (by omega) ?_)
        refine ⟨fun h6 => bad (by simp [okAt]; omega), fun h6 => ?_⟩
        repeat (with_reducible refine And.intro (by omega) ?_)
        refine lpK_normal (k + 1) [0] ⟨by omega, stp (by simp [okAt, h2]; omega)⟩ (by omega) (by kernel_rfl) ?_ ?_
        · simp only [push_cast, ↓branch_true, ↓branch_false, Nat.reduceBEq, Nat.reduceAdd, Nat.reduceMul, Nat.reduceSub, Int.reduceToNat, reduceCtorEq, branch_decide, branch_not, branch_beq, branch_bne]
        · simp only [push_cast, ↓branch_true, ↓branch_false, Nat.reduceBEq, Nat.reduceAdd, Nat.reduceMul, Nat.reduceSub, Int.reduceToNat, reduceCtorEq, branch_decide, branch_not, branch_beq, branch_bne]
      · repeat (with_reducible refine And.intro (by omega) ?_)
        refine lpK_normal (k + 1) [0] ⟨by omega, stp (by simp [okAt, h2]; omega)⟩ (by omega) (by kernel_rfl) ?_ ?_
        · simp only [push_cast, ↓branch_true, ↓branch_false, Nat.reduceBEq, Nat.reduceAdd, Nat.reduceMul, Nat.reduceSub, Int.reduceToNat, reduceCtorEq, branch_decide, branch_not, branch_beq, branch_bne]
        · simp only [push_cast, ↓branch_true, ↓branch_false, Nat.reduceBEq, Nat.reduceAdd, Nat.reduceMul, Nat.reduceSub, Int.reduceToNat, reduceCtorEq, branch_decide, branch_not, branch_beq, branch_bne]
    · rw [valid_all (by omega) fun j hj => hn j (by omega)]
theorem rvalid_pu (l : List Stp) (c : Nat) (hl : l.length ≤ 9223372036854775806) : Pu Try.prog 15 [.s 0 0 0 l.length c 2] [rSt l] (.v (.bool (validB l))) := by
  refine pu_of_ex true [] mixed Try.call15 Try.func15 rfl Try.ntmps15 Try.results15 (by decide +kernel) rfl rfl rfl ?_
  simp only [push_cast, ↓branch_true, ↓branch_false, Nat.reduceBEq, Nat.reduceAdd, Nat.reduceMul, Nat.reduceSub, Int.reduceToNat, reduceCtorEq, branch_decide, branch_not, branch_beq, branch_bne]
  refine ⟨fun h0 => ?_, fun h0 => ?_⟩
  · have : ¬ l.length ≤ 200 := by omega
    simp [validB, this]
  · refine tr_loop0 mixed (by kernel_rfl) (fun (k : Nat) => [(3, .v (.int .i64 k)), (0, .s 0 0 0 l.length c 2)]) (fun k => k ≤ l.length ∧ ∀ j, j < k → okAt l j = true) (fun k => l.length - k) 0 ⟨Nat.zero_le _, fun j h => by omega⟩ ?_ ?_
    · simp only [push_cast, ↓branch_true, ↓branch_false, Nat.reduceBEq, Nat.reduceAdd, Nat.reduceMul, Nat.reduceSub, Int.reduceToNat, reduceCtorEq, branch_decide, branch_not, branch_beq, branch_bne]
    rintro k ⟨hk, hn⟩
    simp only [push_cast, ↓branch_true, ↓branch_false, Nat.reduceBEq, Nat.reduceAdd, Nat.reduceMul, Nat.reduceSub, Int.reduceToNat, reduceCtorEq, branch_decide, branch_not, branch_beq, branch_bne]
    refine ⟨fun h1 => ?_, fun h1 => ?_⟩
    · repeat (with_reducible refine And.intro (by omega) ?_)
      refine qc_call (rplace_pu (ix l k).x) rfl [] rfl (by simp only [push_cast, ↓branch_true, ↓branch_false, Nat.reduceBEq, Nat.reduceAdd, Nat.reduceMul, Nat.reduceSub, Int.reduceToNat, reduceCtorEq, branch_decide, branch_not, branch_beq, branch_bne]) (by simp only [push_cast, ↓branch_true, ↓branch_false, Nat.reduceBEq, Nat.reduceAdd, Nat.reduceMul, Nat.reduceSub, Int.reduceToNat, reduceCtorEq, branch_decide, branch_not, branch_beq, branch_bne]) ?_
      simp only [push_cast, ↓branch_true, ↓branch_false, Nat.reduceBEq, Nat.reduceAdd, Nat.reduceMul, Nat.reduceSub, Int.reduceToNat, reduceCtorEq, branch_decide, branch_not, branch_beq, branch_bne]
      have e : (↑k - 1 : Int).toNat = k - 1 := by omega
      have bad : okAt l k = false → SV.v (Value.bool false) = SV.v (Value.bool (validB l)) := fun h => by rw [valid_no (by omega) h]
      have stp : okAt l k = true → ∀ j, j < k + 1 → okAt l j = true := fun h j hj => by
        by_cases e : j = k
        · subst e; exact h
        · exact hn j (by omega)
      simp only [branch]
      refine ⟨fun h2 => ?_, fun h2 => bad (by simp [okAt, h2])⟩
      repeat (with_reducible refine And.intro (by omega) ?_)
      refine qc_call (between_pu (ix l k).v 0 1099511627776) rfl [] rfl (by simp only [push_cast, ↓branch_true, ↓branch_false, Nat.reduceBEq, Nat.reduceAdd, Nat.reduceMul, Nat.reduceSub, Int.reduceToNat, reduceCtorEq, branch_decide, branch_not, branch_beq, branch_bne]) (by simp only [push_cast, ↓branch_true, ↓branch_false, Nat.reduceBEq, Nat.reduceAdd, Nat.reduceMul, Nat.reduceSub, Int.reduceToNat, reduceCtorEq, branch_decide, branch_not, branch_beq, branch_bne]) ?_
      simp only [push_cast, ↓branch_true, ↓branch_false, Nat.reduceBEq, Nat.reduceAdd, Nat.reduceMul, Nat.reduceSub, Int.reduceToNat, reduceCtorEq, branch_decide, branch_not, branch_beq, branch_bne]
      simp only [branch, Bool.and_eq_true, decide_eq_true_eq, Bool.and_eq_false_iff, decide_eq_false_iff_not]
      rw [e]
      refine ⟨fun h3 => ⟨fun h5 => ?_, fun h5 => ?_⟩, fun h3 => bad (by simp [okAt]; omega)⟩
      · repeat (with_reducible refine And.intro (by omega) ?_)
        refine ⟨fun h6 => bad (by simp [okAt]; omega), fun h6 => ?_⟩
        repeat (with_reducible refine And.intro (by omega) ?_)
        refine lp0_normal (k + 1) ⟨by omega, stp (by simp [okAt, h2]; omega)⟩ (by omega) ?_
        simp only [push_cast, ↓branch_true, ↓branch_false, Nat.reduceBEq, Nat.reduceAdd, Nat.reduceMul, Nat.reduceSub, Int.reduceToNat, reduceCtorEq, branch_decide, branch_not, branch_beq, branch_bne]
      · repeat (with_reducible refine And.intro (by omega) ?_)
        refine lp0_normal (k + 1) ⟨by omega, stp (by simp [okAt, h2]; omega)⟩ (by omega) ?_
        simp only [push_cast, ↓branch_true, ↓branch_false, Nat.reduceBEq, Nat.reduceAdd, Nat.reduceMul, Nat.reduceSub, Int.reduceToNat, reduceCtorEq, branch_decide, branch_not, branch_beq, branch_bne]
    · rw [valid_all (by omega) fun j hj => hn j (by omega)]
/-- The value of the function at a place. -/
def atF (x n : Int) : List Stp → Int
  | [] => n
  | p :: l => atF x (if p.x ≤ x then p.v else n) l
def atL (l : List Stp) (x : Int) : Int := atF x 0 l
theorem rat_pu (l : List Stp) (c : Nat) (x : Int) (hl : l.length ≤ 9223372036854775806) : Pu Try.prog 29 [.s 0 0 0 l.length c 2, .v (.int .i64 x)] [rSt l] (.v (.int .i64 (atL l x))) := by
  refine pu_of_ex true [] mixed Try.call29 Try.func29 rfl Try.ntmps29 Try.results29 (by decide +kernel) rfl rfl rfl ?_
  simp only [push_cast, ↓branch_true, ↓branch_false, Nat.reduceBEq, Nat.reduceAdd, Nat.reduceMul, Nat.reduceSub, Int.reduceToNat, reduceCtorEq, branch_decide, branch_not, branch_beq, branch_bne]
  refine tr_loop0 mixed (by kernel_rfl) (fun (s : Nat × Int) => [(6, .v (.int .i64 s.1)), (5, .v (.int .i64 s.2)), (0, .s 0 0 0 l.length c 2), (1, .v (.int .i64 x))]) (fun s => s.1 ≤ l.length ∧ atL l x = atF x s.2 (l.drop s.1)) (fun s => l.length - s.1) (0, 0) ⟨Nat.zero_le _, rfl⟩ ?_ ?_
  · simp only [push_cast, ↓branch_true, ↓branch_false, Nat.reduceBEq, Nat.reduceAdd, Nat.reduceMul, Nat.reduceSub, Int.reduceToNat, reduceCtorEq, branch_decide, branch_not, branch_beq, branch_bne]
  rintro ⟨k, n⟩ ⟨hk, hn⟩
  simp only at hk hn
  simp only [push_cast, ↓branch_true, ↓branch_false, Nat.reduceBEq, Nat.reduceAdd, Nat.reduceMul, Nat.reduceSub, Int.reduceToNat, reduceCtorEq, branch_decide, branch_not, branch_beq, branch_bne]
  refine ⟨fun h1 => ?_, fun h1 => ?_⟩
  · repeat (with_reducible refine And.intro (by omega) ?_)
    rw [drop_ix (by omega), atF] at hn
    refine ⟨fun h2 => ?_, fun h2 => ?_⟩
    · repeat (with_reducible refine And.intro (by omega) ?_)
      rw [if_pos h2] at hn
      refine lp0_normal (k + 1, (ix l k).v) ⟨by simp only; omega, hn⟩ (by simp only; omega) ?_
      simp only [push_cast, ↓branch_true, ↓branch_false, Nat.reduceBEq, Nat.reduceAdd, Nat.reduceMul, Nat.reduceSub, Int.reduceToNat, reduceCtorEq, branch_decide, branch_not, branch_beq, branch_bne]
    · repeat (with_reducible refine And.intro (by omega) ?_)
      rw [if_neg h2] at hn
      refine lp0_normal (k + 1, n) ⟨by simp only; omega, hn⟩ (by simp only; omega) ?_
      simp only [push_cast, ↓branch_true, ↓branch_false, Nat.reduceBEq, Nat.reduceAdd, Nat.reduceMul, Nat.reduceSub, Int.reduceToNat, reduceCtorEq, branch_decide, branch_not, branch_beq, branch_bne]
  · rw [hn, List.drop_eq_nil_of_le (by omega), atF]
end Go.Proofs.Ytekokeiajgcfkaa
