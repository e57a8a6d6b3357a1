/- Contracts: the reference's order. -/
import Derived.Test.YtgbldceimdjblaaT
set_option maxRecDepth 100000
set_option linter.unusedSimpArgs false
set_option linter.unusedVariables false
namespace Go.Proofs.Ytgbldceimdjblaa
open Go.RowKit
theorem dec_sv {P Q : Prop} [Decidable P] [Decidable Q] (h : P ↔ Q) : SV.v (Value.bool (decide P)) = SV.v (Value.bool (decide Q)) := by
  rw [decide_eq_decide.mpr h]
theorem dec_tt {Q : Prop} [Decidable Q] (h : Q) : SV.v (Value.bool true) = SV.v (Value.bool (decide Q)) := by simp [h]
theorem dec_ff {Q : Prop} [Decidable Q] (h : ¬Q) : SV.v (Value.bool false) = SV.v (Value.bool (decide Q)) := by simp [h]
theorem before_pu (l : List Jb) (c : Nat) (x y : Int) (hx : JbOk l x) (hy : JbOk l y) (hx2 : x < l.length) (hy2 : y < l.length) : Pu Try.prog 45 [.s 0 0 0 l.length c 3, .v (.int .i64 x), .v (.int .i64 y)] [rJb l] (.v (.bool (decide (KB l x < KB l y)))) := by
  obtain ⟨⟨x1, x2⟩, ⟨x3, x4⟩, x5, x6⟩ := hx
  obtain ⟨⟨y1, y2⟩, ⟨y3, y4⟩, y5, y6⟩ := hy
  refine pu_of_ex true [] mixed Try.call45 Try.func45 rfl Try.ntmps45 Try.results45 (by decide +kernel) rfl rfl rfl ?_
  simp only [push_cast, ↓branch_true, ↓branch_false, Nat.reduceBEq, Nat.reduceAdd, Nat.reduceMul, Nat.reduceSub, Int.reduceToNat, reduceCtorEq, branch_decide, branch_not, branch_beq, branch_bne]
  repeat (with_reducible refine And.intro (by omega) ?_)
  have kx : KB l x = if (ix l x.toNat).cut ≤ (ix l x.toNat).bend then (ix l x.toNat).cut * 100 + x else 3000000 - (ix l x.toNat).bend * 100 + x := rfl
  have ky : KB l y = if (ix l y.toNat).cut ≤ (ix l y.toNat).bend then (ix l y.toNat).cut * 100 + y else 3000000 - (ix l y.toNat).bend * 100 + y := rfl
  simp only [cu, be] at x3 x4 x5 x6 y3 y4 y5 y6
  by_cases p : (ix l x.toNat).cut ≤ (ix l x.toNat).bend <;> by_cases q : (ix l y.toNat).cut ≤ (ix l y.toNat).bend
  all_goals
    simp only [p, q, decide_true, decide_false, if_true, if_false, bne_self_eq_false, show (true != false) = true from rfl, show (false != true) = true from rfl, branch_true, branch_false, not_true_eq_false, not_false_eq_true, false_implies, true_implies, true_and, and_true] at kx ky ⊢
    repeat' (with_reducible (first | apply And.intro | intro _))
    all_goals first | omega | exact dec_sv (by omega) | exact dec_tt (by omega) | exact dec_ff (by omega)
/-- An element put in at a place. -/
def putAt (s : List Int) (k : Nat) (x : Int) : List Int := s.take k ++ x :: s.drop k
theorem putAt_perm (s : List Int) (k : Nat) (x : Int) : (putAt s k x).Perm (x :: s) := by
  rw [putAt]
  refine List.perm_middle.trans ?_
  rw [List.take_append_drop]
theorem putAt_len (s : List Int) (k : Nat) (x : Int) : (putAt s k x).length = s.length + 1 := by
  rw [(putAt_perm s k x).length_eq]
  rfl
theorem putAt_ix {s : List Int} {k j : Nat} {x : Int} (hk : k ≤ s.length) (hj : j < s.length + 1) : ix (putAt s k x) j = if j < k then ix s j else if j = k then x else ix s (j - 1) := by
  rw [ix_eq (by rw [putAt_len]; exact hj)]
  simp only [putAt]
  by_cases h1 : j < k
  · rw [if_pos h1, List.getElem_append_left (by simp; omega), ix_eq (by omega), List.getElem_take]
  · rw [if_neg h1, List.getElem_append_right (by simp; omega)]
    have e : (s.take k).length = k := by simp; omega
    by_cases h2 : j = k
    · rw [if_pos h2]
      simp [e, h2]
    · rw [if_neg h2, ix_eq (by omega), List.getElem_cons]
      rw [dif_neg (by omega), List.getElem_drop]
      congr 1
      omega
theorem putAt_up {K : Int → Int} {s : List Int} {k : Nat} {x : Int} (hk : k ≤ s.length) (h : s.Pairwise fun a b => K a ≤ K b) (h1 : ∀ j, j < k → K (ix s j) ≤ K x) (h2 : ∀ j, k ≤ j → j < s.length → K x ≤ K (ix s j)) : (putAt s k x).Pairwise fun a b => K a ≤ K b := by
  have hs := h
  rw [← List.take_append_drop k s, List.pairwise_append] at h
  obtain ⟨a1, a2, a3⟩ := h
  rw [putAt, List.pairwise_append, List.pairwise_cons]
  refine ⟨a1, ⟨fun y hy => ?_, a2⟩, fun y hy z hz => ?_⟩
  · obtain ⟨j, hj, rfl⟩ := List.getElem_of_mem hy
    rw [List.length_drop] at hj
    rw [List.getElem_drop, ← ix_eq]
    exact h2 _ (by omega) (by omega)
  · rcases List.mem_cons.mp hz with rfl | hz
    · obtain ⟨j, hj, rfl⟩ := List.getElem_of_mem hy
      rw [List.length_take] at hj
      rw [List.getElem_take, ← ix_eq]
      exact h1 _ (by omega)
    · exact a3 y hy z hz
end Go.Proofs.Ytgbldceimdjblaa
