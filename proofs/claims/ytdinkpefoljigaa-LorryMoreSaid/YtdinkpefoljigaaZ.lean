/- Contracts: Heaviest. -/
import Derived.Test.YtdinkpefoljigaaY
set_option maxRecDepth 100000
set_option linter.unusedSimpArgs false
set_option linter.unusedVariables false
namespace Go.Proofs.Ytdinkpefoljigaa
open Go.RowKit
/-- The mass, and the number, of the first heaviest load. -/
def hM (l : List Bun) (loads : List (List Int)) : Nat → Int
  | 0 => -1
  | j + 1 => if hM l loads j < massL l (ix loads j) then massL l (ix loads j) else hM l loads j
def hI (l : List Bun) (loads : List (List Int)) : Nat → Nat
  | 0 => 0
  | j + 1 => if hM l loads j < massL l (ix loads j) then j else hI l loads j
theorem told_ok {l : List Bun} {loads : List (List Int)} (h : toldE l loads = 0) : vB l = true ∧ loads.length ≤ 1000 ∧ loads.flatten.length ≤ 1000 ∧ (∀ i ∈ loads.flatten, 0 ≤ i ∧ i < l.length) ∧ loads.flatten.Nodup := by
  unfold toldE at h
  split at h
  · omega
  unfold loadsE at h
  split at h
  · omega
  split at h
  · omega
  split at h
  · rename_i h1 h2 h3 h4
    refine ⟨by simpa using h1, by omega, by omega, fun i hi => outB_iff.1 ?_, h4⟩
    have h3 : loads.flatten.any (outB l) = false := by simpa using h3
    rw [List.any_eq_false] at h3
    simpa using h3 i hi
  · omega
theorem mem_flat {loads : List (List Int)} {k : Nat} (hk : k < loads.length) {i : Int} (hi : i ∈ ix loads k) : i ∈ loads.flatten := List.mem_flatten.2 ⟨_, ix_mem hk, hi⟩
theorem load_range {l : List Bun} {loads : List (List Int)} {B : Nat} (hv : vB l = true) (hx : ∀ x ∈ loads, x.length ≤ B) (hin : ∀ i ∈ loads.flatten, 0 ≤ i ∧ i < l.length) {k : Nat} (hk : k < loads.length) : 0 ≤ massL l (ix loads k) ∧ massL l (ix loads k) ≤ 1099511627776 * (ix loads k).length := by
  have := massL_range hv (fun i hi => hin i (mem_flat hk hi)) (ix loads k).length (Nat.le_refl _)
  rwa [List.take_length] at this
theorem h_range {l : List Bun} {loads : List (List Int)} {B : Nat} (hv : vB l = true) (hx : ∀ x ∈ loads, x.length ≤ B) (hin : ∀ i ∈ loads.flatten, 0 ≤ i ∧ i < l.length) : ∀ j, j ≤ loads.length → -1 ≤ hM l loads j ∧ hM l loads j ≤ 1099511627776 * B ∧ (0 < j → hI l loads j < j ∧ hM l loads j = massL l (ix loads (hI l loads j)))
  | 0, _ => by simp [hM]; omega
  | j + 1, h => by
    obtain ⟨h1, h2, h3⟩ := h_range hv hx hin j (by omega)
    have hm := load_range hv hx hin (k := j) (by omega)
    have hxj := hx _ (ix_mem (l := loads) (k := j) (by omega))
    simp only [hM, hI]
    by_cases e : hM l loads j < massL l (ix loads j)
    · rw [if_pos e, if_pos e]
      exact ⟨by omega, by omega, fun _ => ⟨by omega, rfl⟩⟩
    · rw [if_neg e, if_neg e]
      refine ⟨h1, h2, fun _ => ?_⟩
      rcases Nat.eq_zero_or_pos j with rfl | hp
      · simp [hM] at e; omega
      · obtain ⟨h4, h5⟩ := h3 hp
        exact ⟨by omega, h5⟩
/-- What Heaviest answers. -/
def hvE (l : List Bun) (loads : List (List Int)) : Int := if toldE l loads = 0 then (if loads.length = 0 then 14 else 0) else toldE l loads
def hvI (l : List Bun) (loads : List (List Int)) : Int := if hvE l loads = 0 then (hI l loads loads.length : Nat) else 0
def hvM (l : List Bun) (loads : List (List Int)) : Int := if hvE l loads = 0 then hM l loads loads.length else 0
set_option maxHeartbeats 1000000 in
theorem hvy_pu (l : List Bun) (loads : List (List Int)) (c lc N : Nat) (cp : Nat → Nat) (hs : strOk l) (hl : l.length ≤ 9223372036854775807) (hN : loads.length ≤ N) (hln : loads.length ≤ 2000) (hx : ∀ x ∈ loads, x.length ≤ 400000) :
    Pu Try.prog 28 [.s 0 0 0 l.length c 4, .s 1 0 0 loads.length lc 1] [rB l, rOut 2 loads cp, rFa N loads] (.t [.v (.int .i64 (hvI l loads)), .v (.int .i64 (hvM l loads)), .v (.int .i64 (hvE l loads))]) := by
  refine pu_of_ex true [] mixed Try.call28 Try.func28 rfl Try.ntmps28 Try.results28 (by decide +kernel) rfl rfl rfl ?_
  simp only [push_cast, ↓branch_true, ↓branch_false, Nat.reduceBEq, Nat.reduceAdd, Nat.reduceMul, Nat.reduceSub, Int.reduceToNat, reduceCtorEq, branch_decide, branch_not, branch_beq, branch_bne]
  refine sp_call (told_pu l loads c lc N cp hs hl hN hln hx) rfl [0, 1, 2] rfl (by simp only [push_cast, ↓branch_true, ↓branch_false, Nat.reduceBEq, Nat.reduceAdd, Nat.reduceMul, Nat.reduceSub, Int.reduceToNat, reduceCtorEq, branch_decide, branch_not, branch_beq, branch_bne]) (by simp only [push_cast, ↓branch_true, ↓branch_false, Nat.reduceBEq, Nat.reduceAdd, Nat.reduceMul, Nat.reduceSub, Int.reduceToNat, reduceCtorEq, branch_decide, branch_not, branch_beq, branch_bne]) ?_
  simp only [push_cast, ↓branch_true, ↓branch_false, Nat.reduceBEq, Nat.reduceAdd, Nat.reduceMul, Nat.reduceSub, Int.reduceToNat, reduceCtorEq, branch_decide, branch_not, branch_beq, branch_bne]
  by_cases ht : toldE l loads = 0
  rotate_left
  · have e : hvE l loads = toldE l loads := by rw [hvE, if_neg ht]
    rw [hvI, hvM, e, if_neg ht, if_neg ht]
    simp only [push_cast, ↓branch_true, ↓branch_false, Nat.reduceBEq, Nat.reduceAdd, Nat.reduceMul, Nat.reduceSub, Int.reduceToNat, reduceCtorEq, branch_decide, branch_not, branch_beq, branch_bne]
    exact fun h => absurd h ht
  obtain ⟨hv, h1, h2, hin, hnd⟩ := told_ok ht
  rw [ht]
  simp only [push_cast, ↓branch_true, ↓branch_false, Nat.reduceBEq, Nat.reduceAdd, Nat.reduceMul, Nat.reduceSub, Int.reduceToNat, reduceCtorEq, branch_decide, branch_not, branch_beq, branch_bne]
  intro _
  refine ⟨fun h => ?_, fun h => ?_⟩
  · have e : hvE l loads = 14 := by rw [hvE, if_pos ht, if_pos (by omega)]
    rw [hvI, hvM, e]
    simp
  have he : hvE l loads = 0 := by rw [hvE, if_pos ht, if_neg (by omega)]
  rw [hvI, hvM, he]
  repeat (with_reducible refine And.intro (by omega) ?_)
  refine tr_loop0 mixed (by kernel_rfl) (fun (k : Nat) => [(26, .v (.int .i64 k)), (25, .v (.int .i64 loads.length)), (24, .s 1 0 0 loads.length lc 1), (8, .v (.int .i64 (hI l loads k : Nat))), (9, .v (.int .i64 (hM l loads k))), (0, .s 0 0 0 l.length c 4), (1, .s 1 0 0 loads.length lc 1)]) (fun k => k ≤ loads.length) (fun k => loads.length - k) 0 (Nat.zero_le _) ?_ ?_
  · simp only [push_cast, ↓branch_true, ↓branch_false, Nat.reduceBEq, Nat.reduceAdd, Nat.reduceMul, Nat.reduceSub, Int.reduceToNat, reduceCtorEq, branch_decide, branch_not, branch_beq, branch_bne]
    simp [hI, hM]
  intro k h3
  obtain ⟨r1, r2, r3⟩ := h_range hv hx hin k h3
  simp only [push_cast, ↓branch_true, ↓branch_false, Nat.reduceBEq, Nat.reduceAdd, Nat.reduceMul, Nat.reduceSub, Int.reduceToNat, reduceCtorEq, branch_decide, branch_not, branch_beq, branch_bne]
  refine ⟨fun h4 => ?_, fun h4 => ?_⟩
  · have hk : k < loads.length := by omega
    have hxk := hx _ (ix_mem hk)
    repeat (with_reducible refine And.intro (by omega) ?_)
    refine tr_loop0 mixed (by kernel_rfl) (fun (q : Nat) => [(33, .v (.int .i64 q)), (32, .v (.int .i64 (ix loads k).length)), (31, .s 2 k 0 (ix loads k).length (cp k) 1), (12, .v (.int .i64 (massL l ((ix loads k).take q)))), (10, .v (.int .i64 k)), (26, .v (.int .i64 k)), (25, .v (.int .i64 loads.length)), (24, .s 1 0 0 loads.length lc 1), (8, .v (.int .i64 (hI l loads k : Nat))), (9, .v (.int .i64 (hM l loads k))), (0, .s 0 0 0 l.length c 4), (1, .s 1 0 0 loads.length lc 1)]) (fun q => q ≤ (ix loads k).length) (fun q => (ix loads k).length - q) 0 (Nat.zero_le _) ?_ ?_
    · simp only [push_cast, ↓branch_true, ↓branch_false, Nat.reduceBEq, Nat.reduceAdd, Nat.reduceMul, Nat.reduceSub, Int.reduceToNat, reduceCtorEq, branch_decide, branch_not, branch_beq, branch_bne]
      simp [massL]
    intro q h5
    have hm := massL_range hv (fun i hi => hin i (mem_flat hk hi)) q h5
    simp only [push_cast, ↓branch_true, ↓branch_false, Nat.reduceBEq, Nat.reduceAdd, Nat.reduceMul, Nat.reduceSub, Int.reduceToNat, reduceCtorEq, branch_decide, branch_not, branch_beq, branch_bne]
    refine ⟨fun h6 => ?_, fun h6 => ?_⟩
    · have hq : q < (ix loads k).length := by omega
      have hi := hin _ (mem_flat hk (ix_mem hq))
      have := okA_mass ((vB_yes.1 hv).2 (ix (ix loads k) q).toNat (by omega))
      have e := massL_take (l := l) hq
      repeat (with_reducible refine And.intro (by omega) ?_)
      refine lp0_normal (q + 1) (by omega) (by omega) ?_
      simp only [push_cast, ↓branch_true, ↓branch_false, Nat.reduceBEq, Nat.reduceAdd, Nat.reduceMul, Nat.reduceSub, Int.reduceToNat, reduceCtorEq, branch_decide, branch_not, branch_beq, branch_bne, e]
    · obtain rfl : q = (ix loads k).length := by omega
      rw [List.take_length] at hm ⊢
      refine ⟨fun h7 => ?_, fun h7 => ?_⟩
      · have e1 : hM l loads (k + 1) = massL l (ix loads k) := by rw [hM, if_pos h7]
        have e2 : hI l loads (k + 1) = k := by rw [hI, if_pos h7]
        repeat (with_reducible refine And.intro (by omega) ?_)
        refine lp0_normal (k + 1) (by omega) (by omega) ?_
        simp only [push_cast, ↓branch_true, ↓branch_false, Nat.reduceBEq, Nat.reduceAdd, Nat.reduceMul, Nat.reduceSub, Int.reduceToNat, reduceCtorEq, branch_decide, branch_not, branch_beq, branch_bne, e1, e2]
      · have e1 : hM l loads (k + 1) = hM l loads k := by rw [hM, if_neg h7]
        have e2 : hI l loads (k + 1) = hI l loads k := by rw [hI, if_neg h7]
        repeat (with_reducible refine And.intro (by omega) ?_)
        refine lp0_normal (k + 1) (by omega) (by omega) ?_
        simp only [push_cast, ↓branch_true, ↓branch_false, Nat.reduceBEq, Nat.reduceAdd, Nat.reduceMul, Nat.reduceSub, Int.reduceToNat, reduceCtorEq, branch_decide, branch_not, branch_beq, branch_bne, e1, e2]
  · obtain rfl : k = loads.length := by omega
    rfl
end Go.Proofs.Ytdinkpefoljigaa
