/- LorryChecks: the walk. -/
import Derived.Test.YtdinkpefoljigaaAC
set_option maxRecDepth 100000
set_option linter.unusedSimpArgs false
set_option linter.unusedVariables false
namespace Go.Proofs.Ytdinkpefoljigaa
open Go.RowKit
theorem many_no {l : List Bun} {loads : List (List Int)} (h : manyB l loads = false) : loads.length ≤ 1005 ∧ ∀ x ∈ loads, x.length ≤ 40 := by
  unfold manyB at h
  simp only [Bool.or_eq_false_iff, Bool.and_eq_false_iff, decide_eq_false_iff_not, List.any_eq_false] at h
  obtain ⟨⟨⟨h1, h2⟩, h3⟩, h4⟩ := h
  refine ⟨by omega, fun x hx => ?_⟩
  have := h4 x hx
  simp [longB] at this
  omega
theorem cks_bad {l : List Bun} {most : Int} {loads : List (List Int)} {s : ByteArray} (h : vB l = false) : checkR l most loads = (false, 1) ∧ hvE l loads = 1 ∧ hvI l loads = 0 ∧ hvM l loads = 0 ∧ whE l loads s = 1 ∧ whR l loads s = 0 := by
  have ht : toldE l loads = 1 := by rw [toldE, if_pos h]
  have h1 : hvE l loads = 1 := by rw [hvE, ht]; rfl
  have h2 : whE l loads s = 1 := by rw [whE, ht]; rfl
  exact ⟨by rw [checkR, if_pos h], h1, by rw [hvI, h1]; rfl, by rw [hvM, h1]; rfl, h2, by rw [whR, h2]; rfl⟩
set_option maxHeartbeats 4000000 in
theorem lchecks_sp (l : List Bun) (most : Int) (loads : List (List Int)) (tag : ByteArray) (c lc N : Nat) (cp : Nat → Nat) (hs : strOk l) (hl : l.length ≤ 9223372036854775807) (hN : loads.length ≤ N) (hln : loads.length ≤ 9223372036854775807) (htag : tag.size ≤ 9223372036854775807) :
    Sp Try.prog 8 [.s 0 0 0 l.length c 4, .v (.int .i64 most), .s 1 0 0 loads.length lc 1, .v (.string tag)] [rB l, rOut 2 loads cp, rFa N loads] (fun r _ => r = .v (.bool true)) := by
  refine sp_of_ex true [] mixed Try.call8 Try.func8 rfl Try.ntmps8 Try.results8 (by decide +kernel) rfl ?_
  simp only [push_cast, ↓branch_true, ↓branch_false, Nat.reduceBEq, Nat.reduceAdd, Nat.reduceMul, Nat.reduceSub, Int.reduceToNat, reduceCtorEq, branch_decide, branch_not, branch_beq, branch_bne]
  refine sp_at awake_sp [] rfl ?_ ?_ ?_
  · simp only [push_cast, ↓branch_true, ↓branch_false, Nat.reduceBEq, Nat.reduceAdd, Nat.reduceMul, Nat.reduceSub, Int.reduceToNat, reduceCtorEq, branch_decide, branch_not, branch_beq, branch_bne]
  · simp only [push_cast, ↓branch_true, ↓branch_false, Nat.reduceBEq, Nat.reduceAdd, Nat.reduceMul, Nat.reduceSub, Int.reduceToNat, reduceCtorEq, branch_decide, branch_not, branch_beq, branch_bne]
  rintro _ _ ⟨rfl, rfl⟩
  simp only [push_cast, ↓branch_true, ↓branch_false, Nat.reduceBEq, Nat.reduceAdd, Nat.reduceMul, Nat.reduceSub, Int.reduceToNat, reduceCtorEq, branch_decide, branch_not, branch_beq, branch_bne]
  refine sp_call (many_pu l loads c lc N cp hl hln) rfl [0, 1, 2] rfl (by simp only [push_cast, ↓branch_true, ↓branch_false, Nat.reduceBEq, Nat.reduceAdd, Nat.reduceMul, Nat.reduceSub, Int.reduceToNat, reduceCtorEq, branch_decide, branch_not, branch_beq, branch_bne]) (by simp only [push_cast, ↓branch_true, ↓branch_false, Nat.reduceBEq, Nat.reduceAdd, Nat.reduceMul, Nat.reduceSub, Int.reduceToNat, reduceCtorEq, branch_decide, branch_not, branch_beq, branch_bne]) ?_
  simp only [push_cast, ↓branch_true, ↓branch_false, Nat.reduceBEq, Nat.reduceAdd, Nat.reduceMul, Nat.reduceSub, Int.reduceToNat, reduceCtorEq, branch_decide, branch_not, branch_beq, branch_bne]
  cases hm : manyB l loads with
  | true =>
    simp only [push_cast, ↓branch_true, ↓branch_false, Nat.reduceBEq, Nat.reduceAdd, Nat.reduceMul, Nat.reduceSub, Int.reduceToNat, reduceCtorEq, branch_decide, branch_not, branch_beq, branch_bne]
  | false =>
  obtain ⟨hl5, hl6⟩ := many_no hm
  have hln2 : loads.length ≤ 2000 := by omega
  have hx4 : ∀ x ∈ loads, x.length ≤ 4000000 := fun x hx => by have := hl6 x hx; omega
  have hx5 : ∀ x ∈ loads, x.length ≤ 400000 := fun x hx => by have := hl6 x hx; omega
  simp only [push_cast, ↓branch_true, ↓branch_false, Nat.reduceBEq, Nat.reduceAdd, Nat.reduceMul, Nat.reduceSub, Int.reduceToNat, reduceCtorEq, branch_decide, branch_not, branch_beq, branch_bne]
  intro h
  refine sp_call (check_pu l most loads c lc N cp hs hl hN hln hx4) rfl [0, 1, 2] rfl (by simp only [push_cast, ↓branch_true, ↓branch_false, Nat.reduceBEq, Nat.reduceAdd, Nat.reduceMul, Nat.reduceSub, Int.reduceToNat, reduceCtorEq, branch_decide, branch_not, branch_beq, branch_bne]) (by simp only [push_cast, ↓branch_true, ↓branch_false, Nat.reduceBEq, Nat.reduceAdd, Nat.reduceMul, Nat.reduceSub, Int.reduceToNat, reduceCtorEq, branch_decide, branch_not, branch_beq, branch_bne]) ?_
  simp only [push_cast, ↓branch_true, ↓branch_false, Nat.reduceBEq, Nat.reduceAdd, Nat.reduceMul, Nat.reduceSub, Int.reduceToNat, reduceCtorEq, branch_decide, branch_not, branch_beq, branch_bne]
  refine sp_call (hvy_pu l loads c lc N cp hs hl hN hln2 hx5) rfl [0, 1, 2] rfl (by simp only [push_cast, ↓branch_true, ↓branch_false, Nat.reduceBEq, Nat.reduceAdd, Nat.reduceMul, Nat.reduceSub, Int.reduceToNat, reduceCtorEq, branch_decide, branch_not, branch_beq, branch_bne]) (by simp only [push_cast, ↓branch_true, ↓branch_false, Nat.reduceBEq, Nat.reduceAdd, Nat.reduceMul, Nat.reduceSub, Int.reduceToNat, reduceCtorEq, branch_decide, branch_not, branch_beq, branch_bne]) ?_
  simp only [push_cast, ↓branch_true, ↓branch_false, Nat.reduceBEq, Nat.reduceAdd, Nat.reduceMul, Nat.reduceSub, Int.reduceToNat, reduceCtorEq, branch_decide, branch_not, branch_beq, branch_bne]
  refine sp_call (where_pu l loads tag c lc N cp hs hl hN hln2 hx5) rfl [0, 1, 2] rfl (by simp only [push_cast, ↓branch_true, ↓branch_false, Nat.reduceBEq, Nat.reduceAdd, Nat.reduceMul, Nat.reduceSub, Int.reduceToNat, reduceCtorEq, branch_decide, branch_not, branch_beq, branch_bne]) (by simp only [push_cast, ↓branch_true, ↓branch_false, Nat.reduceBEq, Nat.reduceAdd, Nat.reduceMul, Nat.reduceSub, Int.reduceToNat, reduceCtorEq, branch_decide, branch_not, branch_beq, branch_bne]) ?_
  simp only [push_cast, ↓branch_true, ↓branch_false, Nat.reduceBEq, Nat.reduceAdd, Nat.reduceMul, Nat.reduceSub, Int.reduceToNat, reduceCtorEq, branch_decide, branch_not, branch_beq, branch_bne]
  refine sp_call (rvalid_pu l c hs hl) rfl [0] rfl (by simp only [push_cast, ↓branch_true, ↓branch_false, Nat.reduceBEq, Nat.reduceAdd, Nat.reduceMul, Nat.reduceSub, Int.reduceToNat, reduceCtorEq, branch_decide, branch_not, branch_beq, branch_bne]) (by simp only [push_cast, ↓branch_true, ↓branch_false, Nat.reduceBEq, Nat.reduceAdd, Nat.reduceMul, Nat.reduceSub, Int.reduceToNat, reduceCtorEq, branch_decide, branch_not, branch_beq, branch_bne]) ?_
  simp only [push_cast, ↓branch_true, ↓branch_false, Nat.reduceBEq, Nat.reduceAdd, Nat.reduceMul, Nat.reduceSub, Int.reduceToNat, reduceCtorEq, branch_decide, branch_not, branch_beq, branch_bne]
  cases hv : vB l with
  | false =>
    obtain ⟨e1, e2, e3, e4, e5, e6⟩ := cks_bad (most := most) (loads := loads) (s := tag) hv
    rw [e1, e2, e3, e4, e5, e6]
    simp only [push_cast, ↓branch_true, ↓branch_false, Nat.reduceBEq, Nat.reduceAdd, Nat.reduceMul, Nat.reduceSub, Int.reduceToNat, reduceCtorEq, branch_decide, branch_not, branch_beq, branch_bne]
  | true =>
  have ht : toldE l loads = loadsE l loads := by simp [toldE, hv]
  simp only [push_cast, ↓branch_true, ↓branch_false, Nat.reduceBEq, Nat.reduceAdd, Nat.reduceMul, Nat.reduceSub, Int.reduceToNat, reduceCtorEq, branch_decide, branch_not, branch_beq, branch_bne]
  by_cases hmr : 1 ≤ most ∧ most ≤ 1099511627776
  case' pos =>
    have e1 : checkR l most loads = (decide (Right l most loads), 0) := by rw [checkR, hv, if_neg (by simp), if_neg (by simpa using hmr)]
    rw [e1]
    repeat (with_reducible refine And.intro (by omega) ?_)
    intro _
    repeat (with_reducible refine And.intro (by omega) ?_)
    intro _
    refine sp_call (rright_pu l most loads c lc N cp hv hN hln2 hx5) rfl [0, 1, 2] rfl (by simp only [push_cast, ↓branch_true, ↓branch_false, Nat.reduceBEq, Nat.reduceAdd, Nat.reduceMul, Nat.reduceSub, Int.reduceToNat, reduceCtorEq, branch_decide, branch_not, branch_beq, branch_bne]) (by simp only [push_cast, ↓branch_true, ↓branch_false, Nat.reduceBEq, Nat.reduceAdd, Nat.reduceMul, Nat.reduceSub, Int.reduceToNat, reduceCtorEq, branch_decide, branch_not, branch_beq, branch_bne]) ?_
    simp only [push_cast, ↓branch_true, ↓branch_false, Nat.reduceBEq, Nat.reduceAdd, Nat.reduceMul, Nat.reduceSub, Int.reduceToNat, reduceCtorEq, branch_decide, branch_not, branch_beq, branch_bne]
    simp only [push_cast, ↓branch_true, ↓branch_false, Nat.reduceBEq, Nat.reduceAdd, Nat.reduceMul, Nat.reduceSub, Int.reduceToNat, reduceCtorEq, branch_decide, branch_not, branch_beq, branch_bne, bne_self_eq_false]
    intro _
  case' neg =>
    have e1 : checkR l most loads = (false, 2) := by rw [checkR, hv, if_neg (by simp), if_pos hmr]
    rw [e1]
    simp only [push_cast, ↓branch_true, ↓branch_false, Nat.reduceBEq, Nat.reduceAdd, Nat.reduceMul, Nat.reduceSub, Int.reduceToNat, reduceCtorEq, branch_decide, branch_not, branch_beq, branch_bne]
    refine ⟨fun h1 _ => ?_, fun h1 => ⟨fun h2 _ => ?_, fun h2 => by omega⟩⟩
  all_goals
    have hlen := (vB_yes.1 hv).1
    refine sp_call (rloads_pu l loads c lc N cp (by omega) hN hln2 hx5) rfl [0, 1, 2] rfl (by simp only [push_cast, ↓branch_true, ↓branch_false, Nat.reduceBEq, Nat.reduceAdd, Nat.reduceMul, Nat.reduceSub, Int.reduceToNat, reduceCtorEq, branch_decide, branch_not, branch_beq, branch_bne]) (by simp only [push_cast, ↓branch_true, ↓branch_false, Nat.reduceBEq, Nat.reduceAdd, Nat.reduceMul, Nat.reduceSub, Int.reduceToNat, reduceCtorEq, branch_decide, branch_not, branch_beq, branch_bne]) ?_
    simp only [push_cast, ↓branch_true, ↓branch_false, Nat.reduceBEq, Nat.reduceAdd, Nat.reduceMul, Nat.reduceSub, Int.reduceToNat, reduceCtorEq, branch_decide, branch_not, branch_beq, branch_bne]
    by_cases hL : loadsE l loads = 0
    rotate_left
    · have h1 : hvE l loads = loadsE l loads := by rw [hvE, ht, if_neg hL]
      have h2 : whE l loads tag = loadsE l loads := by rw [whE, ht, if_neg hL]
      have h3 : hvI l loads = 0 := by rw [hvI, h1, if_neg hL]
      have h4 : hvM l loads = 0 := by rw [hvM, h1, if_neg hL]
      have h5 : whR l loads tag = 0 := by rw [whR, h2, if_neg hL]
      rw [h1, h2, h3, h4, h5]
      refine ⟨fun h => absurd h hL, fun _ => ?_⟩
      simp only [push_cast, ↓branch_true, ↓branch_false, Nat.reduceBEq, Nat.reduceAdd, Nat.reduceMul, Nat.reduceSub, Int.reduceToNat, reduceCtorEq, branch_decide, branch_not, branch_beq, branch_bne]
    rw [hL]
    refine ⟨fun _ => ?_, fun h => absurd rfl h⟩
    rcases Nat.eq_zero_or_pos loads.length with h0 | h0
    case' inl =>
      have h1 : hvE l loads = 14 := by rw [hvE, ht, hL, if_pos rfl, if_pos h0]
      have h2 : hvI l loads = 0 := by rw [hvI, h1]; rfl
      have h3 : hvM l loads = 0 := by rw [hvM, h1]; rfl
      rw [h1, h2, h3]
      refine ⟨fun _ => ?_, fun h => by omega⟩
      simp only [push_cast, ↓branch_true, ↓branch_false, Nat.reduceBEq, Nat.reduceAdd, Nat.reduceMul, Nat.reduceSub, Int.reduceToNat, reduceCtorEq, branch_decide, branch_not, branch_beq, branch_bne]
      intro _
      intro _
      intro _
    case' inr =>
      have h1 : hvE l loads = 0 := by rw [hvE, ht, hL, if_pos rfl, if_neg (by omega)]
      have h2 : hvI l loads = (hI l loads loads.length : Nat) := by rw [hvI, h1, if_pos rfl]
      have h3 : hvM l loads = hM l loads loads.length := by rw [hvM, h1, if_pos rfl]
      rw [h1, h2, h3]
      obtain ⟨_, _, hin, hnd⟩ := loads_ok hL
      obtain ⟨r1, r2, r3⟩ := h_range hv hx5 hin loads.length (Nat.le_refl _)
      obtain ⟨r4, r5⟩ := r3 h0
      refine ⟨fun h => by omega, fun _ => ?_⟩
      refine sp_call (rheaviest_pu l loads c lc N cp hv h0 hin hN hln2 hx5) rfl [0, 1, 2] rfl (by simp only [push_cast, ↓branch_true, ↓branch_false, Nat.reduceBEq, Nat.reduceAdd, Nat.reduceMul, Nat.reduceSub, Int.reduceToNat, reduceCtorEq, branch_decide, branch_not, branch_beq, branch_bne]) (by simp only [push_cast, ↓branch_true, ↓branch_false, Nat.reduceBEq, Nat.reduceAdd, Nat.reduceMul, Nat.reduceSub, Int.reduceToNat, reduceCtorEq, branch_decide, branch_not, branch_beq, branch_bne]) ?_
      simp only [push_cast, ↓branch_true, ↓branch_false, Nat.reduceBEq, Nat.reduceAdd, Nat.reduceMul, Nat.reduceSub, Int.reduceToNat, reduceCtorEq, branch_decide, branch_not, branch_beq, branch_bne]
      intro _
      repeat (with_reducible refine And.intro (by omega) ?_)
      refine sp_call (rmass_pu l c N (hI l loads loads.length) loads (cp (hI l loads loads.length)) hv (by omega) (fun i hi => hin i (mem_flat r4 hi)) (by have := hx5 _ (ix_mem r4); omega)) rfl [0, 2] rfl (by simp only [push_cast, ↓branch_true, ↓branch_false, Nat.reduceBEq, Nat.reduceAdd, Nat.reduceMul, Nat.reduceSub, Int.reduceToNat, reduceCtorEq, branch_decide, branch_not, branch_beq, branch_bne]) (by simp only [push_cast, ↓branch_true, ↓branch_false, Nat.reduceBEq, Nat.reduceAdd, Nat.reduceMul, Nat.reduceSub, Int.reduceToNat, reduceCtorEq, branch_decide, branch_not, branch_beq, branch_bne]) ?_
      simp only [push_cast, ↓branch_true, ↓branch_false, Nat.reduceBEq, Nat.reduceAdd, Nat.reduceMul, Nat.reduceSub, Int.reduceToNat, reduceCtorEq, branch_decide, branch_not, branch_beq, branch_bne]
      rw [← r5]
      refine ⟨fun _ => ?_, fun h => absurd rfl h⟩
      intro _
    all_goals
      refine sp_call (rfind_pu l tag c hl) rfl [0] rfl (by simp only [push_cast, ↓branch_true, ↓branch_false, Nat.reduceBEq, Nat.reduceAdd, Nat.reduceMul, Nat.reduceSub, Int.reduceToNat, reduceCtorEq, branch_decide, branch_not, branch_beq, branch_bne]) (by simp only [push_cast, ↓branch_true, ↓branch_false, Nat.reduceBEq, Nat.reduceAdd, Nat.reduceMul, Nat.reduceSub, Int.reduceToNat, reduceCtorEq, branch_decide, branch_not, branch_beq, branch_bne]) ?_
      simp only [push_cast, ↓branch_true, ↓branch_false, Nat.reduceBEq, Nat.reduceAdd, Nat.reduceMul, Nat.reduceSub, Int.reduceToNat, reduceCtorEq, branch_decide, branch_not, branch_beq, branch_bne]
      by_cases hf : fnd l tag < 0
      · have g1 : findE l tag = 9 := by rw [findE, if_neg (by simp [hv]), if_pos hf]
        have g2 : whE l loads tag = 9 := by rw [whE, ht, hL, if_pos rfl, g1]; rfl
        have g3 : whR l loads tag = 0 := by rw [whR, g2]; rfl
        rw [g2, g3]
        refine ⟨fun _ => ?_, fun h => absurd hf h⟩
        simp only [push_cast, ↓branch_true, ↓branch_false, Nat.reduceBEq, Nat.reduceAdd, Nat.reduceMul, Nat.reduceSub, Int.reduceToNat, reduceCtorEq, branch_decide, branch_not, branch_beq, branch_bne]
      · have g1 : findE l tag = 0 := by rw [findE, if_neg (by simp [hv]), if_neg hf]
        refine ⟨fun h => absurd h hf, fun _ => ?_⟩
        refine sp_call (rwhere_pu loads (fnd l tag) lc N cp hN hln2 hx5) rfl [1, 2] rfl (by simp only [push_cast, ↓branch_true, ↓branch_false, Nat.reduceBEq, Nat.reduceAdd, Nat.reduceMul, Nat.reduceSub, Int.reduceToNat, reduceCtorEq, branch_decide, branch_not, branch_beq, branch_bne]) (by simp only [push_cast, ↓branch_true, ↓branch_false, Nat.reduceBEq, Nat.reduceAdd, Nat.reduceMul, Nat.reduceSub, Int.reduceToNat, reduceCtorEq, branch_decide, branch_not, branch_beq, branch_bne]) ?_
        simp only [push_cast, ↓branch_true, ↓branch_false, Nat.reduceBEq, Nat.reduceAdd, Nat.reduceMul, Nat.reduceSub, Int.reduceToNat, reduceCtorEq, branch_decide, branch_not, branch_beq, branch_bne]
        by_cases hw : whI loads (fnd l tag) < 0
        · have g2 : whE l loads tag = 12 := by rw [whE, ht, hL, if_pos rfl, g1, if_pos rfl, if_pos hw]
          have g3 : whR l loads tag = 0 := by rw [whR, g2]; rfl
          rw [g2, g3]
          refine ⟨fun _ => ?_, fun h => absurd hw h⟩
          simp only [push_cast, ↓branch_true, ↓branch_false, Nat.reduceBEq, Nat.reduceAdd, Nat.reduceMul, Nat.reduceSub, Int.reduceToNat, reduceCtorEq, branch_decide, branch_not, branch_beq, branch_bne]
        · have g2 : whE l loads tag = 0 := by rw [whE, ht, hL, if_pos rfl, g1, if_pos rfl, if_neg hw]
          have g3 : whR l loads tag = whI loads (fnd l tag) := by rw [whR, g2, if_pos rfl]
          rw [g2, g3]
          refine ⟨fun h => absurd h hw, fun _ => ?_⟩
          simp only [push_cast, ↓branch_true, ↓branch_false, Nat.reduceBEq, Nat.reduceAdd, Nat.reduceMul, Nat.reduceSub, Int.reduceToNat, reduceCtorEq, branch_decide, branch_not, branch_beq, branch_bne]
end Go.Proofs.Ytdinkpefoljigaa
