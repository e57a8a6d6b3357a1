/- LorryLoads: the walk. -/
import Derived.Test.YtdinkpefoljigaaAE
import Derived.Test.YtdinkpefoljigaaAC
set_option maxRecDepth 100000
set_option linter.unusedSimpArgs false
set_option linter.unusedVariables false
namespace Go.Proofs.Ytdinkpefoljigaa
open Go.RowKit
def totE (l : List Bun) : Int := if vB l = false then 1 else 0
def totR (l : List Bun) : Int := if vB l = false then 0 else sumT l l.length
theorem bmass_pu (l : List Bun) (c : Nat) (hs : strOk l) (hl : l.length ≤ 9223372036854775807) : Pu Try.prog 36 [.s 0 0 0 l.length c 4] [rB l] (.t [.v (.int .i64 (totR l)), .v (.int .i64 (totE l))]) := by
  refine pu_of_ex true [] mixed Try.call36 Try.func36 rfl Try.ntmps36 Try.results36 (by decide +kernel) rfl rfl rfl ?_
  simp only [push_cast, ↓branch_true, ↓branch_false, Nat.reduceBEq, Nat.reduceAdd, Nat.reduceMul, Nat.reduceSub, Int.reduceToNat, reduceCtorEq, branch_decide, branch_not, branch_beq, branch_bne]
  refine sp_call (valid_pu l c hs hl) rfl [0] rfl (by simp only [push_cast, ↓branch_true, ↓branch_false, Nat.reduceBEq, Nat.reduceAdd, Nat.reduceMul, Nat.reduceSub, Int.reduceToNat, reduceCtorEq, branch_decide, branch_not, branch_beq, branch_bne]) (by simp only [push_cast, ↓branch_true, ↓branch_false, Nat.reduceBEq, Nat.reduceAdd, Nat.reduceMul, Nat.reduceSub, Int.reduceToNat, reduceCtorEq, branch_decide, branch_not, branch_beq, branch_bne]) ?_
  simp only [push_cast, ↓branch_true, ↓branch_false, Nat.reduceBEq, Nat.reduceAdd, Nat.reduceMul, Nat.reduceSub, Int.reduceToNat, reduceCtorEq, branch_decide, branch_not, branch_beq, branch_bne]
  cases hv : vB l with
  | false =>
    simp only [push_cast, ↓branch_true, ↓branch_false, Nat.reduceBEq, Nat.reduceAdd, Nat.reduceMul, Nat.reduceSub, Int.reduceToNat, reduceCtorEq, branch_decide, branch_not, branch_beq, branch_bne]
    simp [totR, totE, hv]
  | true =>
  have hlen := (vB_yes.1 hv).1
  simp only [push_cast, ↓branch_true, ↓branch_false, Nat.reduceBEq, Nat.reduceAdd, Nat.reduceMul, Nat.reduceSub, Int.reduceToNat, reduceCtorEq, branch_decide, branch_not, branch_beq, branch_bne]
  refine tr_loop mixed (by kernel_rfl) (fun (k : Nat) => [(12, .v (.int .i64 k)), (11, .v (.int .i64 l.length)), (10, .s 0 0 0 l.length c 4), (4, .v (.int .i64 (sumT l k))), (0, .s 0 0 0 l.length c 4)])
    (fun _ => [rB l]) (fun k => k ≤ l.length) (fun k => l.length - k) 0 (Nat.zero_le _) (Mt.wk (rl := [0]) ⟨by kernel_rfl, ?_, ?_⟩) ?_
  · simp only [push_cast, ↓branch_true, ↓branch_false, Nat.reduceBEq, Nat.reduceAdd, Nat.reduceMul, Nat.reduceSub, Int.reduceToNat, reduceCtorEq, branch_decide, branch_not, branch_beq, branch_bne]
    simp [sumT]
  · simp only [push_cast, ↓branch_true, ↓branch_false, Nat.reduceBEq, Nat.reduceAdd, Nat.reduceMul, Nat.reduceSub, Int.reduceToNat, reduceCtorEq, branch_decide, branch_not, branch_beq, branch_bne]
  rintro k h1
  simp only [push_cast, ↓branch_true, ↓branch_false, Nat.reduceBEq, Nat.reduceAdd, Nat.reduceMul, Nat.reduceSub, Int.reduceToNat, reduceCtorEq, branch_decide, branch_not, branch_beq, branch_bne]
  have hsr := sumT_range hv k h1
  refine ⟨fun h4 => ?_, fun h4 => ?_⟩
  · repeat (with_reducible refine And.intro (by omega) ?_)
    have hk : k < l.length := by omega
    have hmk := okA_mass ((vB_yes.1 hv).2 k hk)
    have e1 := sumT_succ hk
    repeat (with_reducible refine And.intro (by omega) ?_)
    refine lpK_normal (k + 1) [0] (by omega) (by omega) (by kernel_rfl) ?_ ?_
    · simp only [push_cast, ↓branch_true, ↓branch_false, Nat.reduceBEq, Nat.reduceAdd, Nat.reduceMul, Nat.reduceSub, Int.reduceToNat, reduceCtorEq, branch_decide, branch_not, branch_beq, branch_bne, e1]
    · simp only [push_cast, ↓branch_true, ↓branch_false, Nat.reduceBEq, Nat.reduceAdd, Nat.reduceMul, Nat.reduceSub, Int.reduceToNat, reduceCtorEq, branch_decide, branch_not, branch_beq, branch_bne]
  · have e : k = l.length := by omega
    subst e
    simp [totR, totE, hv]
theorem h_max {l : List Bun} {loads : List (List Int)} : ∀ j, (hI l loads j ≤ j) ∧ ∀ i, i < j → massL l (ix loads i) ≤ hM l loads j ∧ (i < hI l loads j → massL l (ix loads i) ≠ hM l loads j)
  | 0 => ⟨Nat.le_refl _, fun i hi => by omega⟩
  | j + 1 => by
    obtain ⟨h1, h2⟩ := h_max (l := l) (loads := loads) j
    simp only [hM, hI]
    by_cases e : hM l loads j < massL l (ix loads j)
    · rw [if_pos e, if_pos e]
      refine ⟨by omega, fun i hi => ?_⟩
      by_cases e2 : i = j
      · subst e2; exact ⟨Int.le_refl _, fun h => by omega⟩
      · have := (h2 i (by omega)).1
        exact ⟨by omega, fun _ => by omega⟩
    · rw [if_neg e, if_neg e]
      refine ⟨by omega, fun i hi => ?_⟩
      by_cases e2 : i = j
      · subst e2; exact ⟨by omega, fun h => by omega⟩
      · exact h2 i (by omega)
theorem fnd_self {l : List Bun} (hv : vB l = true) {k : Nat} (hk : k < l.length) : fnd l (ix l k).tag = k := by
  have h := (vB_yes.1 hv).2 k hk
  refine (fnd_seen hk).2 ?_
  simp [okA] at h
  exact h.2.2.1
theorem where_self {l : List Bun} {most : Int} {loads : List (List Int)} (hv : vB l = true) (hr : Right l most loads) {k q : Nat} (hk : k < loads.length) (hq : q < (ix loads k).length) :
    whE l loads (ix l (ix (ix loads k) q).toNat).tag = 0 ∧ whR l loads (ix l (ix (ix loads k) q).toNat).tag = k := by
  have hm := hr.mem _ (mem_flat hk (ix_mem hq))
  have hf := fnd_self hv (k := (ix (ix loads k) q).toNat) (by omega)
  rw [Int.toNat_of_nonneg hm.1] at hf
  have ht : toldE l loads = 0 := by rw [toldE, if_neg (by simp [hv]), right_loads hv hr]
  have hd := hr.nodup
  rw [List.nodup_iff_pairwise_ne, List.pairwise_flatten] at hd
  have hw : whI loads (ix (ix loads k) q) = k := by
    rw [whI, idxB_at (fun x => hasI x (ix (ix loads k) q)) loads 0 k hk (fun j hj => ?_) (hasI_iff.2 (ix_mem hq))]
    · omega
    · cases hh : hasI (ix loads j) (ix (ix loads k) q) with
      | false => rfl
      | true =>
        have h1 := (List.pairwise_iff_getElem.1 hd.2) j k (by omega) hk hj
        rw [← ix_eq (by omega), ← ix_eq hk] at h1
        exact absurd rfl (h1 _ (hasI_iff.1 hh) _ (ix_mem hq))
  have he : findE l (ix l (ix (ix loads k) q).toNat).tag = 0 := by rw [findE, if_neg (by simp [hv]), hf, if_neg (by omega)]
  have h1 : whE l loads (ix l (ix (ix loads k) q).toNat).tag = 0 := by rw [whE, if_pos ht, if_pos he, hf, hw, if_neg (by omega)]
  exact ⟨h1, by rw [whR, if_pos h1, hf, hw]⟩
set_option maxHeartbeats 4000000 in
theorem lloads_sp (l : List Bun) (most : Int) (c : Nat) (hs : strOk l) (hl : l.length ≤ 9223372036854775807) : Sp Try.prog 9 [.s 0 0 0 l.length c 4, .v (.int .i64 most)] [rB l] (fun r _ => r = .v (.bool true)) := by
  have hbig := big_eq
  refine sp_of_ex true [] mixed Try.call9 Try.func9 rfl Try.ntmps9 Try.results9 (by decide +kernel) rfl ?_
  simp only [push_cast, ↓branch_true, ↓branch_false, Nat.reduceBEq, Nat.reduceAdd, Nat.reduceMul, Nat.reduceSub, Int.reduceToNat, reduceCtorEq, branch_decide, branch_not, branch_beq, branch_bne]
  refine sp_at awake_sp [] rfl ?_ ?_ ?_
  · simp only [push_cast, ↓branch_true, ↓branch_false, Nat.reduceBEq, Nat.reduceAdd, Nat.reduceMul, Nat.reduceSub, Int.reduceToNat, reduceCtorEq, branch_decide, branch_not, branch_beq, branch_bne]
  · simp only [push_cast, ↓branch_true, ↓branch_false, Nat.reduceBEq, Nat.reduceAdd, Nat.reduceMul, Nat.reduceSub, Int.reduceToNat, reduceCtorEq, branch_decide, branch_not, branch_beq, branch_bne]
  rintro _ _ ⟨rfl, rfl⟩
  simp only [push_cast, ↓branch_true, ↓branch_false, Nat.reduceBEq, Nat.reduceAdd, Nat.reduceMul, Nat.reduceSub, Int.reduceToNat, reduceCtorEq, branch_decide, branch_not, branch_beq, branch_bne]
  refine sp_call (many_pu l [] c 0 0 (fun _ => 0) hl (by decide)) rfl [0, 1, 2] rfl ?_ ?_ ?_
  · simp only [push_cast, ↓branch_true, ↓branch_false, Nat.reduceBEq, Nat.reduceAdd, Nat.reduceMul, Nat.reduceSub, Int.reduceToNat, reduceCtorEq, branch_decide, branch_not, branch_beq, branch_bne]
  · simp only [push_cast, ↓branch_true, ↓branch_false, Nat.reduceBEq, Nat.reduceAdd, Nat.reduceMul, Nat.reduceSub, Int.reduceToNat, reduceCtorEq, branch_decide, branch_not, branch_beq, branch_bne]
    omega
  simp only [push_cast, ↓branch_true, ↓branch_false, Nat.reduceBEq, Nat.reduceAdd, Nat.reduceMul, Nat.reduceSub, Int.reduceToNat, reduceCtorEq, branch_decide, branch_not, branch_beq, branch_bne]
  cases hm : manyB l [] with
  | true =>
    simp only [push_cast, ↓branch_true, ↓branch_false, Nat.reduceBEq, Nat.reduceAdd, Nat.reduceMul, Nat.reduceSub, Int.reduceToNat, reduceCtorEq, branch_decide, branch_not, branch_beq, branch_bne]
  | false =>
  simp only [push_cast, ↓branch_true, ↓branch_false, Nat.reduceBEq, Nat.reduceAdd, Nat.reduceMul, Nat.reduceSub, Int.reduceToNat, reduceCtorEq, branch_decide, branch_not, branch_beq, branch_bne]
  intro h20
  refine sp_at (greedy_sp l most c hs hl) [0] rfl ?_ ?_ ?_
  · simp only [push_cast, ↓branch_true, ↓branch_false, Nat.reduceBEq, Nat.reduceAdd, Nat.reduceMul, Nat.reduceSub, Int.reduceToNat, reduceCtorEq, branch_decide, branch_not, branch_beq, branch_bne]
  · simp only [push_cast, ↓branch_true, ↓branch_false, Nat.reduceBEq, Nat.reduceAdd, Nat.reduceMul, Nat.reduceSub, Int.reduceToNat, reduceCtorEq, branch_decide, branch_not, branch_beq, branch_bne]
  rintro _ _ ⟨oc, cp, hoc, rfl, rfl⟩
  simp only [push_cast, ↓branch_true, ↓branch_false, Nat.reduceBEq, Nat.reduceAdd, Nat.reduceMul, Nat.reduceSub, Int.reduceToNat, reduceCtorEq, branch_decide, branch_not, branch_beq, branch_bne]
  by_cases he : errG l most = 0
  rotate_left
  · have e1 : gRes l most = [] := by rw [gRes, if_neg he]
    rw [e1]
    simp only [push_cast, ↓branch_true, ↓branch_false, Nat.reduceBEq, Nat.reduceAdd, Nat.reduceMul, Nat.reduceSub, Int.reduceToNat, reduceCtorEq, branch_decide, branch_not, branch_beq, branch_bne]
    exact fun h => absurd h he
  have e1 : gRes l most = greedyL l most := by rw [gRes, if_pos he]
  have e2 : boundR l most = (boundF l most, 0) := by rw [boundR, if_pos he]
  have hR := greedy_right he
  have hfew := greedy_few he
  obtain ⟨hv, hm1, hm2, hm3⟩ := errG_ok he
  obtain ⟨hL, hLn, hLx⟩ := lds_greedy he
  have hbd := right_bound hv hm1 hR
  have hlen := (vB_yes.1 hv).1
  rw [e1] at hoc
  rw [e1, he]
  generalize hG : greedyL l most = G at *
  have hx4 : ∀ x ∈ G, x.length ≤ 4000000 := fun x hx => by have := hLx x hx; omega
  have hx5 : ∀ x ∈ G, x.length ≤ 400000 := fun x hx => by have := hLx x hx; omega
  have ec : checkR l most G = (true, 0) := by rw [checkR, if_neg (by simp [hv]), if_neg (by omega), decide_eq_true hR]
  refine ⟨fun _ => ?_, fun h => absurd rfl h⟩
  refine sp_call (check_pu l most G c oc (big + 2) cp hs hl (by omega) (by omega) hx4) rfl [0, 1, 2] rfl (by simp only [push_cast, ↓branch_true, ↓branch_false, Nat.reduceBEq, Nat.reduceAdd, Nat.reduceMul, Nat.reduceSub, Int.reduceToNat, reduceCtorEq, branch_decide, branch_not, branch_beq, branch_bne]) (by simp only [push_cast, ↓branch_true, ↓branch_false, Nat.reduceBEq, Nat.reduceAdd, Nat.reduceMul, Nat.reduceSub, Int.reduceToNat, reduceCtorEq, branch_decide, branch_not, branch_beq, branch_bne]) ?_
  simp only [push_cast, ↓branch_true, ↓branch_false, Nat.reduceBEq, Nat.reduceAdd, Nat.reduceMul, Nat.reduceSub, Int.reduceToNat, reduceCtorEq, branch_decide, branch_not, branch_beq, branch_bne]
  rw [ec]
  simp only [push_cast, ↓branch_true, ↓branch_false, Nat.reduceBEq, Nat.reduceAdd, Nat.reduceMul, Nat.reduceSub, Int.reduceToNat, reduceCtorEq, branch_decide, branch_not, branch_beq, branch_bne]
  refine sp_call (bmass_pu l c hs hl) rfl [0] rfl (by simp only [push_cast, ↓branch_true, ↓branch_false, Nat.reduceBEq, Nat.reduceAdd, Nat.reduceMul, Nat.reduceSub, Int.reduceToNat, reduceCtorEq, branch_decide, branch_not, branch_beq, branch_bne]) (by simp only [push_cast, ↓branch_true, ↓branch_false, Nat.reduceBEq, Nat.reduceAdd, Nat.reduceMul, Nat.reduceSub, Int.reduceToNat, reduceCtorEq, branch_decide, branch_not, branch_beq, branch_bne]) ?_
  simp only [push_cast, ↓branch_true, ↓branch_false, Nat.reduceBEq, Nat.reduceAdd, Nat.reduceMul, Nat.reduceSub, Int.reduceToNat, reduceCtorEq, branch_decide, branch_not, branch_beq, branch_bne]
  rw [show totR l = sumT l l.length by rw [totR, if_neg (by simp [hv])], show totE l = 0 by rw [totE, if_neg (by simp [hv])]]
  refine sp_call (bound_pu l most c hs hl) rfl [0] rfl (by simp only [push_cast, ↓branch_true, ↓branch_false, Nat.reduceBEq, Nat.reduceAdd, Nat.reduceMul, Nat.reduceSub, Int.reduceToNat, reduceCtorEq, branch_decide, branch_not, branch_beq, branch_bne]) (by simp only [push_cast, ↓branch_true, ↓branch_false, Nat.reduceBEq, Nat.reduceAdd, Nat.reduceMul, Nat.reduceSub, Int.reduceToNat, reduceCtorEq, branch_decide, branch_not, branch_beq, branch_bne]) ?_
  simp only [push_cast, ↓branch_true, ↓branch_false, Nat.reduceBEq, Nat.reduceAdd, Nat.reduceMul, Nat.reduceSub, Int.reduceToNat, reduceCtorEq, branch_decide, branch_not, branch_beq, branch_bne]
  rw [e2]
  simp only [push_cast, ↓branch_true, ↓branch_false, Nat.reduceBEq, Nat.reduceAdd, Nat.reduceMul, Nat.reduceSub, Int.reduceToNat, reduceCtorEq, branch_decide, branch_not, branch_beq, branch_bne]
  intro _ _ _
  refine ⟨fun h => by omega, fun _ => ?_⟩
  have hG20 : (G.length : Int) - 2 ≤ 20 := by omega
  have q1 := Int.mul_le_mul_of_nonneg_right hG20 (show 0 ≤ most by omega)
  have q2 := Int.mul_le_mul_of_nonneg_right (show -2 ≤ (G.length : Int) - 2 by omega) (show 0 ≤ most by omega)
  have hsr := sumT_range hv l.length (Nat.le_refl _)
  have h00 : G.length = 0 → l.length = 0 := fun h => by
    have e : G = [] := List.length_eq_zero_iff.1 h
    have h5 := hR.all
    rw [e] at h5
    simpa using h5.symm
  generalize hq : ((G.length : Int) - 2) * most = q at *
  repeat (with_reducible refine And.intro (by omega) ?_)
  refine ⟨fun ha => ⟨fun h3 => by have := hfew (by omega); omega, fun h3 => ?_⟩, fun ha => ?_⟩
  all_goals
    refine ⟨fun h0 => ?_, fun h0 => ?_⟩
    · have := h00 (by omega)
      simp [this]
    have hhE : hvE l G = 0 := by rw [hvE, if_pos (by rw [toldE, if_neg (by simp [hv]), right_loads hv hR]), if_neg (by omega)]
    have hhI : hvI l G = (hI l G G.length : Nat) := by rw [hvI, hhE, if_pos rfl]
    have hhM : hvM l G = hM l G G.length := by rw [hvM, hhE, if_pos rfl]
    obtain ⟨r1, r2, r3⟩ := h_range hv hx5 hR.mem G.length (Nat.le_refl _)
    obtain ⟨r4, r5⟩ := r3 (by omega)
    obtain ⟨_, hmax⟩ := h_max (l := l) (loads := G) G.length
    refine sp_call (hvy_pu l G c oc (big + 2) cp hs hl (by omega) (by omega) hx5) rfl [0, 1, 2] rfl (by simp only [push_cast, ↓branch_true, ↓branch_false, Nat.reduceBEq, Nat.reduceAdd, Nat.reduceMul, Nat.reduceSub, Int.reduceToNat, reduceCtorEq, branch_decide, branch_not, branch_beq, branch_bne]) (by simp only [push_cast, ↓branch_true, ↓branch_false, Nat.reduceBEq, Nat.reduceAdd, Nat.reduceMul, Nat.reduceSub, Int.reduceToNat, reduceCtorEq, branch_decide, branch_not, branch_beq, branch_bne]) ?_
    simp only [push_cast, ↓branch_true, ↓branch_false, Nat.reduceBEq, Nat.reduceAdd, Nat.reduceMul, Nat.reduceSub, Int.reduceToNat, reduceCtorEq, branch_decide, branch_not, branch_beq, branch_bne]
    rw [hhE, hhI, hhM]
    simp only [push_cast, ↓branch_true, ↓branch_false, Nat.reduceBEq, Nat.reduceAdd, Nat.reduceMul, Nat.reduceSub, Int.reduceToNat, reduceCtorEq, branch_decide, branch_not, branch_beq, branch_bne]
    intro _
    repeat (with_reducible refine And.intro (by omega) ?_)
    intro _
    repeat (with_reducible refine And.intro (by omega) ?_)
    intro _
    refine tr_loop0 mixed (by kernel_rfl) (fun (k : Nat) => [(123, .v (.int .i64 k)), (122, .v (.int .i64 G.length)), (121, .s 1 0 0 G.length oc 1), (0, .s 0 0 0 l.length c 4), (5, .s 1 0 0 G.length oc 1), (13, .v (.int .i64 (hI l G G.length : Nat))), (14, .v (.int .i64 (hM l G G.length)))]) (fun k => k ≤ G.length) (fun k => G.length - k) 0 (Nat.zero_le _) ?_ ?_
    · simp only [push_cast, ↓branch_true, ↓branch_false, Nat.reduceBEq, Nat.reduceAdd, Nat.reduceMul, Nat.reduceSub, Int.reduceToNat, reduceCtorEq, branch_decide, branch_not, branch_beq, branch_bne]
    intro k h1
    simp only [push_cast, ↓branch_true, ↓branch_false, Nat.reduceBEq, Nat.reduceAdd, Nat.reduceMul, Nat.reduceSub, Int.reduceToNat, reduceCtorEq, branch_decide, branch_not, branch_beq, branch_bne]
    intro h2
    · have hk : k < G.length := by omega
      have hxk := hLx _ (ix_mem hk)
      have hmk := load_range hv hx5 hR.mem hk
      obtain ⟨hx1, hx2⟩ := hmax k hk
      repeat (with_reducible refine And.intro (by omega) ?_)
      refine tr_loop0 mixed (by kernel_rfl) (fun (q : Nat) => [(130, .v (.int .i64 q)), (129, .v (.int .i64 (ix G k).length)), (128, .s 2 k 0 (ix G k).length (cp k) 1), (18, .v (.int .i64 (massL l ((ix G k).take q)))), (16, .v (.int .i64 k)), (123, .v (.int .i64 k)), (122, .v (.int .i64 G.length)), (121, .s 1 0 0 G.length oc 1), (0, .s 0 0 0 l.length c 4), (5, .s 1 0 0 G.length oc 1), (13, .v (.int .i64 (hI l G G.length : Nat))), (14, .v (.int .i64 (hM l G G.length)))]) (fun q => q ≤ (ix G k).length) (fun q => (ix G k).length - q) 0 (Nat.zero_le _) ?_ ?_
      · simp only [push_cast, ↓branch_true, ↓branch_false, Nat.reduceBEq, Nat.reduceAdd, Nat.reduceMul, Nat.reduceSub, Int.reduceToNat, reduceCtorEq, branch_decide, branch_not, branch_beq, branch_bne]
        simp [massL]
      intro q h5
      have hm := massL_range hv (fun i hi => hR.mem i (mem_flat hk hi)) q h5
      simp only [push_cast, ↓branch_true, ↓branch_false, Nat.reduceBEq, Nat.reduceAdd, Nat.reduceMul, Nat.reduceSub, Int.reduceToNat, reduceCtorEq, branch_decide, branch_not, branch_beq, branch_bne]
      refine ⟨fun h6 => ?_, fun h6 => ?_⟩
      · have hq : q < (ix G k).length := by omega
        have hi := hR.mem _ (mem_flat hk (ix_mem hq))
        have hmi := okA_mass ((vB_yes.1 hv).2 (ix (ix G k) q).toNat (by omega))
        have e := massL_take (l := l) hq
        obtain ⟨w1, w2⟩ := where_self hv hR hk hq
        have hst := hs _ (ix_mem (l := l) (k := (ix (ix G k) q).toNat) (by omega))
        repeat (with_reducible refine And.intro (by omega) ?_)
        intro _
        repeat (with_reducible refine And.intro (by omega) ?_)
        intro _
        repeat (with_reducible refine And.intro (by omega) ?_)
        refine sp_call (where_pu l G (ix l (ix (ix G k) q).toNat).tag c oc (big + 2) cp hs hl (by omega) (by omega) hx5) rfl [0, 1, 2] rfl (by simp only [push_cast, ↓branch_true, ↓branch_false, Nat.reduceBEq, Nat.reduceAdd, Nat.reduceMul, Nat.reduceSub, Int.reduceToNat, reduceCtorEq, branch_decide, branch_not, branch_beq, branch_bne]) (by simp only [push_cast, ↓branch_true, ↓branch_false, Nat.reduceBEq, Nat.reduceAdd, Nat.reduceMul, Nat.reduceSub, Int.reduceToNat, reduceCtorEq, branch_decide, branch_not, branch_beq, branch_bne]) ?_
        simp only [push_cast, ↓branch_true, ↓branch_false, Nat.reduceBEq, Nat.reduceAdd, Nat.reduceMul, Nat.reduceSub, Int.reduceToNat, reduceCtorEq, branch_decide, branch_not, branch_beq, branch_bne]
        rw [w1, w2]
        refine ⟨fun _ => ⟨fun _ => ?_, fun h => absurd rfl h⟩, fun h => absurd rfl h⟩
        repeat (with_reducible refine And.intro (by omega) ?_)
        refine lp0_normal (q + 1) (by omega) (by omega) ?_
        simp only [push_cast, ↓branch_true, ↓branch_false, Nat.reduceBEq, Nat.reduceAdd, Nat.reduceMul, Nat.reduceSub, Int.reduceToNat, reduceCtorEq, branch_decide, branch_not, branch_beq, branch_bne, e]
      · obtain rfl : q = (ix G k).length := by omega
        rw [List.take_length] at hm ⊢
        have hx3 : k = hI l G G.length → massL l (ix G k) = hM l G G.length := fun e => by rw [e]; exact r5.symm
        repeat' (with_reducible (first | apply And.intro | intro _))
        all_goals first
          | (exfalso; omega)
          | omega
          | (refine lp0_normal (k + 1) (by omega) (by omega) ?_; (simp only [push_cast, ↓branch_true, ↓branch_false, Nat.reduceBEq, Nat.reduceAdd, Nat.reduceMul, Nat.reduceSub, Int.reduceToNat, reduceCtorEq, branch_decide, branch_not, branch_beq, branch_bne]))
end Go.Proofs.Ytdinkpefoljigaa
