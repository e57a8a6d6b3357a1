/- Contracts: the reference's Right, Heaviest, Where; Find. -/
import Derived.Test.YtdinkpefoljigaaAA
set_option maxRecDepth 100000
set_option linter.unusedSimpArgs false
set_option linter.unusedVariables false
namespace Go.Proofs.Ytdinkpefoljigaa
open Go.RowKit
theorem loads_le_flat {loads : List (List Int)} (h : ∀ x ∈ loads, x ≠ []) : loads.length ≤ loads.flatten.length := by
  induction loads with
  | nil => simp
  | cons x r ih =>
    have h1 := h x List.mem_cons_self
    have h2 := ih fun y hy => h y (List.mem_cons_of_mem _ hy)
    have h3 : 0 < x.length := List.length_pos_iff.2 h1
    simp only [List.length_cons, List.flatten_cons, List.length_append]
    omega
theorem right_loads {l : List Bun} {most : Int} {loads : List (List Int)} (hv : vB l = true) (h : Right l most loads) : loadsE l loads = 0 := by
  have h1 := (vB_yes.1 hv).1
  have h2 := h.all
  have h3 := loads_le_flat fun x hx => (h.good x hx).1
  have h4 : ¬ loads.flatten.any (outB l) = true := fun e => by
    obtain ⟨i, hi, hb⟩ := List.any_eq_true.1 e
    rw [outB_iff.2 (h.mem i hi)] at hb; cases hb
  rw [loadsE, if_neg (by omega), if_neg h4, if_pos h.nodup]
theorem loads_ok {l : List Bun} {loads : List (List Int)} (h : loadsE l loads = 0) : loads.length ≤ 1000 ∧ loads.flatten.length ≤ 1000 ∧ (∀ i ∈ loads.flatten, 0 ≤ i ∧ i < l.length) ∧ loads.flatten.Nodup := by
  unfold loadsE at h
  split at h
  · omega
  split at h
  · omega
  split at h
  · rename_i h2 h3 h4
    refine ⟨by omega, by omega, fun i hi => outB_iff.1 ?_, h4⟩
    have h3 : loads.flatten.any (outB l) = false := by simpa using h3
    rw [List.any_eq_false] at h3
    simpa using h3 i hi
  · omega
theorem rright_pu (l : List Bun) (most : Int) (loads : List (List Int)) (c lc N : Nat) (cp : Nat → Nat) (hv : vB l = true) (hN : loads.length ≤ N) (hln : loads.length ≤ 2000) (hx : ∀ x ∈ loads, x.length ≤ 400000) :
    Pu Try.prog 24 [.s 0 0 0 l.length c 4, .v (.int .i64 most), .s 1 0 0 loads.length lc 1] [rB l, rOut 2 loads cp, rFa N loads] (.v (.bool (decide (Right l most loads)))) := by
  have hlen := (vB_yes.1 hv).1
  refine pu_of_ex true [] mixed Try.call24 Try.func24 rfl Try.ntmps24 Try.results24 (by decide +kernel) rfl rfl rfl ?_
  simp only [push_cast, ↓branch_true, ↓branch_false, Nat.reduceBEq, Nat.reduceAdd, Nat.reduceMul, Nat.reduceSub, Int.reduceToNat, reduceCtorEq, branch_decide, branch_not, branch_beq, branch_bne]
  refine sp_call (rloads_pu l loads c lc N cp (by omega) hN hln hx) rfl [0, 1, 2] rfl (by simp only [push_cast, ↓branch_true, ↓branch_false, Nat.reduceBEq, Nat.reduceAdd, Nat.reduceMul, Nat.reduceSub, Int.reduceToNat, reduceCtorEq, branch_decide, branch_not, branch_beq, branch_bne]) (by simp only [push_cast, ↓branch_true, ↓branch_false, Nat.reduceBEq, Nat.reduceAdd, Nat.reduceMul, Nat.reduceSub, Int.reduceToNat, reduceCtorEq, branch_decide, branch_not, branch_beq, branch_bne]) ?_
  simp only [push_cast, ↓branch_true, ↓branch_false, Nat.reduceBEq, Nat.reduceAdd, Nat.reduceMul, Nat.reduceSub, Int.reduceToNat, reduceCtorEq, branch_decide, branch_not, branch_beq, branch_bne]
  refine ⟨fun he => ?_, fun h => ?_⟩
  rotate_left
  · have : ¬ Right l most loads := fun hr => h (right_loads hv hr)
    simp [this]
  obtain ⟨_, _, hin, hnd⟩ := loads_ok he
  refine sp_call (rall_pu loads lc N cp hN hln hx) rfl [1, 2] rfl (by simp only [push_cast, ↓branch_true, ↓branch_false, Nat.reduceBEq, Nat.reduceAdd, Nat.reduceMul, Nat.reduceSub, Int.reduceToNat, reduceCtorEq, branch_decide, branch_not, branch_beq, branch_bne]) (by simp only [push_cast, ↓branch_true, ↓branch_false, Nat.reduceBEq, Nat.reduceAdd, Nat.reduceMul, Nat.reduceSub, Int.reduceToNat, reduceCtorEq, branch_decide, branch_not, branch_beq, branch_bne]) ?_
  simp only [push_cast, ↓branch_true, ↓branch_false, Nat.reduceBEq, Nat.reduceAdd, Nat.reduceMul, Nat.reduceSub, Int.reduceToNat, reduceCtorEq, branch_decide, branch_not, branch_beq, branch_bne]
  refine ⟨fun h2 => ?_, fun h2 => ?_⟩
  rotate_left
  · have : ¬ Right l most loads := fun hr => by have := hr.all; omega
    simp [this]
  refine tr_loop0 mixed (by kernel_rfl) (fun (k : Nat) => [(7, .v (.int .i64 k)), (0, .s 0 0 0 l.length c 4), (1, .v (.int .i64 most)), (2, .s 1 0 0 loads.length lc 1)]) (fun k => k ≤ loads.length ∧ ∀ i, i < k → ix loads i ≠ [] ∧ massL l (ix loads i) ≤ most) (fun k => loads.length - k) 0 ⟨Nat.zero_le _, fun i hi => by omega⟩ ?_ ?_
  · simp only [push_cast, ↓branch_true, ↓branch_false, Nat.reduceBEq, Nat.reduceAdd, Nat.reduceMul, Nat.reduceSub, Int.reduceToNat, reduceCtorEq, branch_decide, branch_not, branch_beq, branch_bne]
  rintro k ⟨g1, g2⟩
  simp only [push_cast, ↓branch_true, ↓branch_false, Nat.reduceBEq, Nat.reduceAdd, Nat.reduceMul, Nat.reduceSub, Int.reduceToNat, reduceCtorEq, branch_decide, branch_not, branch_beq, branch_bne]
  refine ⟨fun h3 => ?_, fun h3 => ?_⟩
  · have hk : k < loads.length := by omega
    have hxk := hx _ (ix_mem hk)
    repeat (with_reducible refine And.intro (by omega) ?_)
    refine ⟨fun h4 => ?_, fun h4 => ?_⟩
    · have : ¬ Right l most loads := fun hr => (hr.good _ (ix_mem hk)).1 (List.length_eq_zero_iff.1 (by omega))
      simp [this]
    repeat (with_reducible refine And.intro (by omega) ?_)
    refine sp_call (rmass_pu l c N k loads (cp k) hv (by omega) (fun i hi => hin i (mem_flat hk hi)) (by omega)) rfl [0, 2] rfl (by simp only [push_cast, ↓branch_true, ↓branch_false, Nat.reduceBEq, Nat.reduceAdd, Nat.reduceMul, Nat.reduceSub, Int.reduceToNat, reduceCtorEq, branch_decide, branch_not, branch_beq, branch_bne]) (by simp only [push_cast, ↓branch_true, ↓branch_false, Nat.reduceBEq, Nat.reduceAdd, Nat.reduceMul, Nat.reduceSub, Int.reduceToNat, reduceCtorEq, branch_decide, branch_not, branch_beq, branch_bne]) ?_
    simp only [push_cast, ↓branch_true, ↓branch_false, Nat.reduceBEq, Nat.reduceAdd, Nat.reduceMul, Nat.reduceSub, Int.reduceToNat, reduceCtorEq, branch_decide, branch_not, branch_beq, branch_bne]
    refine ⟨fun h5 => ?_, fun h5 => ?_⟩
    · have : ¬ Right l most loads := fun hr => by have := (hr.good _ (ix_mem hk)).2; omega
      simp [this]
    · repeat (with_reducible refine And.intro (by omega) ?_)
      refine lp0_normal (k + 1) ⟨by omega, fun i hi => ?_⟩ (by omega) ?_
      · by_cases e : i = k
        · subst e
          exact ⟨fun e => h4 (by rw [e]; rfl), by omega⟩
        · exact g2 i (by omega)
      · simp only [push_cast, ↓branch_true, ↓branch_false, Nat.reduceBEq, Nat.reduceAdd, Nat.reduceMul, Nat.reduceSub, Int.reduceToNat, reduceCtorEq, branch_decide, branch_not, branch_beq, branch_bne]
  · have hr : Right l most loads := ⟨hin, hnd, fun x hx' => by
      obtain ⟨k, hk, rfl⟩ := List.mem_iff_getElem.1 hx'
      rw [← ix_eq hk]; exact g2 k (by omega), by omega⟩
    simp [hr]
theorem rheaviest_pu (l : List Bun) (loads : List (List Int)) (c lc N : Nat) (cp : Nat → Nat) (hv : vB l = true) (h0 : 0 < loads.length) (hin : ∀ i ∈ loads.flatten, 0 ≤ i ∧ i < l.length) (hN : loads.length ≤ N) (hln : loads.length ≤ 2000) (hx : ∀ x ∈ loads, x.length ≤ 400000) :
    Pu Try.prog 32 [.s 0 0 0 l.length c 4, .s 1 0 0 loads.length lc 1] [rB l, rOut 2 loads cp, rFa N loads] (.v (.int .i64 (hI l loads loads.length : Nat))) := by
  have hlen := (vB_yes.1 hv).1
  refine pu_of_ex true [] mixed Try.call32 Try.func32 rfl Try.ntmps32 Try.results32 (by decide +kernel) rfl rfl rfl ?_
  simp only [push_cast, ↓branch_true, ↓branch_false, Nat.reduceBEq, Nat.reduceAdd, Nat.reduceMul, Nat.reduceSub, Int.reduceToNat, reduceCtorEq, branch_decide, branch_not, branch_beq, branch_bne]
  refine tr_loop0 mixed (by kernel_rfl) (fun (k : Nat) => [(6, .v (.int .i64 k)), (5, .v (.int .i64 (hI l loads k : Nat))), (0, .s 0 0 0 l.length c 4), (1, .s 1 0 0 loads.length lc 1)]) (fun k => 0 < k ∧ k ≤ loads.length) (fun k => loads.length - k) 1 ⟨by omega, h0⟩ ?_ ?_
  · simp only [push_cast, ↓branch_true, ↓branch_false, Nat.reduceBEq, Nat.reduceAdd, Nat.reduceMul, Nat.reduceSub, Int.reduceToNat, reduceCtorEq, branch_decide, branch_not, branch_beq, branch_bne]
    have := load_range hv hx hin h0
    simp [hI]
  rintro k ⟨g1, g2⟩
  obtain ⟨r1, r2, r3⟩ := h_range hv hx hin k g2
  obtain ⟨r4, r5⟩ := r3 g1
  simp only [push_cast, ↓branch_true, ↓branch_false, Nat.reduceBEq, Nat.reduceAdd, Nat.reduceMul, Nat.reduceSub, Int.reduceToNat, reduceCtorEq, branch_decide, branch_not, branch_beq, branch_bne]
  refine ⟨fun h3 => ?_, fun h3 => ?_⟩
  · have hk : k < loads.length := by omega
    have hxk := hx _ (ix_mem hk)
    have hxb := hx _ (ix_mem (l := loads) (k := hI l loads k) (by omega))
    repeat (with_reducible refine And.intro (by omega) ?_)
    refine qc_call (rmass_pu l c N k loads (cp k) hv (by omega) (fun i hi => hin i (mem_flat hk hi)) (by omega)) rfl [0, 2] rfl (by simp only [push_cast, ↓branch_true, ↓branch_false, Nat.reduceBEq, Nat.reduceAdd, Nat.reduceMul, Nat.reduceSub, Int.reduceToNat, reduceCtorEq, branch_decide, branch_not, branch_beq, branch_bne]) (by simp only [push_cast, ↓branch_true, ↓branch_false, Nat.reduceBEq, Nat.reduceAdd, Nat.reduceMul, Nat.reduceSub, Int.reduceToNat, reduceCtorEq, branch_decide, branch_not, branch_beq, branch_bne]) ?_
    simp only [push_cast, ↓branch_true, ↓branch_false, Nat.reduceBEq, Nat.reduceAdd, Nat.reduceMul, Nat.reduceSub, Int.reduceToNat, reduceCtorEq, branch_decide, branch_not, branch_beq, branch_bne]
    repeat (with_reducible refine And.intro (by omega) ?_)
    refine qc_call (rmass_pu l c N (hI l loads k) loads (cp (hI l loads k)) hv (by omega) (fun i hi => hin i (mem_flat (by omega) hi)) (by omega)) rfl [0, 2] rfl (by simp only [push_cast, ↓branch_true, ↓branch_false, Nat.reduceBEq, Nat.reduceAdd, Nat.reduceMul, Nat.reduceSub, Int.reduceToNat, reduceCtorEq, branch_decide, branch_not, branch_beq, branch_bne]) (by simp only [push_cast, ↓branch_true, ↓branch_false, Nat.reduceBEq, Nat.reduceAdd, Nat.reduceMul, Nat.reduceSub, Int.reduceToNat, reduceCtorEq, branch_decide, branch_not, branch_beq, branch_bne]) ?_
    simp only [push_cast, ↓branch_true, ↓branch_false, Nat.reduceBEq, Nat.reduceAdd, Nat.reduceMul, Nat.reduceSub, Int.reduceToNat, reduceCtorEq, branch_decide, branch_not, branch_beq, branch_bne]
    rw [← r5]
    refine ⟨fun h7 => ?_, fun h7 => ?_⟩
    · have e2 : hI l loads (k + 1) = k := by rw [hI, if_pos h7]
      repeat (with_reducible refine And.intro (by omega) ?_)
      refine lp0_normal (k + 1) ⟨by omega, by omega⟩ (by omega) ?_
      simp only [push_cast, ↓branch_true, ↓branch_false, Nat.reduceBEq, Nat.reduceAdd, Nat.reduceMul, Nat.reduceSub, Int.reduceToNat, reduceCtorEq, branch_decide, branch_not, branch_beq, branch_bne, e2]
    · have e2 : hI l loads (k + 1) = hI l loads k := by rw [hI, if_neg h7]
      repeat (with_reducible refine And.intro (by omega) ?_)
      refine lp0_normal (k + 1) ⟨by omega, by omega⟩ (by omega) ?_
      simp only [push_cast, ↓branch_true, ↓branch_false, Nat.reduceBEq, Nat.reduceAdd, Nat.reduceMul, Nat.reduceSub, Int.reduceToNat, reduceCtorEq, branch_decide, branch_not, branch_beq, branch_bne, e2]
  · obtain rfl : k = loads.length := by omega
    rfl
end Go.Proofs.Ytdinkpefoljigaa
