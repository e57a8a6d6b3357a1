/- Contracts: Check. -/
import Derived.Test.YtdinkpefoljigaaS
set_option maxRecDepth 100000
set_option linter.unusedSimpArgs false
set_option linter.unusedVariables false
namespace Go.Proofs.Ytdinkpefoljigaa
open Go.RowKit
/-- Loads are right. -/
structure Right (l : List Bun) (most : Int) (loads : List (List Int)) : Prop where
  mem : ∀ i ∈ loads.flatten, 0 ≤ i ∧ i < l.length
  nodup : loads.flatten.Nodup
  good : ∀ x ∈ loads, x ≠ [] ∧ massL l x ≤ most
  all : loads.flatten.length = l.length
def flt (loads : List (List Int)) (j : Nat) : List Int := (loads.take j).flatten
theorem flt_succ {loads : List (List Int)} {j : Nat} (hj : j < loads.length) : flt loads (j + 1) = flt loads j ++ ix loads j := by
  unfold flt
  rw [take_snoc hj, List.flatten_append]
  simp
theorem flt_split {loads : List (List Int)} {j q : Nat} (hj : j < loads.length) (hq : q < (ix loads j).length) : ∃ rest, loads.flatten = (flt loads j ++ (ix loads j).take q) ++ (ix (ix loads j) q :: rest) := by
  refine ⟨(ix loads j).drop (q + 1) ++ (loads.drop (j + 1)).flatten, ?_⟩
  have e1 : loads = loads.take j ++ (ix loads j :: loads.drop (j + 1)) := by rw [← drop_ix hj, List.take_append_drop]
  have e2 : ix loads j = (ix loads j).take q ++ (ix (ix loads j) q :: (ix loads j).drop (q + 1)) := by rw [← drop_ix hq, List.take_append_drop]
  have e3 : loads.flatten = flt loads j ++ (ix loads j ++ (loads.drop (j + 1)).flatten) := by
    conv => lhs; rw [e1]
    rw [List.flatten_append, List.flatten_cons]; rfl
  rw [e3]
  conv => lhs; rw [e2]
  simp
def hasI (P : List Int) (n : Int) : Bool := P.contains n
theorem hasI_snoc (P : List Int) (i n : Int) : hasI (P ++ [i]) n = (n == i || hasI P n) := by
  unfold hasI
  rw [List.contains_append, Bool.or_comm, Bool.eq_iff_iff]
  simp
theorem hasI_iff {P : List Int} {n : Int} : hasI P n = true ↔ n ∈ P := by unfold hasI; simp
noncomputable instance (l : List Bun) (most : Int) (loads : List (List Int)) : Decidable (Right l most loads) := Classical.propDecidable _
noncomputable def checkR (l : List Bun) (most : Int) (loads : List (List Int)) : Bool × Int := if vB l = false then (false, 1) else if ¬ (1 ≤ most ∧ most ≤ 1099511627776) then (false, 2) else (decide (Right l most loads), 0)
set_option maxHeartbeats 2000000 in
theorem check_pu (l : List Bun) (most : Int) (loads : List (List Int)) (c lc N : Nat) (cp : Nat → Nat) (hs : strOk l) (hl : l.length ≤ 9223372036854775807) (hN : loads.length ≤ N) (hln : loads.length ≤ 9223372036854775807) (hx : ∀ x ∈ loads, x.length ≤ 4000000) :
    Pu Try.prog 20 [.s 0 0 0 l.length c 4, .v (.int .i64 most), .s 1 0 0 loads.length lc 1] [rB l, rOut 2 loads cp, rFa N loads] (.t [.v (.bool (checkR l most loads).1), .v (.int .i64 (checkR l most loads).2)]) := by
  refine pu_of_ex true [] mixed Try.call20 Try.func20 rfl Try.ntmps20 Try.results20 (by decide +kernel) rfl rfl rfl ?_
  simp only [push_cast, ↓branch_true, ↓branch_false, Nat.reduceBEq, Nat.reduceAdd, Nat.reduceMul, Nat.reduceSub, Int.reduceToNat, reduceCtorEq, branch_decide, branch_not, branch_beq, branch_bne]
  refine sp_call (valid_pu l c hs hl) rfl [0] rfl (by simp only [push_cast, ↓branch_true, ↓branch_false, Nat.reduceBEq, Nat.reduceAdd, Nat.reduceMul, Nat.reduceSub, Int.reduceToNat, reduceCtorEq, branch_decide, branch_not, branch_beq, branch_bne]) (by simp only [push_cast, ↓branch_true, ↓branch_false, Nat.reduceBEq, Nat.reduceAdd, Nat.reduceMul, Nat.reduceSub, Int.reduceToNat, reduceCtorEq, branch_decide, branch_not, branch_beq, branch_bne]) ?_
  simp only [push_cast, ↓branch_true, ↓branch_false, Nat.reduceBEq, Nat.reduceAdd, Nat.reduceMul, Nat.reduceSub, Int.reduceToNat, reduceCtorEq, branch_decide, branch_not, branch_beq, branch_bne]
  cases hv : vB l with
  | false =>
    simp only [push_cast, ↓branch_true, ↓branch_false, Nat.reduceBEq, Nat.reduceAdd, Nat.reduceMul, Nat.reduceSub, Int.reduceToNat, reduceCtorEq, branch_decide, branch_not, branch_beq, branch_bne]
    simp [checkR, hv]
  | true =>
  simp only [push_cast, ↓branch_true, ↓branch_false, Nat.reduceBEq, Nat.reduceAdd, Nat.reduceMul, Nat.reduceSub, Int.reduceToNat, reduceCtorEq, branch_decide, branch_not, branch_beq, branch_bne]
  refine sp_call (within_pu most) rfl [] rfl (by simp only [push_cast, ↓branch_true, ↓branch_false, Nat.reduceBEq, Nat.reduceAdd, Nat.reduceMul, Nat.reduceSub, Int.reduceToNat, reduceCtorEq, branch_decide, branch_not, branch_beq, branch_bne]) (by simp only [push_cast, ↓branch_true, ↓branch_false, Nat.reduceBEq, Nat.reduceAdd, Nat.reduceMul, Nat.reduceSub, Int.reduceToNat, reduceCtorEq, branch_decide, branch_not, branch_beq, branch_bne]) ?_
  simp only [push_cast, ↓branch_true, ↓branch_false, Nat.reduceBEq, Nat.reduceAdd, Nat.reduceMul, Nat.reduceSub, Int.reduceToNat, reduceCtorEq, branch_decide, branch_not, branch_beq, branch_bne]
  cases hw : (decide (1 ≤ most) && decide (most ≤ 1099511627776)) with
  | false =>
    simp only [push_cast, ↓branch_true, ↓branch_false, Nat.reduceBEq, Nat.reduceAdd, Nat.reduceMul, Nat.reduceSub, Int.reduceToNat, reduceCtorEq, branch_decide, branch_not, branch_beq, branch_bne]
    have : ¬ (1 ≤ most ∧ most ≤ 1099511627776) := by simpa using hw
    simp only [checkR, hv, this]; simp
  | true =>
  have hw2 : 1 ≤ most ∧ most ≤ 1099511627776 := by simpa using hw
  have hres : checkR l most loads = (decide (Right l most loads), 0) := by simp [checkR, hv, hw2]
  rw [hres]
  have hlen := (vB_yes.1 hv).1
  simp only [push_cast, ↓branch_true, ↓branch_false, Nat.reduceBEq, Nat.reduceAdd, Nat.reduceMul, Nat.reduceSub, Int.reduceToNat, reduceCtorEq, branch_decide, branch_not, branch_beq, branch_bne]
  refine tr_loop mixed (by kernel_rfl) (fun (j : Nat) => [(25, .v (.int .i64 j)), (24, .v (.int .i64 loads.length)), (23, .s 1 0 0 loads.length lc 1), (8, .m 3), (0, .s 0 0 0 l.length c 4), (1, .v (.int .i64 most)), (2, .s 1 0 0 loads.length lc 1)])
    (fun j => [rB l, rOut 2 loads cp, rFa N loads, ⟨69, false, .mp (.int .i64) (flt loads j).length (gI (hasI (flt loads j)))⟩])
    (fun j => j ≤ loads.length ∧ (∀ i ∈ flt loads j, 0 ≤ i ∧ i < l.length) ∧ (flt loads j).Nodup ∧ ∀ k, k < j → ix loads k ≠ [] ∧ massL l (ix loads k) ≤ most) (fun j => loads.length - j) 0 ⟨Nat.zero_le _, fun i hi => by simp [flt] at hi, by simp [flt], fun k hk => by omega⟩ (Mt.wk (rl := [0, 1, 2, 3]) ⟨by kernel_rfl, ?_, ?_⟩) ?_
  · simp only [push_cast, ↓branch_true, ↓branch_false, Nat.reduceBEq, Nat.reduceAdd, Nat.reduceMul, Nat.reduceSub, Int.reduceToNat, reduceCtorEq, branch_decide, branch_not, branch_beq, branch_bne]
  · simp only [push_cast, ↓branch_true, ↓branch_false, Nat.reduceBEq, Nat.reduceAdd, Nat.reduceMul, Nat.reduceSub, Int.reduceToNat, reduceCtorEq, branch_decide, branch_not, branch_beq, branch_bne]
    exact ⟨rfl, gI_no (fun x => by simp [flt, hasI]) _⟩
  rintro j ⟨h1, h2, h3, h4⟩
  simp only [push_cast, ↓branch_true, ↓branch_false, Nat.reduceBEq, Nat.reduceAdd, Nat.reduceMul, Nat.reduceSub, Int.reduceToNat, reduceCtorEq, branch_decide, branch_not, branch_beq, branch_bne]
  refine ⟨fun h => ?_, fun h => ?_⟩
  rotate_left
  · obtain rfl : j = loads.length := by omega
    have hfl : flt loads loads.length = loads.flatten := by simp [flt]
    rw [hfl] at h2 h3 ⊢
    by_cases he : loads.flatten.length = l.length
    · have hr : Right l most loads := ⟨h2, h3, fun x hx' => by
        obtain ⟨k, hk, rfl⟩ := List.mem_iff_getElem.1 hx'
        rw [← ix_eq hk]; exact h4 k hk, he⟩
      simp [hr, he]
    · have hr : ¬ Right l most loads := fun hr => he hr.all
      have hb : ((loads.flatten.length : Int) == (l.length : Int)) = false := by rw [beq_eq_false_iff_ne]; omega
      rw [hb, decide_eq_false hr]
  have hj : j < loads.length := by omega
  have hxj := hx _ (ix_mem hj)
  repeat (with_reducible refine And.intro (by omega) ?_)
  refine tr_loop mixed (by kernel_rfl) (fun (q : Nat) => [(31, .v (.int .i64 q)), (30, .v (.int .i64 (ix loads j).length)), (29, .s 2 j 0 (ix loads j).length (cp j) 1), (11, .v (.int .i64 (massL l ((ix loads j).take q)))), (10, .s 2 j 0 (ix loads j).length (cp j) 1), (25, .v (.int .i64 j)), (24, .v (.int .i64 loads.length)), (23, .s 1 0 0 loads.length lc 1), (8, .m 3), (0, .s 0 0 0 l.length c 4), (1, .v (.int .i64 most)), (2, .s 1 0 0 loads.length lc 1)])
    (fun q => [rB l, rOut 2 loads cp, rFa N loads, ⟨69, false, .mp (.int .i64) (flt loads j ++ (ix loads j).take q).length (gI (hasI (flt loads j ++ (ix loads j).take q)))⟩])
    (fun q => q ≤ (ix loads j).length ∧ (∀ i ∈ flt loads j ++ (ix loads j).take q, 0 ≤ i ∧ i < l.length) ∧ (flt loads j ++ (ix loads j).take q).Nodup) (fun q => (ix loads j).length - q) 0 ⟨Nat.zero_le _, by simpa using h2, by simpa using h3⟩ (Mt.wk (rl := [0, 1, 2, 3]) ⟨by kernel_rfl, ?_, ?_⟩) ?_
  · simp only [push_cast, ↓branch_true, ↓branch_false, Nat.reduceBEq, Nat.reduceAdd, Nat.reduceMul, Nat.reduceSub, Int.reduceToNat, reduceCtorEq, branch_decide, branch_not, branch_beq, branch_bne]
    simp [massL]
  · simp only [push_cast, ↓branch_true, ↓branch_false, Nat.reduceBEq, Nat.reduceAdd, Nat.reduceMul, Nat.reduceSub, Int.reduceToNat, reduceCtorEq, branch_decide, branch_not, branch_beq, branch_bne]
  rintro q ⟨g1, g2, g3⟩
  simp only [push_cast, ↓branch_true, ↓branch_false, Nat.reduceBEq, Nat.reduceAdd, Nat.reduceMul, Nat.reduceSub, Int.reduceToNat, reduceCtorEq, branch_decide, branch_not, branch_beq, branch_bne]
  have hpre : ∀ i ∈ (ix loads j).take q, 0 ≤ i ∧ i < l.length := fun i hi => g2 i (List.mem_append_right _ hi)
  refine ⟨fun h5 => ?_, fun h5 => ?_⟩
  · have hq : q < (ix loads j).length := by omega
    obtain ⟨rest, hsp⟩ := flt_split hj hq
    have hin : ix (ix loads j) q ∈ loads.flatten := by rw [hsp]; simp
    repeat (with_reducible refine And.intro (by omega) ?_)
    refine ⟨fun h6 => ?_, fun h6 => ⟨fun h7 => ?_, fun h7 => ?_⟩⟩
    · have hr : ¬ Right l most loads := fun hr => by have := hr.mem _ hin; omega
      simp [hr]
    · have hr : ¬ Right l most loads := fun hr => by have := hr.mem _ hin; omega
      simp [hr]
    · cases hh : hasI (flt loads j ++ (ix loads j).take q) (ix (ix loads j) q) with
      | true =>
        simp only [push_cast, ↓branch_true, ↓branch_false, Nat.reduceBEq, Nat.reduceAdd, Nat.reduceMul, Nat.reduceSub, Int.reduceToNat, reduceCtorEq, branch_decide, branch_not, branch_beq, branch_bne]
        have hr : ¬ Right l most loads := fun hr => by
          have hn := hr.nodup
          rw [hsp, List.nodup_append] at hn
          exact hn.2.2 _ (hasI_iff.1 hh) _ List.mem_cons_self rfl
        simp [hr]
      | false =>
        simp only [push_cast, ↓branch_true, ↓branch_false, Nat.reduceBEq, Nat.reduceAdd, Nat.reduceMul, Nat.reduceSub, Int.reduceToNat, reduceCtorEq, branch_decide, branch_not, branch_beq, branch_bne]
        have hni : ix (ix loads j) q ∉ flt loads j ++ (ix loads j).take q := fun e => by rw [hasI_iff.2 e] at hh; cases hh
        have hiq : 0 ≤ ix (ix loads j) q ∧ ix (ix loads j) q < l.length := ⟨by omega, by omega⟩
        have hm := okA_mass ((vB_yes.1 hv).2 (ix (ix loads j) q).toNat (by omega))
        have hmr : 0 ≤ massL l ((ix loads j).take q) ∧ massL l ((ix loads j).take q) ≤ 1099511627776 * q := by
          have := massL_range hv hpre q (by simp; omega)
          rwa [List.take_take, Nat.min_self] at this
        have et := massL_take (l := l) hq
        have etk := take_snoc hq
        repeat (with_reducible refine And.intro (by omega) ?_)
        refine lpK_normal (q + 1) [0, 1, 2, 3] ⟨by omega, ?_, ?_⟩ (by omega) (by kernel_rfl) ?_ ?_
        · intro i hi
          rw [etk, ← List.append_assoc] at hi
          rcases List.mem_append.1 hi with hi | hi
          · exact g2 i hi
          · simp at hi; subst hi; exact hiq
        · rw [etk, ← List.append_assoc, List.nodup_append]
          exact ⟨g3, by simp, fun a ha b hb e => by simp at hb; subst hb e; exact hni ha⟩
        · simp only [push_cast, ↓branch_true, ↓branch_false, Nat.reduceBEq, Nat.reduceAdd, Nat.reduceMul, Nat.reduceSub, Int.reduceToNat, reduceCtorEq, branch_decide, branch_not, branch_beq, branch_bne, et]
        · simp only [push_cast, ↓branch_true, ↓branch_false, Nat.reduceBEq, Nat.reduceAdd, Nat.reduceMul, Nat.reduceSub, Int.reduceToNat, reduceCtorEq, branch_decide, branch_not, branch_beq, branch_bne]
          refine ⟨?_, gI_up fun x => ?_⟩
          · rw [etk, ← List.append_assoc]; simp; omega
          · rw [etk, ← List.append_assoc, hasI_snoc]
  · obtain rfl : q = (ix loads j).length := by omega
    rw [List.take_length] at g2 g3 ⊢
    refine ⟨fun h6 => ?_, fun h6 => ⟨fun h7 => ?_, fun h7 => ?_⟩⟩
    · have hr : ¬ Right l most loads := fun hr => (hr.good _ (ix_mem hj)).1 (List.length_eq_zero_iff.1 (by omega))
      simp [hr]
    · have hr : ¬ Right l most loads := fun hr => by have := (hr.good _ (ix_mem hj)).2; omega
      simp [hr]
    · repeat (with_reducible refine And.intro (by omega) ?_)
      refine lpK_normal (j + 1) [0, 1, 2, 3] ⟨by omega, by rw [flt_succ hj]; exact g2, by rw [flt_succ hj]; exact g3, fun k hk => ?_⟩ (by omega) (by kernel_rfl) ?_ ?_
      · by_cases e : k = j
        · subst e
          exact ⟨fun e => h6 (by rw [e]; rfl), by omega⟩
        · exact h4 k (by omega)
      · simp only [push_cast, ↓branch_true, ↓branch_false, Nat.reduceBEq, Nat.reduceAdd, Nat.reduceMul, Nat.reduceSub, Int.reduceToNat, reduceCtorEq, branch_decide, branch_not, branch_beq, branch_bne]
      · simp only [push_cast, ↓branch_true, ↓branch_false, Nat.reduceBEq, Nat.reduceAdd, Nat.reduceMul, Nat.reduceSub, Int.reduceToNat, reduceCtorEq, branch_decide, branch_not, branch_beq, branch_bne, flt_succ hj]
end Go.Proofs.Ytdinkpefoljigaa
