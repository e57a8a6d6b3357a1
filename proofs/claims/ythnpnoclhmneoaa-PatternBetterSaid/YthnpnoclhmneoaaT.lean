/- Contracts at a member of a list of patterns; the reference's All. -/
import Derived.Test.YthnpnoclhmneoaaS
set_option maxRecDepth 100000
set_option linter.unusedSimpArgs false
set_option linter.unusedVariables false
namespace Go.Proofs.Ythnpnoclhmneoaa
open Go.RowKit
@[push_cast] theorem vwO_row0 {ty : TypeId} {ro : Bool} {sz N : Nat} {len cap : Nat → Nat} {f : Nat → Nat → List SV} {a : Nat} : vwO ⟨ty, ro, .row sz N len cap f⟩ a = ⟨ty, true, .row sz 1 (fun _ => len a) (fun _ => 0) (fun _ => f a)⟩ := rfl
theorem rmaximalM_pu (length : Int) (l : List Pc) (P : List (List Int)) (a : Nat) (c c2 : Nat) (ha : a < P.length) (ho : orderB l = true) (hi : inB l (ix P a) = true) (h1 : 0 ≤ length) (h2 : length ≤ 1048576) (he : (ix P a).length = l.length) :
    Pu Try.prog 28 [.v (.int .i64 length), .s 0 0 0 l.length c 2, .s 1 a 0 (ix P a).length c2 1] [rPc l, rLL P] (.v (.bool (fullB (length - sumL l (ix P a)) l (ix P a)))) := by
  refine pu_member 1 a [0, 2] rfl ⟨rfl, ha⟩ ?_ (by kernel_rfl) ?_ (rmaximal_pu length l (ix P a) c c2 ho hi h1 h2 he)
  · simp only [push_cast, ↓branch_true, ↓branch_false, Nat.reduceBEq, Nat.reduceAdd, Nat.reduceMul, Nat.reduceSub, Int.reduceToNat, reduceCtorEq, branch_decide, branch_not, branch_beq, branch_bne]
  · simp only [push_cast, ↓branch_true, ↓branch_false, Nat.reduceBEq, Nat.reduceAdd, Nat.reduceMul, Nat.reduceSub, Int.reduceToNat, reduceCtorEq, branch_decide, branch_not, branch_beq, branch_bne]
theorem maximalM_pu (length : Int) (l : List Pc) (P : List (List Int)) (a : Nat) (c c2 : Nat) (ha : a < P.length) (hl : l.length ≤ 9223372036854775806) :
    Pu Try.prog 24 [.v (.int .i64 length), .s 0 0 0 l.length c 2, .s 1 a 0 (ix P a).length c2 1] [rPc l, rLL P] (maximalV length l (ix P a)) := by
  refine pu_member 1 a [0, 2] rfl ⟨rfl, ha⟩ ?_ (by kernel_rfl) ?_ (maximal_pu length l (ix P a) c c2 hl)
  · simp only [push_cast, ↓branch_true, ↓branch_false, Nat.reduceBEq, Nat.reduceAdd, Nat.reduceMul, Nat.reduceSub, Int.reduceToNat, reduceCtorEq, branch_decide, branch_not, branch_beq, branch_bne]
  · simp only [push_cast, ↓branch_true, ↓branch_false, Nat.reduceBEq, Nat.reduceAdd, Nat.reduceMul, Nat.reduceSub, Int.reduceToNat, reduceCtorEq, branch_decide, branch_not, branch_beq, branch_bne]
theorem wasteM_pu (length : Int) (l : List Pc) (P : List (List Int)) (a : Nat) (c c2 : Nat) (ha : a < P.length) (hl : l.length ≤ 9223372036854775806) :
    Pu Try.prog 23 [.v (.int .i64 length), .s 0 0 0 l.length c 2, .s 1 a 0 (ix P a).length c2 1] [rPc l, rLL P] (wasteV length l (ix P a)) := by
  refine pu_member 1 a [0, 2] rfl ⟨rfl, ha⟩ ?_ (by kernel_rfl) ?_ (waste_pu length l (ix P a) c c2 hl)
  · simp only [push_cast, ↓branch_true, ↓branch_false, Nat.reduceBEq, Nat.reduceAdd, Nat.reduceMul, Nat.reduceSub, Int.reduceToNat, reduceCtorEq, branch_decide, branch_not, branch_beq, branch_bne]
  · simp only [push_cast, ↓branch_true, ↓branch_false, Nat.reduceBEq, Nat.reduceAdd, Nat.reduceMul, Nat.reduceSub, Int.reduceToNat, reduceCtorEq, branch_decide, branch_not, branch_beq, branch_bne]
theorem validM_pu (length : Int) (l : List Pc) (P : List (List Int)) (a : Nat) (c c2 : Nat) (ha : a < P.length) (hl : l.length ≤ 9223372036854775806) :
    Pu Try.prog 22 [.v (.int .i64 length), .s 0 0 0 l.length c 2, .s 1 a 0 (ix P a).length c2 1] [rPc l, rLL P] (validV length l (ix P a)) := by
  refine pu_member 1 a [0, 2] rfl ⟨rfl, ha⟩ ?_ (by kernel_rfl) ?_ (valid_pu length l (ix P a) c c2 hl)
  · simp only [push_cast, ↓branch_true, ↓branch_false, Nat.reduceBEq, Nat.reduceAdd, Nat.reduceMul, Nat.reduceSub, Int.reduceToNat, reduceCtorEq, branch_decide, branch_not, branch_beq, branch_bne]
  · simp only [push_cast, ↓branch_true, ↓branch_false, Nat.reduceBEq, Nat.reduceAdd, Nat.reduceMul, Nat.reduceSub, Int.reduceToNat, reduceCtorEq, branch_decide, branch_not, branch_beq, branch_bne]
theorem pick_next {α : Type} [Inhabited α] {E : List α} {F : α → Bool} {i m : Nat} {g : Nat → Nat} (hi : i < E.length) (r2 : m = ((E.take i).filter F).length) (r3 : ∀ k, k < m → g k < E.length ∧ ix E (g k) = ix ((E.take i).filter F) k) :
    (F (ix E i) = true → m + 1 = ((E.take (i + 1)).filter F).length ∧ ∀ k, k < m + 1 → (bif k == m then i else g k) < E.length ∧ ix E (bif k == m then i else g k) = ix ((E.take (i + 1)).filter F) k) ∧ (F (ix E i) = false → (E.take (i + 1)).filter F = (E.take i).filter F) := by
  have htk : E.take (i + 1) = E.take i ++ [ix E i] := by rw [List.take_add_one, List.getElem?_eq_getElem hi, ix_eq hi]; rfl
  constructor
  · intro hF
    have e : (E.take (i + 1)).filter F = (E.take i).filter F ++ [ix E i] := by rw [htk, List.filter_append]; simp [hF]
    rw [e]
    refine ⟨by simp [r2], fun k hk => ?_⟩
    by_cases c : k = m
    · rw [show (k == m) = true by simpa using c, cond_true, c, r2, ix_snoc]
      exact ⟨hi, rfl⟩
    · rw [show (k == m) = false by simpa using c, cond_false, ix_app (by omega)]
      exact r3 k (by omega)
  · intro hF
    rw [htk, List.filter_append]
    simp [hF]
/-- The reference's list of maximal patterns. -/
def maxE (length : Int) (l : List Pc) : List (List Int) := (eachG l length).filter fun q => fullB (length - sumL l q) l q
def rAllE (length : Int) (l : List Pc) : Int := if givenE length l l.length ≠ 0 then givenE length l l.length else if 10 < l.length then 6 else if 1000 < (maxE length l).length then 6 else 0
def rAllL (length : Int) (l : List Pc) : List (List Int) := if rAllE length l = 0 then maxE length l else []
/-- A list of members of a family, by their numbers. -/
def oPick (jf n m oc : Nat) (g caps : Nat → Nat) : Ob := ⟨32, false, .row 1 1 (fun _ => m) (fun _ => oc) (fun _ k => [.s jf (g k) 0 n (caps k) 1])⟩
attribute [push_cast] oPick
theorem rAll_sp (length : Int) (l : List Pc) (c : Nat) (hl : l.length ≤ 9223372036854775806) (hn : givenE length l l.length = 0 → l.length ≤ 10 → (eachG l length).length ≤ 1000000) :
    Sp Try.prog 12 [.v (.int .i64 length), .s 0 0 0 l.length c 2] [rPc l] (fun r H => ∃ nE E g caps oc, r = .t [.s 2 0 0 (rAllL length l).length oc 1, .v (.int .i64 (rAllE length l))] ∧ nE = E.length ∧ (∀ q ∈ E, q.length = l.length) ∧ (∀ k, k < (rAllL length l).length → g k < E.length ∧ ix E (g k) = ix (rAllL length l) k) ∧ H = [rPc l, rFam l.length nE E, oPick 1 l.length (rAllL length l).length oc g caps]) := by
  refine sp_wk ?_
  refine sp_of_ex true [] mixed Try.call12 Try.func12 rfl Try.ntmps12 Try.results12 (by decide +kernel) rfl ?_
  simp only [push_cast, ↓branch_true, ↓branch_false, Nat.reduceBEq, Nat.reduceAdd, Nat.reduceMul, Nat.reduceSub, Int.reduceToNat, reduceCtorEq, branch_decide, branch_not, branch_beq, branch_bne]
  refine sp_call (rgiven_pu length l.length l c (by omega)) rfl [0] rfl (by simp only [push_cast, ↓branch_true, ↓branch_false, Nat.reduceBEq, Nat.reduceAdd, Nat.reduceMul, Nat.reduceSub, Int.reduceToNat, reduceCtorEq, branch_decide, branch_not, branch_beq, branch_bne]) (by simp only [push_cast, ↓branch_true, ↓branch_false, Nat.reduceBEq, Nat.reduceAdd, Nat.reduceMul, Nat.reduceSub, Int.reduceToNat, reduceCtorEq, branch_decide, branch_not, branch_beq, branch_bne]) ?_
  simp only [push_cast, ↓branch_true, ↓branch_false, Nat.reduceBEq, Nat.reduceAdd, Nat.reduceMul, Nat.reduceSub, Int.reduceToNat, reduceCtorEq, branch_decide, branch_not, branch_beq, branch_bne]
  refine ⟨fun hg => ?_, fun hg => ?_⟩
  · obtain ⟨g1, g2, g3, g4⟩ := given_0 hg
    refine ⟨fun hl10 => ?_, fun hl10 => ?_⟩
    · have e1 : rAllE length l = 6 := by unfold rAllE; rw [if_neg (by simp [hg]), if_pos (by omega)]
      have e2 : rAllL length l = [] := by unfold rAllL; rw [if_neg (by rw [e1]; decide)]
      rw [e1, e2]
      refine ⟨_, _, vwk_mt [0, 1, 2] ?_ ?_ ?_, 0, [], fun _ => 0, fun _ => 0, 0, rfl, rfl, (fun q hq => by simp at hq), (fun k hk => by simp at hk), rfl⟩
      · simp only [push_cast, ↓branch_true, ↓branch_false, Nat.reduceBEq, Nat.reduceAdd, Nat.reduceMul, Nat.reduceSub, Int.reduceToNat, reduceCtorEq, branch_decide, branch_not, branch_beq, branch_bne]
      · kernel_rfl
      · simp only [push_cast, ↓branch_true, ↓branch_false, Nat.reduceBEq, Nat.reduceAdd, Nat.reduceMul, Nat.reduceSub, Int.reduceToNat, reduceCtorEq, branch_decide, branch_not, branch_beq, branch_bne]
        omega
    · have hn := hn hg (by omega)
      have hpos := posL_of g1
      refine sp_at (each_sp length l c g1 (by omega) g3 hn) [0] rfl ?_ ?_ ?_
      · simp only [push_cast, ↓branch_true, ↓branch_false, Nat.reduceBEq, Nat.reduceAdd, Nat.reduceMul, Nat.reduceSub, Int.reduceToNat, reduceCtorEq, branch_decide, branch_not, branch_beq, branch_bne]
      · simp only [push_cast, ↓branch_true, ↓branch_false, Nat.reduceBEq, Nat.reduceAdd, Nat.reduceMul, Nat.reduceSub, Int.reduceToNat, reduceCtorEq, branch_decide, branch_not, branch_beq, branch_bne]
      rintro r0 H1 ⟨oc0, caps0, rfl, rfl⟩
      simp only [push_cast, ↓branch_true, ↓branch_false, Nat.reduceBEq, Nat.reduceAdd, Nat.reduceMul, Nat.reduceSub, Int.reduceToNat, reduceCtorEq, branch_decide, branch_not, branch_beq, branch_bne]
      generalize hE : eachG l length = E at hn
      have hEm : ∀ q ∈ E, q.length = l.length ∧ inB l q = true ∧ sumL l q ≤ length := fun q hq => (mem_eachG hpos (by omega)).1 (by rw [hE]; exact hq)
      refine tr_loop mixed (by kernel_rfl) (fun (x : Nat × Nat × (Nat → Nat) × (Nat → Nat) × Nat) => [(9, .v (.int .i64 x.1)), (8, .s 3 0 0 E.length oc0 1), (7, .s 2 0 0 x.2.1 x.2.2.2.2 1), (0, .v (.int .i64 length)), (1, .s 0 0 0 l.length c 2)])
        (fun x => [rPc l, rFam l.length E.length E, oPick 1 l.length x.2.1 x.2.2.2.2 x.2.2.1 x.2.2.2.1, oOutJ 1 l.length E.length oc0 caps0])
        (fun x => x.1 ≤ E.length ∧ x.2.1 = ((E.take x.1).filter fun q => fullB (length - sumL l q) l q).length ∧ ∀ k, k < x.2.1 → x.2.2.1 k < E.length ∧ ix E (x.2.2.1 k) = ix ((E.take x.1).filter fun q => fullB (length - sumL l q) l q) k)
        (fun x => E.length - x.1) (0, 0, fun _ => 0, fun _ => 0, 0) ⟨Nat.zero_le _, rfl, fun k hk => absurd hk (Nat.not_lt_zero _)⟩ (Mt.wk (rl := [0, 1, 3, 2]) ⟨by kernel_rfl, ?_, ?_⟩) ?_
      · simp only [push_cast, ↓branch_true, ↓branch_false, Nat.reduceBEq, Nat.reduceAdd, Nat.reduceMul, Nat.reduceSub, Int.reduceToNat, reduceCtorEq, branch_decide, branch_not, branch_beq, branch_bne]
      · simp only [push_cast, ↓branch_true, ↓branch_false, Nat.reduceBEq, Nat.reduceAdd, Nat.reduceMul, Nat.reduceSub, Int.reduceToNat, reduceCtorEq, branch_decide, branch_not, branch_beq, branch_bne]
      rintro ⟨i, m, g, caps, oc⟩ ⟨r1, r2, r3⟩
      simp only at r1 r2 r3
      simp only [push_cast, ↓branch_true, ↓branch_false, Nat.reduceBEq, Nat.reduceAdd, Nat.reduceMul, Nat.reduceSub, Int.reduceToNat, reduceCtorEq, branch_decide, branch_not, branch_beq, branch_bne]
      refine ⟨fun h => ?_, fun h => ?_⟩
      · have hi : i < E.length := by omega
        obtain ⟨f1, f2, f3⟩ := hEm _ (ix_mem hi)
        have hml : m ≤ E.length := by
          rw [r2]
          refine Nat.le_trans (List.length_filter_le _ _) ?_
          rw [List.length_take]; omega
        repeat (with_reducible refine And.intro (by omega) ?_)
        refine sp_call (rmaximalM_pu length l E i c (caps0 i) hi g1 f2 (by omega) g3 f1) rfl [0, 1] rfl ?_ ?_ ?_
        · simp only [push_cast, ↓branch_true, ↓branch_false, Nat.reduceBEq, Nat.reduceAdd, Nat.reduceMul, Nat.reduceSub, Int.reduceToNat, reduceCtorEq, branch_decide, branch_not, branch_beq, branch_bne]
          exact f1
        · simp only [push_cast, ↓branch_true, ↓branch_false, Nat.reduceBEq, Nat.reduceAdd, Nat.reduceMul, Nat.reduceSub, Int.reduceToNat, reduceCtorEq, branch_decide, branch_not, branch_beq, branch_bne]
          exact fun i hi => Nat.le_of_eq (hEm _ (ix_mem hi)).1
        simp only [push_cast, ↓branch_true, ↓branch_false, Nat.reduceBEq, Nat.reduceAdd, Nat.reduceMul, Nat.reduceSub, Int.reduceToNat, reduceCtorEq, branch_decide, branch_not, branch_beq, branch_bne]
        refine ⟨fun hf => ?_, fun hf => ?_⟩
        · obtain ⟨s1, s2⟩ := (pick_next hi r2 r3).1 hf
          repeat (with_reducible refine And.intro (by omega) ?_)
          refine .inr ?_
          repeat (with_reducible refine And.intro (by omega) ?_)
          intro cap2 hcap2
          repeat (with_reducible refine And.intro (by omega) ?_)
          refine lpK_normal (i + 1, m + 1, (fun k => bif k == m then i else g k), (fun k => bif k == m then caps0 i else caps k), cap2) [0, 1, 5, 3] ⟨by simp only; omega, s1, s2⟩ (by simp only; omega) (by kernel_rfl) ?_ ?_
          · simp only [push_cast, ↓branch_true, ↓branch_false, Nat.reduceBEq, Nat.reduceAdd, Nat.reduceMul, Nat.reduceSub, Int.reduceToNat, reduceCtorEq, branch_decide, branch_not, branch_beq, branch_bne]
          · simp only [push_cast, ↓branch_true, ↓branch_false, Nat.reduceBEq, Nat.reduceAdd, Nat.reduceMul, Nat.reduceSub, Int.reduceToNat, reduceCtorEq, branch_decide, branch_not, branch_beq, branch_bne]
            intro j hj k hk
            by_cases e : k < m
            · have eb : (k == m) = false := by simp; omega
              simp only [eb, e, decide_true, cond_true, cond_false]
              simp only [push_cast, ↓branch_true, ↓branch_false, Nat.reduceBEq, Nat.reduceAdd, Nat.reduceMul, Nat.reduceSub, Int.reduceToNat, reduceCtorEq, branch_decide, branch_not, branch_beq, branch_bne]
            · obtain rfl : k = m := by omega
              simp only [e, decide_false, beq_self_eq_true, cond_true, cond_false]
              simp only [push_cast, ↓branch_true, ↓branch_false, Nat.reduceBEq, Nat.reduceAdd, Nat.reduceMul, Nat.reduceSub, Int.reduceToNat, reduceCtorEq, branch_decide, branch_not, branch_beq, branch_bne]
        · have s1 := (pick_next hi r2 r3).2 hf
          repeat (with_reducible refine And.intro (by omega) ?_)
          refine lpK_normal (i + 1, m, g, caps, oc) [0, 1, 2, 3] ⟨by simp only; omega, by simp only; rw [s1]; exact r2, by simp only; rw [s1]; exact r3⟩ (by simp only; omega) (by kernel_rfl) ?_ ?_
          · simp only [push_cast, ↓branch_true, ↓branch_false, Nat.reduceBEq, Nat.reduceAdd, Nat.reduceMul, Nat.reduceSub, Int.reduceToNat, reduceCtorEq, branch_decide, branch_not, branch_beq, branch_bne]
          · simp only [push_cast, ↓branch_true, ↓branch_false, Nat.reduceBEq, Nat.reduceAdd, Nat.reduceMul, Nat.reduceSub, Int.reduceToNat, reduceCtorEq, branch_decide, branch_not, branch_beq, branch_bne]
      · obtain rfl : i = E.length := by omega
        rw [List.take_length] at r2 r3
        have hmx : maxE length l = E.filter fun q => fullB (length - sumL l q) l q := by rw [maxE, hE]
        rw [← hmx] at r2 r3
        refine ⟨fun h2 => ?_, fun h2 => ?_⟩
        · have e1 : rAllE length l = 6 := by unfold rAllE; rw [if_neg (by simp [hg]), if_neg (by omega), if_pos (by omega)]
          have e2 : rAllL length l = [] := by unfold rAllL; rw [if_neg (by rw [e1]; decide)]
          rw [e1, e2]
          refine ⟨_, _, vwk_mt [0, 4, 5] ?_ ?_ ?_, 0, [], fun _ => 0, fun _ => 0, 0, rfl, rfl, (fun q hq => by simp at hq), (fun k hk => by simp at hk), rfl⟩
          · simp only [push_cast, ↓branch_true, ↓branch_false, Nat.reduceBEq, Nat.reduceAdd, Nat.reduceMul, Nat.reduceSub, Int.reduceToNat, reduceCtorEq, branch_decide, branch_not, branch_beq, branch_bne]
          · kernel_rfl
          · simp only [push_cast, ↓branch_true, ↓branch_false, Nat.reduceBEq, Nat.reduceAdd, Nat.reduceMul, Nat.reduceSub, Int.reduceToNat, reduceCtorEq, branch_decide, branch_not, branch_beq, branch_bne]
            omega
        · have e1 : rAllE length l = 0 := by unfold rAllE; rw [if_neg (by simp [hg]), if_neg (by omega), if_neg (by omega)]
          have e2 : rAllL length l = maxE length l := by unfold rAllL; rw [if_pos e1]
          rw [e1, e2]
          refine ⟨_, _, vwk_mt [0, 1, 2] ?_ ?_ ?_, E.length, E, g, caps, oc, rfl, rfl, fun q hq => (hEm q hq).1, fun k hk => r3 k (by omega), rfl⟩
          · simp only [push_cast, ↓branch_true, ↓branch_false, Nat.reduceBEq, Nat.reduceAdd, Nat.reduceMul, Nat.reduceSub, Int.reduceToNat, reduceCtorEq, branch_decide, branch_not, branch_beq, branch_bne]
            exact r2.symm
          · kernel_rfl
          · simp only [push_cast, ↓branch_true, ↓branch_false, Nat.reduceBEq, Nat.reduceAdd, Nat.reduceMul, Nat.reduceSub, Int.reduceToNat, reduceCtorEq, branch_decide, branch_not, branch_beq, branch_bne]
            exact fun _ _ => Nat.le_of_eq r2.symm
  · have e1 : rAllE length l = givenE length l l.length := by unfold rAllE; rw [if_pos hg]
    have e2 : rAllL length l = [] := by unfold rAllL; rw [if_neg (by rw [e1]; exact hg)]
    rw [e1, e2]
    refine ⟨_, _, vwk_mt [0, 1, 2] ?_ ?_ ?_, 0, [], fun _ => 0, fun _ => 0, 0, rfl, rfl, (fun q hq => by simp at hq), (fun k hk => by simp at hk), rfl⟩
    · simp only [push_cast, ↓branch_true, ↓branch_false, Nat.reduceBEq, Nat.reduceAdd, Nat.reduceMul, Nat.reduceSub, Int.reduceToNat, reduceCtorEq, branch_decide, branch_not, branch_beq, branch_bne]
    · kernel_rfl
    · simp only [push_cast, ↓branch_true, ↓branch_false, Nat.reduceBEq, Nat.reduceAdd, Nat.reduceMul, Nat.reduceSub, Int.reduceToNat, reduceCtorEq, branch_decide, branch_not, branch_beq, branch_bne]
      omega
end Go.Proofs.Ythnpnoclhmneoaa
