/- Contract: Dual. -/
import Derived.Test.YtmefgachdnlaoaaU
set_option maxRecDepth 100000
set_option linter.unusedSimpArgs false
set_option linter.unusedVariables false
namespace Go.Proofs.Ytmefgachdnlaoaa
open Go.RowKit Lp
/-- The rows that a row of a program becomes in its dual: columns, with their signs. -/
def dst (p : Pm) (t : Nat) : List (Int × Nat) := (if p.kd t = 1 then [] else [(1, t)]) ++ (if p.kd t = 2 then [] else [(-1, t)])
def dcol (p : Pm) : Nat → List (Int × Nat)
  | 0 => []
  | t + 1 => dcol p t ++ dst p t
theorem dcol_pre (p : Pm) {t : Nat} : ∀ {m : Nat}, t ≤ m → ∃ r, dcol p m = dcol p t ++ r
  | 0, h => by obtain rfl : t = 0 := by omega
               exact ⟨[], rfl⟩
  | m + 1, h => by
    by_cases e : t = m + 1
    · rw [e]; exact ⟨[], (List.append_nil _).symm⟩
    · obtain ⟨r, hr⟩ := dcol_pre p (t := t) (m := m) (by omega)
      exact ⟨r ++ dst p m, by rw [dcol, hr, List.append_assoc]⟩
theorem dst_len (p : Pm) (t : Nat) : (dst p t).length ≤ 2 := by
  unfold dst
  split <;> split <;> simp
theorem dcol_len (p : Pm) : ∀ t, (dcol p t).length ≤ 2 * t
  | 0 => Nat.le_refl _
  | t + 1 => by
    have := dcol_len p t
    have := dst_len p t
    rw [dcol, List.length_append]
    omega
def dL (p : Pm) : Nat := (dcol p p.m).length
def dC (p : Pm) (q : Nat) : Int := -(ix (dcol p p.m) q).1 * p.b (ix (dcol p p.m) q).2
def dF (p : Pm) (j q : Nat) : Int := (ix (dcol p p.m) q).1 * p.a (ix (dcol p p.m) q).2 j
/-- A right-hand side that is too large for a dual. -/
def bgB (p : Pm) : Nat → Bool
  | 0 => false
  | t + 1 => bgB p t || (decide (p.b t < -1048576) || decide (1048576 < p.b t))
theorem dl_at (p : Pm) {t q : Nat} (ht : t < p.m) (hq : q < (dst p t).length) : ix (dcol p p.m) ((dcol p t).length + q) = ix (dst p t) q := by
  obtain ⟨r, hr⟩ := dcol_pre p (t := t + 1) (m := p.m) ht
  rw [hr, dcol, List.append_assoc]
  rw [ix_eq (by simp; omega), ix_eq hq, List.getElem_append_right (by omega), List.getElem_append_left (by omega)]
  congr 1
  omega
theorem dC_at (p : Pm) {t q : Nat} {s : Int} (ht : t < p.m) (hq : q < (dst p t).length) (h : ix (dst p t) q = (s, t)) : dC p ((dcol p t).length + q) = -s * p.b t := by
  unfold dC; rw [dl_at p ht hq, h]
theorem dF_at (p : Pm) {t q : Nat} {s : Int} (ht : t < p.m) (hq : q < (dst p t).length) (h : ix (dst p t) q = (s, t)) (j : Nat) : dF p j ((dcol p t).length + q) = s * p.a t j := by
  unfold dF; rw [dl_at p ht hq, h]
theorem ix_mid (l : List (Int × Nat)) (x : Int × Nat) (r : List (Int × Nat)) : ix (l ++ [x] ++ r) l.length = x := by
  rw [ix_eq (by simp)]
  simp
inductive DualR (p : Pm) : SV → List Ob → Prop
  | ok (oc : Nat) (cps : Nat → Nat) (hv : vPm p = true) (hm : 0 < p.m) (h : ¬ (6 < p.n ∨ 12 < dL p)) (hb : bgB p p.m = false) (hoc : dL p ≤ oc) (hcp : ∀ j, j < p.n → dL p ≤ cps j) :
    DualR p (.t [.a [.s 3 0 0 (dL p) oc 1, .s 4 0 0 p.n p.n 3], .v (.int .i64 0)]) (obP p ++ [oI (dL p) oc (dC p), oRws 5 p.n (dL p) cps p.co, oFmD p.n (dL p) cps (dF p)])
  | bad (e : Int) (h : (vPm p = false ∧ e = 1) ∨ (vPm p = true ∧ p.m = 0 ∧ e = 14) ∨ (vPm p = true ∧ 0 < p.m ∧ (6 < p.n ∨ 12 < dL p) ∧ e = 4) ∨ (vPm p = true ∧ 0 < p.m ∧ ¬ (6 < p.n ∨ 12 < dL p) ∧ bgB p p.m = true ∧ e = 5)) : DualR p (.t [.a [.v (.slice none 0 0), .v (.slice none 0 0)], .v (.int .i64 e)]) (obP p)
set_option maxHeartbeats 16000000 in
theorem dual_sp (p : Pm) (hin : vPm p = true → PmOk p) (hl : ∀ t, t < p.m → p.ln t ≤ 1000000) (hn : p.n ≤ 1000000) (hm : p.m ≤ 1000000) : Sp Try.prog 36 [svP p] (obP p) (DualR p) := by
  have hva := valid_pu p hl hn hm
  have hbig := big_eq
  refine sp_weak ?_
  refine sp_of_ex true [] mixed Try.call36 Try.func36 rfl Try.ntmps36 Try.results36 (by decide +kernel) rfl ?_
  simp only [push_cast, ↓branch_true, ↓branch_false, Nat.reduceBEq, Nat.reduceAdd, Nat.reduceMul, Nat.reduceSub, Int.reduceToNat, reduceCtorEq, branch_decide, branch_not, branch_beq, branch_bne, Int.reduceAdd, Int.reduceEq, Int.reduceLE, Int.reduceLT, Nat.reduceLT, Nat.reduceLeDiff, false_imp_iff, true_imp_iff]
  refine sp_call hva rfl [0, 1, 2] rfl (by (simp only [push_cast, ↓branch_true, ↓branch_false, Nat.reduceBEq, Nat.reduceAdd, Nat.reduceMul, Nat.reduceSub, Int.reduceToNat, reduceCtorEq, branch_decide, branch_not, branch_beq, branch_bne, Int.reduceAdd, Int.reduceEq, Int.reduceLE, Int.reduceLT, Nat.reduceLT, Nat.reduceLeDiff, false_imp_iff, true_imp_iff])) (by (simp only [push_cast, ↓branch_true, ↓branch_false, Nat.reduceBEq, Nat.reduceAdd, Nat.reduceMul, Nat.reduceSub, Int.reduceToNat, reduceCtorEq, branch_decide, branch_not, branch_beq, branch_bne, Int.reduceAdd, Int.reduceEq, Int.reduceLE, Int.reduceLT, Nat.reduceLT, Nat.reduceLeDiff, false_imp_iff, true_imp_iff])) ?_
  simp only [push_cast, ↓branch_true, ↓branch_false, Nat.reduceBEq, Nat.reduceAdd, Nat.reduceMul, Nat.reduceSub, Int.reduceToNat, reduceCtorEq, branch_decide, branch_not, branch_beq, branch_bne, Int.reduceAdd, Int.reduceEq, Int.reduceLE, Int.reduceLT, Nat.reduceLT, Nat.reduceLeDiff, false_imp_iff, true_imp_iff]
  simp only [branch]
  cases hv : vPm p with
  | false =>
    simp only [push_cast, ↓branch_true, ↓branch_false, Nat.reduceBEq, Nat.reduceAdd, Nat.reduceMul, Nat.reduceSub, Int.reduceToNat, reduceCtorEq, branch_decide, branch_not, branch_beq, branch_bne, Int.reduceAdd, Int.reduceEq, Int.reduceLE, Int.reduceLT, Nat.reduceLT, Nat.reduceLeDiff, false_imp_iff, true_imp_iff]
    refine ⟨_, _, [0, 1, 2], ?_, by kernel_rfl, ?_, .bad 1 (.inl ⟨hv, rfl⟩)⟩
    · simp only [push_cast, ↓branch_true, ↓branch_false, Nat.reduceBEq, Nat.reduceAdd, Nat.reduceMul, Nat.reduceSub, Int.reduceToNat, reduceCtorEq, branch_decide, branch_not, branch_beq, branch_bne, Int.reduceAdd, Int.reduceEq, Int.reduceLE, Int.reduceLT, Nat.reduceLT, Nat.reduceLeDiff, false_imp_iff, true_imp_iff]
    · simp only [push_cast, ↓branch_true, ↓branch_false, Nat.reduceBEq, Nat.reduceAdd, Nat.reduceMul, Nat.reduceSub, Int.reduceToNat, reduceCtorEq, branch_decide, branch_not, branch_beq, branch_bne, Int.reduceAdd, Int.reduceEq, Int.reduceLE, Int.reduceLT, Nat.reduceLT, Nat.reduceLeDiff, false_imp_iff, true_imp_iff]
  | true =>
  have hp := hin hv
  have hnp := hp.n
  have hmp := hp.m
  simp only [push_cast, ↓branch_true, ↓branch_false, Nat.reduceBEq, Nat.reduceAdd, Nat.reduceMul, Nat.reduceSub, Int.reduceToNat, reduceCtorEq, branch_decide, branch_not, branch_beq, branch_bne, Int.reduceAdd, Int.reduceEq, Int.reduceLE, Int.reduceLT, Nat.reduceLT, Nat.reduceLeDiff, false_imp_iff, true_imp_iff]
  refine ⟨fun h1 => ?_, fun h1 => ?_⟩
  · refine ⟨_, _, [0, 1, 2], ?_, by kernel_rfl, ?_, .bad 14 (.inr (.inl ⟨hv, by omega, rfl⟩))⟩
    · simp only [push_cast, ↓branch_true, ↓branch_false, Nat.reduceBEq, Nat.reduceAdd, Nat.reduceMul, Nat.reduceSub, Int.reduceToNat, reduceCtorEq, branch_decide, branch_not, branch_beq, branch_bne, Int.reduceAdd, Int.reduceEq, Int.reduceLE, Int.reduceLT, Nat.reduceLT, Nat.reduceLeDiff, false_imp_iff, true_imp_iff]
    · simp only [push_cast, ↓branch_true, ↓branch_false, Nat.reduceBEq, Nat.reduceAdd, Nat.reduceMul, Nat.reduceSub, Int.reduceToNat, reduceCtorEq, branch_decide, branch_not, branch_beq, branch_bne, Int.reduceAdd, Int.reduceEq, Int.reduceLE, Int.reduceLT, Nat.reduceLT, Nat.reduceLeDiff, false_imp_iff, true_imp_iff]
  repeat (with_reducible refine And.intro (by omega) ?_)
  refine tr_loop mixed (by kernel_rfl) (fun (j : Nat) => [(28, .v (.int .i64 j)), (27, .v (.int .i64 p.n)), (26, .s 0 0 0 p.n p.nc 1), (4, .p 6 0 0), (2, .p 4 0 0), (1, .p 3 0 0)])
    (fun j => obP p ++ [oBx p, ⟨25, false, .st [.v (.slice none 0 0), .v (.slice none 0 0)]⟩, ⟨45, false, .row 3 1 (fun _ => p.n) (fun _ => p.n) (fun _ q => [.v (.slice none 0 0), .v (.int .i64 (bif decide (q < j) then 1 else 0)), .v (.int .i64 (bif decide (q < j) then p.co q else 0))])⟩, ⟨25, false, .st [.v (.slice none 0 0), .s 5 0 0 p.n p.n 3]⟩])
    (fun j => j ≤ p.n) (fun j => p.n - j) 0 (Nat.zero_le _) (Mt.wk (rl := [0, 1, 2, 3, 4, 5, 6]) ⟨by kernel_rfl, ?_, ?_⟩) ?_
  · simp only [push_cast, ↓branch_true, ↓branch_false, Nat.reduceBEq, Nat.reduceAdd, Nat.reduceMul, Nat.reduceSub, Int.reduceToNat, reduceCtorEq, branch_decide, branch_not, branch_beq, branch_bne, Int.reduceAdd, Int.reduceEq, Int.reduceLE, Int.reduceLT, Nat.reduceLT, Nat.reduceLeDiff, false_imp_iff, true_imp_iff]
  · simp only [push_cast, ↓branch_true, ↓branch_false, Nat.reduceBEq, Nat.reduceAdd, Nat.reduceMul, Nat.reduceSub, Int.reduceToNat, reduceCtorEq, branch_decide, branch_not, branch_beq, branch_bne, Int.reduceAdd, Int.reduceEq, Int.reduceLE, Int.reduceLT, Nat.reduceLT, Nat.reduceLeDiff, false_imp_iff, true_imp_iff]
    intro i _ k _
    rw [decide_eq_false (Nat.not_lt_zero k)]
    exact ⟨rfl, rfl⟩
  intro j hj
  simp only [push_cast, ↓branch_true, ↓branch_false, Nat.reduceBEq, Nat.reduceAdd, Nat.reduceMul, Nat.reduceSub, Int.reduceToNat, reduceCtorEq, branch_decide, branch_not, branch_beq, branch_bne, Int.reduceAdd, Int.reduceEq, Int.reduceLE, Int.reduceLT, Nat.reduceLT, Nat.reduceLeDiff, false_imp_iff, true_imp_iff]
  refine ⟨fun h2 => ?_, fun h2 => ?_⟩
  · have hjn : j < p.n := by omega
    repeat (with_reducible refine And.intro (by omega) ?_)
    refine lpK_normal (j + 1) [0, 1, 2, 3, 4, 5, 6] (by omega) (by omega) (by kernel_rfl) ?_ ?_
    · simp only [push_cast, ↓branch_true, ↓branch_false, Nat.reduceBEq, Nat.reduceAdd, Nat.reduceMul, Nat.reduceSub, Int.reduceToNat, reduceCtorEq, branch_decide, branch_not, branch_beq, branch_bne, Int.reduceAdd, Int.reduceEq, Int.reduceLE, Int.reduceLT, Nat.reduceLT, Nat.reduceLeDiff, false_imp_iff, true_imp_iff]
    · simp only [push_cast, ↓branch_true, ↓branch_false, Nat.reduceBEq, Nat.reduceAdd, Nat.reduceMul, Nat.reduceSub, Int.reduceToNat, reduceCtorEq, branch_decide, branch_not, branch_beq, branch_bne, Int.reduceAdd, Int.reduceEq, Int.reduceLE, Int.reduceLT, Nat.reduceLT, Nat.reduceLeDiff, false_imp_iff, true_imp_iff]
      intro i hi k hk
      obtain rfl : i = 0 := by omega
      by_cases e : k = j
      · subst e
        rw [beq_self_eq_true, beq_self_eq_true, decide_eq_true (Nat.lt_succ_self k)]
        simp only [push_cast, ↓branch_true, ↓branch_false, Nat.reduceBEq, Nat.reduceAdd, Nat.reduceMul, Nat.reduceSub, Int.reduceToNat, reduceCtorEq, branch_decide, branch_not, branch_beq, branch_bne, Int.reduceAdd, Int.reduceEq, Int.reduceLE, Int.reduceLT, Nat.reduceLT, Nat.reduceLeDiff, false_imp_iff, true_imp_iff]
      · rw [beq_eq_false_iff_ne.2 e, Bool.and_false, show decide (k < j + 1) = decide (k < j) by rw [decide_eq_decide]; omega]
        simp only [push_cast, ↓branch_true, ↓branch_false, Nat.reduceBEq, Nat.reduceAdd, Nat.reduceMul, Nat.reduceSub, Int.reduceToNat, reduceCtorEq, branch_decide, branch_not, branch_beq, branch_bne, Int.reduceAdd, Int.reduceEq, Int.reduceLE, Int.reduceLT, Nat.reduceLT, Nat.reduceLeDiff, false_imp_iff, true_imp_iff]
  obtain rfl : j = p.n := by omega
  repeat (with_reducible refine And.intro (by omega) ?_)
  refine tr_loop mixed (by kernel_rfl) (fun (x : Nat × Nat × (Nat → Nat)) => [(44, .v (.int .i64 x.1)), (43, .v (.int .i64 p.m)), (42, .s 1 0 0 p.m p.mc 3), (8, .v (.bool (bgB p x.1))), (7, .f (.func 87) [] [.p 6 0 0]), (4, .p 6 0 0), (2, .p 4 0 0), (1, .p 3 0 0)])
    (fun x => obP p ++ [oBx p, ⟨25, false, .st [.v (.slice none 0 0), .v (.slice none 0 0)]⟩, oRws 8 p.n (dcol p x.1).length x.2.2 p.co, oOut 7 (dcol p x.1).length x.2.1 p.n, oI (dcol p x.1).length x.2.1 (dC p), oFmD p.n (dcol p x.1).length x.2.2 (dF p)])
    (fun x => x.1 ≤ p.m ∧ (dcol p x.1).length ≤ x.2.1 ∧ ∀ j, j < p.n → (dcol p x.1).length ≤ x.2.2 j) (fun x => p.m - x.1) (0, 0, fun _ => 0) ⟨Nat.zero_le _, Nat.le_refl _, fun j hj => Nat.le_refl _⟩ (Mt.wk (rl := [0, 1, 2, 3, 4, 5, 6, 1000, 1001]) ⟨by kernel_rfl, ?_, ?_⟩) ?_
  · simp only [push_cast, ↓branch_true, ↓branch_false, Nat.reduceBEq, Nat.reduceAdd, Nat.reduceMul, Nat.reduceSub, Int.reduceToNat, reduceCtorEq, branch_decide, branch_not, branch_beq, branch_bne, Int.reduceAdd, Int.reduceEq, Int.reduceLE, Int.reduceLT, Nat.reduceLT, Nat.reduceLeDiff, false_imp_iff, true_imp_iff]
    rfl
  · simp only [push_cast, ↓branch_true, ↓branch_false, Nat.reduceBEq, Nat.reduceAdd, Nat.reduceMul, Nat.reduceSub, Int.reduceToNat, reduceCtorEq, branch_decide, branch_not, branch_beq, branch_bne, Int.reduceAdd, Int.reduceEq, Int.reduceLE, Int.reduceLT, Nat.reduceLT, Nat.reduceLeDiff, false_imp_iff, true_imp_iff]
    refine ⟨fun i _ k hk => ?_, rfl, .inl rfl, .inr fun i => ?_⟩
    · rw [decide_eq_true hk]
      exact ⟨rfl, rfl, rfl⟩
    · cases decide (i < p.n) <;> rfl
  rintro ⟨t, oc, cps⟩ ⟨g1, g2, g3⟩
  simp only at g1 g2 g3
  have hdl := dcol_len p t
  simp only [push_cast, ↓branch_true, ↓branch_false, Nat.reduceBEq, Nat.reduceAdd, Nat.reduceMul, Nat.reduceSub, Int.reduceToNat, reduceCtorEq, branch_decide, branch_not, branch_beq, branch_bne, Int.reduceAdd, Int.reduceEq, Int.reduceLE, Int.reduceLT, Nat.reduceLT, Nat.reduceLeDiff, false_imp_iff, true_imp_iff]
  refine ⟨fun h3 => ?_, fun h3 => ?_⟩
  · have htm : t < p.m := by omega
    repeat (with_reducible refine And.intro (by omega) ?_)
    have hbg : bgB p (t + 1) = (bgB p t || (decide (p.b t < -1048576) || decide (1048576 < p.b t))) := rfl
    have hdt : (dcol p (t + 1)).length = (dcol p t).length + (dst p t).length := by rw [dcol, List.length_append]
    rcases hp.kd t htm with k | k | k
    · have hds : dst p t = [(-1, t)] := by unfold dst; rw [k]; rfl
      rw [hds] at hdt
      have hdt : (dcol p (t + 1)).length = (dcol p t).length + 1 := hdt
      simp only [push_cast, ↓branch_true, ↓branch_false, Nat.reduceBEq, Nat.reduceAdd, Nat.reduceMul, Nat.reduceSub, Int.reduceToNat, reduceCtorEq, branch_decide, branch_not, branch_beq, branch_bne, Int.reduceAdd, Int.reduceEq, Int.reduceLE, Int.reduceLT, Nat.reduceLT, Nat.reduceLeDiff, false_imp_iff, true_imp_iff, k]
      simp only [branch]
      refine ⟨fun c1 => ?f1a, fun c1 => ⟨fun c2 => ?f2a, fun c2 => ?f3a⟩⟩
      case' f1a => have hw : bgB p (t + 1) = true := by rw [hbg, c1]; rfl
      case' f2a => have hw : bgB p (t + 1) = true := by rw [hbg, decide_eq_true c2]; simp
      case' f3a => have hw : bgB p (t + 1) = decide (1048576 < p.b t) := by rw [hbg, c1, decide_eq_false c2, Bool.false_or, Bool.false_or]
      all_goals
        refine sp_at (add_sp p hp t htm (-1) (.inr rfl) (dcol p t).length oc cps (dC p) (dF p) (by omega) g2 g3 (dC_at p htm (q := 0) (by rw [hds]; simp) (by rw [hds]; rfl)) (fun j _ => dF_at p htm (q := 0) (by rw [hds]; simp) (by rw [hds]; rfl) j)) [0, 1, 2, 6, 7, 5, 8] (by kernel_rfl) ?_ ?_ ?_
        · simp only [push_cast, ↓branch_true, ↓branch_false, Nat.reduceBEq, Nat.reduceAdd, Nat.reduceMul, Nat.reduceSub, Int.reduceToNat, reduceCtorEq, branch_decide, branch_not, branch_beq, branch_bne, Int.reduceAdd, Int.reduceEq, Int.reduceLE, Int.reduceLT, Nat.reduceLT, Nat.reduceLeDiff, false_imp_iff, true_imp_iff, k]
        · simp only [push_cast, ↓branch_true, ↓branch_false, Nat.reduceBEq, Nat.reduceAdd, Nat.reduceMul, Nat.reduceSub, Int.reduceToNat, reduceCtorEq, branch_decide, branch_not, branch_beq, branch_bne, Int.reduceAdd, Int.reduceEq, Int.reduceLE, Int.reduceLT, Nat.reduceLT, Nat.reduceLeDiff, false_imp_iff, true_imp_iff]
        rintro _ _ ⟨rfl, oc2, cps2, q1, q2, rfl⟩
        simp only [push_cast, ↓branch_true, ↓branch_false, Nat.reduceBEq, Nat.reduceAdd, Nat.reduceMul, Nat.reduceSub, Int.reduceToNat, reduceCtorEq, branch_decide, branch_not, branch_beq, branch_bne, Int.reduceAdd, Int.reduceEq, Int.reduceLE, Int.reduceLT, Nat.reduceLT, Nat.reduceLeDiff, false_imp_iff, true_imp_iff, k]
        repeat (with_reducible refine And.intro (by omega) ?_)
        refine lpK_normal (t + 1, oc2, cps2) [0, 1, 2, 3, 4, 5, 6, 10, 11] ⟨by simp only; omega, by simp only [hdt]; exact q1, by simp only [hdt]; exact q2⟩ (by simp only; omega) (by kernel_rfl) ?_ ?_
        · simp only [push_cast, ↓branch_true, ↓branch_false, Nat.reduceBEq, Nat.reduceAdd, Nat.reduceMul, Nat.reduceSub, Int.reduceToNat, reduceCtorEq, branch_decide, branch_not, branch_beq, branch_bne, Int.reduceAdd, Int.reduceEq, Int.reduceLE, Int.reduceLT, Nat.reduceLT, Nat.reduceLeDiff, false_imp_iff, true_imp_iff, hw]
        · simp only [push_cast, ↓branch_true, ↓branch_false, Nat.reduceBEq, Nat.reduceAdd, Nat.reduceMul, Nat.reduceSub, Int.reduceToNat, reduceCtorEq, branch_decide, branch_not, branch_beq, branch_bne, Int.reduceAdd, Int.reduceEq, Int.reduceLE, Int.reduceLT, Nat.reduceLT, Nat.reduceLeDiff, false_imp_iff, true_imp_iff, hdt]
    · have hds : dst p t = [(1, t)] := by unfold dst; rw [k]; rfl
      rw [hds] at hdt
      have hdt : (dcol p (t + 1)).length = (dcol p t).length + 1 := hdt
      simp only [push_cast, ↓branch_true, ↓branch_false, Nat.reduceBEq, Nat.reduceAdd, Nat.reduceMul, Nat.reduceSub, Int.reduceToNat, reduceCtorEq, branch_decide, branch_not, branch_beq, branch_bne, Int.reduceAdd, Int.reduceEq, Int.reduceLE, Int.reduceLT, Nat.reduceLT, Nat.reduceLeDiff, false_imp_iff, true_imp_iff, k]
      simp only [branch]
      refine ⟨fun c1 => ?f1b, fun c1 => ⟨fun c2 => ?f2b, fun c2 => ?f3b⟩⟩
      case' f1b => have hw : bgB p (t + 1) = true := by rw [hbg, c1]; rfl
      case' f2b => have hw : bgB p (t + 1) = true := by rw [hbg, decide_eq_true c2]; simp
      case' f3b => have hw : bgB p (t + 1) = decide (1048576 < p.b t) := by rw [hbg, c1, decide_eq_false c2, Bool.false_or, Bool.false_or]
      all_goals
        refine sp_at (add_sp p hp t htm 1 (.inl rfl) (dcol p t).length oc cps (dC p) (dF p) (by omega) g2 g3 (dC_at p htm (q := 0) (by rw [hds]; simp) (by rw [hds]; rfl)) (fun j _ => dF_at p htm (q := 0) (by rw [hds]; simp) (by rw [hds]; rfl) j)) [0, 1, 2, 6, 7, 5, 8] (by kernel_rfl) ?_ ?_ ?_
        · simp only [push_cast, ↓branch_true, ↓branch_false, Nat.reduceBEq, Nat.reduceAdd, Nat.reduceMul, Nat.reduceSub, Int.reduceToNat, reduceCtorEq, branch_decide, branch_not, branch_beq, branch_bne, Int.reduceAdd, Int.reduceEq, Int.reduceLE, Int.reduceLT, Nat.reduceLT, Nat.reduceLeDiff, false_imp_iff, true_imp_iff, k]
        · simp only [push_cast, ↓branch_true, ↓branch_false, Nat.reduceBEq, Nat.reduceAdd, Nat.reduceMul, Nat.reduceSub, Int.reduceToNat, reduceCtorEq, branch_decide, branch_not, branch_beq, branch_bne, Int.reduceAdd, Int.reduceEq, Int.reduceLE, Int.reduceLT, Nat.reduceLT, Nat.reduceLeDiff, false_imp_iff, true_imp_iff]
        rintro _ _ ⟨rfl, oc2, cps2, q1, q2, rfl⟩
        simp only [push_cast, ↓branch_true, ↓branch_false, Nat.reduceBEq, Nat.reduceAdd, Nat.reduceMul, Nat.reduceSub, Int.reduceToNat, reduceCtorEq, branch_decide, branch_not, branch_beq, branch_bne, Int.reduceAdd, Int.reduceEq, Int.reduceLE, Int.reduceLT, Nat.reduceLT, Nat.reduceLeDiff, false_imp_iff, true_imp_iff, k]
        repeat (with_reducible refine And.intro (by omega) ?_)
        refine lpK_normal (t + 1, oc2, cps2) [0, 1, 2, 3, 4, 5, 6, 10, 11] ⟨by simp only; omega, by simp only [hdt]; exact q1, by simp only [hdt]; exact q2⟩ (by simp only; omega) (by kernel_rfl) ?_ ?_
        · simp only [push_cast, ↓branch_true, ↓branch_false, Nat.reduceBEq, Nat.reduceAdd, Nat.reduceMul, Nat.reduceSub, Int.reduceToNat, reduceCtorEq, branch_decide, branch_not, branch_beq, branch_bne, Int.reduceAdd, Int.reduceEq, Int.reduceLE, Int.reduceLT, Nat.reduceLT, Nat.reduceLeDiff, false_imp_iff, true_imp_iff, hw]
        · simp only [push_cast, ↓branch_true, ↓branch_false, Nat.reduceBEq, Nat.reduceAdd, Nat.reduceMul, Nat.reduceSub, Int.reduceToNat, reduceCtorEq, branch_decide, branch_not, branch_beq, branch_bne, Int.reduceAdd, Int.reduceEq, Int.reduceLE, Int.reduceLT, Nat.reduceLT, Nat.reduceLeDiff, false_imp_iff, true_imp_iff, hdt]
    · have hds : dst p t = [(1, t), (-1, t)] := by unfold dst; rw [k]; rfl
      rw [hds] at hdt
      have hdt : (dcol p (t + 1)).length = (dcol p t).length + 2 := hdt
      simp only [push_cast, ↓branch_true, ↓branch_false, Nat.reduceBEq, Nat.reduceAdd, Nat.reduceMul, Nat.reduceSub, Int.reduceToNat, reduceCtorEq, branch_decide, branch_not, branch_beq, branch_bne, Int.reduceAdd, Int.reduceEq, Int.reduceLE, Int.reduceLT, Nat.reduceLT, Nat.reduceLeDiff, false_imp_iff, true_imp_iff, k]
      simp only [branch]
      refine ⟨fun c1 => ?f1c, fun c1 => ⟨fun c2 => ?f2c, fun c2 => ?f3c⟩⟩
      case' f1c => have hw : bgB p (t + 1) = true := by rw [hbg, c1]; rfl
      case' f2c => have hw : bgB p (t + 1) = true := by rw [hbg, decide_eq_true c2]; simp
      case' f3c => have hw : bgB p (t + 1) = decide (1048576 < p.b t) := by rw [hbg, c1, decide_eq_false c2, Bool.false_or, Bool.false_or]
      all_goals
        refine sp_at (add_sp p hp t htm 1 (.inl rfl) (dcol p t).length oc cps (dC p) (dF p) (by omega) g2 g3 (dC_at p htm (q := 0) (by rw [hds]; simp) (by rw [hds]; rfl)) (fun j _ => dF_at p htm (q := 0) (by rw [hds]; simp) (by rw [hds]; rfl) j)) [0, 1, 2, 6, 7, 5, 8] (by kernel_rfl) ?_ ?_ ?_
        · simp only [push_cast, ↓branch_true, ↓branch_false, Nat.reduceBEq, Nat.reduceAdd, Nat.reduceMul, Nat.reduceSub, Int.reduceToNat, reduceCtorEq, branch_decide, branch_not, branch_beq, branch_bne, Int.reduceAdd, Int.reduceEq, Int.reduceLE, Int.reduceLT, Nat.reduceLT, Nat.reduceLeDiff, false_imp_iff, true_imp_iff, k]
        · simp only [push_cast, ↓branch_true, ↓branch_false, Nat.reduceBEq, Nat.reduceAdd, Nat.reduceMul, Nat.reduceSub, Int.reduceToNat, reduceCtorEq, branch_decide, branch_not, branch_beq, branch_bne, Int.reduceAdd, Int.reduceEq, Int.reduceLE, Int.reduceLT, Nat.reduceLT, Nat.reduceLeDiff, false_imp_iff, true_imp_iff]
        rintro _ _ ⟨rfl, oc2, cps2, q1, q2, rfl⟩
        simp only [push_cast, ↓branch_true, ↓branch_false, Nat.reduceBEq, Nat.reduceAdd, Nat.reduceMul, Nat.reduceSub, Int.reduceToNat, reduceCtorEq, branch_decide, branch_not, branch_beq, branch_bne, Int.reduceAdd, Int.reduceEq, Int.reduceLE, Int.reduceLT, Nat.reduceLT, Nat.reduceLeDiff, false_imp_iff, true_imp_iff, k]
        refine sp_at (add_sp p hp t htm (-1) (.inr rfl) ((dcol p t).length + 1) oc2 cps2 (dC p) (dF p) (by omega) q1 q2 (dC_at p htm (q := 1) (by rw [hds]; simp) (by rw [hds]; rfl)) (fun j _ => dF_at p htm (q := 1) (by rw [hds]; simp) (by rw [hds]; rfl) j)) [0, 1, 2, 6, 10, 5, 11] (by kernel_rfl) ?_ ?_ ?_
        · simp only [push_cast, ↓branch_true, ↓branch_false, Nat.reduceBEq, Nat.reduceAdd, Nat.reduceMul, Nat.reduceSub, Int.reduceToNat, reduceCtorEq, branch_decide, branch_not, branch_beq, branch_bne, Int.reduceAdd, Int.reduceEq, Int.reduceLE, Int.reduceLT, Nat.reduceLT, Nat.reduceLeDiff, false_imp_iff, true_imp_iff, k]
        · simp only [push_cast, ↓branch_true, ↓branch_false, Nat.reduceBEq, Nat.reduceAdd, Nat.reduceMul, Nat.reduceSub, Int.reduceToNat, reduceCtorEq, branch_decide, branch_not, branch_beq, branch_bne, Int.reduceAdd, Int.reduceEq, Int.reduceLE, Int.reduceLT, Nat.reduceLT, Nat.reduceLeDiff, false_imp_iff, true_imp_iff]
        rintro _ _ ⟨rfl, oc3, cps3, q3, q4, rfl⟩
        simp only [push_cast, ↓branch_true, ↓branch_false, Nat.reduceBEq, Nat.reduceAdd, Nat.reduceMul, Nat.reduceSub, Int.reduceToNat, reduceCtorEq, branch_decide, branch_not, branch_beq, branch_bne, Int.reduceAdd, Int.reduceEq, Int.reduceLE, Int.reduceLT, Nat.reduceLT, Nat.reduceLeDiff, false_imp_iff, true_imp_iff, k]
        repeat (with_reducible refine And.intro (by omega) ?_)
        refine lpK_normal (t + 1, oc3, cps3) [0, 1, 2, 3, 4, 5, 6, 12, 13] ⟨by simp only; omega, by simp only [hdt]; exact q3, by simp only [hdt]; exact q4⟩ (by simp only; omega) (by kernel_rfl) ?_ ?_
        · simp only [push_cast, ↓branch_true, ↓branch_false, Nat.reduceBEq, Nat.reduceAdd, Nat.reduceMul, Nat.reduceSub, Int.reduceToNat, reduceCtorEq, branch_decide, branch_not, branch_beq, branch_bne, Int.reduceAdd, Int.reduceEq, Int.reduceLE, Int.reduceLT, Nat.reduceLT, Nat.reduceLeDiff, false_imp_iff, true_imp_iff, hw]
        · simp only [push_cast, ↓branch_true, ↓branch_false, Nat.reduceBEq, Nat.reduceAdd, Nat.reduceMul, Nat.reduceSub, Int.reduceToNat, reduceCtorEq, branch_decide, branch_not, branch_beq, branch_bne, Int.reduceAdd, Int.reduceEq, Int.reduceLE, Int.reduceLT, Nat.reduceLT, Nat.reduceLeDiff, false_imp_iff, true_imp_iff, hdt]
  obtain rfl : t = p.m := by omega
  repeat (with_reducible refine And.intro (by omega) ?_)
  have hL : (dcol p p.m).length = dL p := rfl
  rw [hL] at g2 g3
  refine ⟨fun c1 => ?_, fun c1 => ⟨fun c2 => ?_, fun c2 => ?_⟩⟩
  · refine ⟨_, _, [0, 1, 2], ?_, by kernel_rfl, ?_, .bad 4 (.inr (.inr (.inl ⟨hv, by omega, .inl (by omega), rfl⟩)))⟩
    · simp only [push_cast, ↓branch_true, ↓branch_false, Nat.reduceBEq, Nat.reduceAdd, Nat.reduceMul, Nat.reduceSub, Int.reduceToNat, reduceCtorEq, branch_decide, branch_not, branch_beq, branch_bne, Int.reduceAdd, Int.reduceEq, Int.reduceLE, Int.reduceLT, Nat.reduceLT, Nat.reduceLeDiff, false_imp_iff, true_imp_iff]
    · simp only [push_cast, ↓branch_true, ↓branch_false, Nat.reduceBEq, Nat.reduceAdd, Nat.reduceMul, Nat.reduceSub, Int.reduceToNat, reduceCtorEq, branch_decide, branch_not, branch_beq, branch_bne, Int.reduceAdd, Int.reduceEq, Int.reduceLE, Int.reduceLT, Nat.reduceLT, Nat.reduceLeDiff, false_imp_iff, true_imp_iff]
  · refine ⟨_, _, [0, 1, 2], ?_, by kernel_rfl, ?_, .bad 4 (.inr (.inr (.inl ⟨hv, by omega, .inr (by omega), rfl⟩)))⟩
    · simp only [push_cast, ↓branch_true, ↓branch_false, Nat.reduceBEq, Nat.reduceAdd, Nat.reduceMul, Nat.reduceSub, Int.reduceToNat, reduceCtorEq, branch_decide, branch_not, branch_beq, branch_bne, Int.reduceAdd, Int.reduceEq, Int.reduceLE, Int.reduceLT, Nat.reduceLT, Nat.reduceLeDiff, false_imp_iff, true_imp_iff]
    · simp only [push_cast, ↓branch_true, ↓branch_false, Nat.reduceBEq, Nat.reduceAdd, Nat.reduceMul, Nat.reduceSub, Int.reduceToNat, reduceCtorEq, branch_decide, branch_not, branch_beq, branch_bne, Int.reduceAdd, Int.reduceEq, Int.reduceLE, Int.reduceLT, Nat.reduceLT, Nat.reduceLeDiff, false_imp_iff, true_imp_iff]
  simp only [branch]
  refine ⟨fun c3 => ?_, fun c3 => ?_⟩
  · refine ⟨_, _, [0, 1, 2], ?_, by kernel_rfl, ?_, .bad 5 (.inr (.inr (.inr ⟨hv, by omega, by omega, c3, rfl⟩)))⟩
    · simp only [push_cast, ↓branch_true, ↓branch_false, Nat.reduceBEq, Nat.reduceAdd, Nat.reduceMul, Nat.reduceSub, Int.reduceToNat, reduceCtorEq, branch_decide, branch_not, branch_beq, branch_bne, Int.reduceAdd, Int.reduceEq, Int.reduceLE, Int.reduceLT, Nat.reduceLT, Nat.reduceLeDiff, false_imp_iff, true_imp_iff]
    · simp only [push_cast, ↓branch_true, ↓branch_false, Nat.reduceBEq, Nat.reduceAdd, Nat.reduceMul, Nat.reduceSub, Int.reduceToNat, reduceCtorEq, branch_decide, branch_not, branch_beq, branch_bne, Int.reduceAdd, Int.reduceEq, Int.reduceLE, Int.reduceLT, Nat.reduceLT, Nat.reduceLeDiff, false_imp_iff, true_imp_iff]
  · refine ⟨_, _, [0, 1, 2, 7, 5, 8], ?_, by kernel_rfl, ?_, .ok oc cps hv (by omega) (by omega) c3 g2 g3⟩
    · simp only [push_cast, ↓branch_true, ↓branch_false, Nat.reduceBEq, Nat.reduceAdd, Nat.reduceMul, Nat.reduceSub, Int.reduceToNat, reduceCtorEq, branch_decide, branch_not, branch_beq, branch_bne, Int.reduceAdd, Int.reduceEq, Int.reduceLE, Int.reduceLT, Nat.reduceLT, Nat.reduceLeDiff, false_imp_iff, true_imp_iff, hL]
    · simp only [push_cast, ↓branch_true, ↓branch_false, Nat.reduceBEq, Nat.reduceAdd, Nat.reduceMul, Nat.reduceSub, Int.reduceToNat, reduceCtorEq, branch_decide, branch_not, branch_beq, branch_bne, Int.reduceAdd, Int.reduceEq, Int.reduceLE, Int.reduceLT, Nat.reduceLT, Nat.reduceLeDiff, false_imp_iff, true_imp_iff, hL]
end Go.Proofs.Ytmefgachdnlaoaa
