/- CuttingMore: the walk. -/
import Derived.Test.YthlpfjcjfhdmaaaMB
import Derived.Test.YthlpfjcjfhdmaaaR
set_option maxRecDepth 100000
set_option linter.unusedSimpArgs false
set_option linter.unusedVariables false
namespace Go.Proofs.Ythlpfjcjfhdmaaa
open Go.RowKit
theorem givR_eq (lim : Int) (l : List Pc) : givR lim l = givE lim l := by
  unfold givR givE gapB
  repeat' split
  all_goals first | rfl | omega
theorem many_few {n : Nat} {l : List Pc} {p : List Pt} (h : manyB n l p = false) (h2 : l.length ≤ 200) : l.length ≤ 12 := by
  simp only [manyB, Bool.or_eq_false_iff, decide_eq_false_iff_not] at h
  omega
theorem mul9 {a t : Int} (h0 : 0 ≤ a) (h1 : a ≤ 1048576) (ht : 1 ≤ t ∧ t ≤ 9) : 0 ≤ a * t ∧ a * t ≤ 9437184 := by
  refine ⟨Int.mul_nonneg h0 (by omega), ?_⟩
  have := Int.mul_le_mul h1 ht.2 (by omega) (by decide)
  omega
/-- The first k lengths are multiplied. -/
def scH (t : Int) (l : List Pc) (k : Nat) : List Pc := (List.range l.length).map fun q => if q < k then ⟨(ix l q).len * t, (ix l q).cnt⟩ else ix l q
theorem scH_len (t : Int) (l : List Pc) (k : Nat) : (scH t l k).length = l.length := by simp [scH]
theorem scH_ix {t : Int} {l : List Pc} {k q : Nat} (h : q < l.length) : ix (scH t l k) q = if q < k then ⟨(ix l q).len * t, (ix l q).cnt⟩ else ix l q := by
  rw [ix_eq (by rw [scH_len]; exact h)]; simp [scH]
theorem scH_end (t : Int) (l : List Pc) : scH t l l.length = scP t l := by
  apply List.ext_getElem
  · rw [scH_len, scP_len]
  · intro i h1 h2
    rw [← ix_eq h1, ← ix_eq h2, scP_ix (by rwa [scP_len] at h2), scH_ix (by rwa [scP_len] at h2), if_pos (by rwa [scP_len] at h2)]
set_option maxHeartbeats 4000000 in
theorem cmore_sp (l : List Pc) (lim mo by_ : Int) (c : Nat) (hmo : 0 ≤ mo ∧ mo ≤ 4294967295) (hby : 0 ≤ by_ ∧ by_ ≤ 255) : Sp Try.prog 4 [.v (.int .i64 lim), .s 0 0 0 l.length c 2, .v (.int .u32 mo), .v (.int .u8 by_)] [rPc l] (fun r _ => r = .v (.bool true)) := by
  refine sp_of_ex true [(8, .one 0 (.one 2 (.one 3 (.one 4 (.one 5 (.one 6 (.one 7 (.alt [(1, .one 8 (.one 9 (.one 10 .fin))), (8, .one 1 (.one 9 (.one 10 .fin)))]))))))))] mixed Try.call4 Try.func4 rfl Try.ntmps4 Try.results4 (by decide +kernel) rfl ?_
  simp only [push_cast, ↓branch_true, ↓branch_false, Nat.reduceBEq, Nat.reduceAdd, Nat.reduceMul, Nat.reduceSub, Int.reduceToNat, reduceCtorEq, branch_decide, branch_not, branch_beq, branch_bne]
  refine sp_at awake_sp [] rfl ?_ ?_ ?_
  · simp only [push_cast, ↓branch_true, ↓branch_false, Nat.reduceBEq, Nat.reduceAdd, Nat.reduceMul, Nat.reduceSub, Int.reduceToNat, reduceCtorEq, branch_decide, branch_not, branch_beq, branch_bne]
  · simp only [push_cast, ↓branch_true, ↓branch_false, Nat.reduceBEq, Nat.reduceAdd, Nat.reduceMul, Nat.reduceSub, Int.reduceToNat, reduceCtorEq, branch_decide, branch_not, branch_beq, branch_bne]
  rintro _ _ ⟨rfl, rfl⟩
  simp only [push_cast, ↓branch_true, ↓branch_false, Nat.reduceBEq, Nat.reduceAdd, Nat.reduceMul, Nat.reduceSub, Int.reduceToNat, reduceCtorEq, branch_decide, branch_not, branch_beq, branch_bne]
  have hm := many_pu [] l [] (fun _ => 0) 0 0 c 0 (fun _ => []) (by decide)
  refine sp_call hm rfl [1000, 0, 1001, 1002] rfl ?_ ?_ ?_
  · simp only [push_cast, ↓branch_true, ↓branch_false, Nat.reduceBEq, Nat.reduceAdd, Nat.reduceMul, Nat.reduceSub, Int.reduceToNat, reduceCtorEq, branch_decide, branch_not, branch_beq, branch_bne]
  · simp only [push_cast, ↓branch_true, ↓branch_false, Nat.reduceBEq, Nat.reduceAdd, Nat.reduceMul, Nat.reduceSub, Int.reduceToNat, reduceCtorEq, branch_decide, branch_not, branch_beq, branch_bne]
    omega
  cases hmb : manyB 0 l [] with
  | true =>
    simp only [push_cast, ↓branch_true, ↓branch_false, Nat.reduceBEq, Nat.reduceAdd, Nat.reduceMul, Nat.reduceSub, Int.reduceToNat, reduceCtorEq, branch_decide, branch_not, branch_beq, branch_bne]
  | false =>
  simp only [push_cast, ↓branch_true, ↓branch_false, Nat.reduceBEq, Nat.reduceAdd, Nat.reduceMul, Nat.reduceSub, Int.reduceToNat, reduceCtorEq, branch_decide, branch_not, branch_beq, branch_bne]
  have hl0 := (many_no hmb).2.1
  refine sp_call (rgiven_pu lim l c (by omega)) rfl [0] rfl (by simp only [push_cast, ↓branch_true, ↓branch_false, Nat.reduceBEq, Nat.reduceAdd, Nat.reduceMul, Nat.reduceSub, Int.reduceToNat, reduceCtorEq, branch_decide, branch_not, branch_beq, branch_bne]) (by simp only [push_cast, ↓branch_true, ↓branch_false, Nat.reduceBEq, Nat.reduceAdd, Nat.reduceMul, Nat.reduceSub, Int.reduceToNat, reduceCtorEq, branch_decide, branch_not, branch_beq, branch_bne]) ?_
  simp only [push_cast, ↓branch_true, ↓branch_false, Nat.reduceBEq, Nat.reduceAdd, Nat.reduceMul, Nat.reduceSub, Int.reduceToNat, reduceCtorEq, branch_decide, branch_not, branch_beq, branch_bne]
  rw [givR_eq]
  intro hg
  obtain ⟨ho, hm1, hm2, hm3⟩ := givE_0 hg
  have hll := many_few hmb (order_len ho)
  refine sp_call (pieces_pu l c ho) rfl [0] rfl (by simp only [push_cast, ↓branch_true, ↓branch_false, Nat.reduceBEq, Nat.reduceAdd, Nat.reduceMul, Nat.reduceSub, Int.reduceToNat, reduceCtorEq, branch_decide, branch_not, branch_beq, branch_bne]) (by simp only [push_cast, ↓branch_true, ↓branch_false, Nat.reduceBEq, Nat.reduceAdd, Nat.reduceMul, Nat.reduceSub, Int.reduceToNat, reduceCtorEq, branch_decide, branch_not, branch_beq, branch_bne]) ?_
  simp only [push_cast, ↓branch_true, ↓branch_false, Nat.reduceBEq, Nat.reduceAdd, Nat.reduceMul, Nat.reduceSub, Int.reduceToNat, reduceCtorEq, branch_decide, branch_not, branch_beq, branch_bne]
  intro h7
  have hE := lst_zero ho hm1 hm2 hm3 (show cntL l ≤ 10 by omega)
  have e1 := lst_len hE
  refine sp_at (least_sp l lim c (by omega)) [0] rfl ?_ ?_ ?_
  · simp only [push_cast, ↓branch_true, ↓branch_false, Nat.reduceBEq, Nat.reduceAdd, Nat.reduceMul, Nat.reduceSub, Int.reduceToNat, reduceCtorEq, branch_decide, branch_not, branch_beq, branch_bne]
  · simp only [push_cast, ↓branch_true, ↓branch_false, Nat.reduceBEq, Nat.reduceAdd, Nat.reduceMul, Nat.reduceSub, Int.reduceToNat, reduceCtorEq, branch_decide, branch_not, branch_beq, branch_bne]
  rintro _ _ ⟨oc, cp, g1, g2, rfl, rfl⟩
  simp only [push_cast, ↓branch_true, ↓branch_false, Nat.reduceBEq, Nat.reduceAdd, Nat.reduceMul, Nat.reduceSub, Int.reduceToNat, reduceCtorEq, branch_decide, branch_not, branch_beq, branch_bne]
  rw [hE]
  simp only [push_cast, ↓branch_true, ↓branch_false, Nat.reduceBEq, Nat.reduceAdd, Nat.reduceMul, Nat.reduceSub, Int.reduceToNat, reduceCtorEq, branch_decide, branch_not, branch_beq, branch_bne]
  repeat (with_reducible refine And.intro (by omega) ?_)
  have q1 := Int.tmod_nonneg (a := mo) lim hmo.1
  have q2 := Int.tmod_lt_of_pos mo (b := lim) (by omega)
  generalize mo.tmod lim = y at *
  obtain ⟨x, hx⟩ : ∃ x : Pc, x = ⟨1 + y, 1⟩ := ⟨_, rfl⟩
  have hxm : 1 ≤ x.len ∧ x.len ≤ lim ∧ x.cnt = 1 := by
    rw [hx]
    show 1 ≤ 1 + y ∧ 1 + y ≤ lim ∧ (1 : Int) = 1
    exact ⟨by omega, by omega, rfl⟩
  have hln : (l ++ [x]).length = l.length + 1 := by simp
  have ho2 := order_app ho hll hxm.1 (by omega) hxm.2.2
  have hm4 : ∀ k, k < (l ++ [x]).length → (ix (l ++ [x]) k).len ≤ lim := fun k hk => by
    by_cases e : k = l.length
    · subst e; rw [ix_app_last]; omega
    · rw [ix_app_ne e]; exact hm3 k (by omega)
  have hE2 := lst_zero ho2 hm1 hm2 hm4 (by rw [cnt_app]; omega)
  have e2 := lst_len hE2
  have h8 := opt_app ho hm3 hxm.1 hxm.2.1 hxm.2.2
  have hlr : l.reverse.length = l.length := List.length_reverse
  have hm5 : ∀ k, k < l.reverse.length → (ix l.reverse k).len ≤ lim := fun k hk => by rw [ix_revP (by omega)]; exact hm3 _ (by omega)
  have hE3 := lst_zero (order_rev ho) hm1 hm2 hm5 (by rw [cnt_rev]; omega)
  have e3 := lst_len hE3
  rw [opt_rev ho hm3] at e3
  obtain ⟨t, ht⟩ : ∃ t : Int, t = 1 + by_.tmod 9 := ⟨_, rfl⟩
  have htm : 1 ≤ t ∧ t ≤ 9 := by
    have q1 := Int.tmod_nonneg (a := by_) 9 hby.1
    have q2 := Int.tmod_lt_of_pos by_ (b := 9) (by omega)
    omega
  repeat' (with_reducible (first | apply And.intro | intro _))
  all_goals try omega
  all_goals
    refine sp_at (cloneP_sp l c (by omega)) [0] rfl ?_ ?_ ?_
    · simp only [push_cast, ↓branch_true, ↓branch_false, Nat.reduceBEq, Nat.reduceAdd, Nat.reduceMul, Nat.reduceSub, Int.reduceToNat, reduceCtorEq, branch_decide, branch_not, branch_beq, branch_bne]
    · simp only [push_cast, ↓branch_true, ↓branch_false, Nat.reduceBEq, Nat.reduceAdd, Nat.reduceMul, Nat.reduceSub, Int.reduceToNat, reduceCtorEq, branch_decide, branch_not, branch_beq, branch_bne]
    rintro _ _ ⟨cap2, hcap2, rfl, rfl⟩
    simp only [push_cast, ↓branch_true, ↓branch_false, Nat.reduceBEq, Nat.reduceAdd, Nat.reduceMul, Nat.reduceSub, Int.reduceToNat, reduceCtorEq, branch_decide, branch_not, branch_beq, branch_bne]
    repeat (with_reducible refine And.intro (by omega) ?_)
    refine Or.inr ?_
    repeat (with_reducible refine And.intro (by omega) ?_)
    intro c5 hc5
    have hlx := least_sp (l ++ [x]) lim c5 (by omega)
    rw [hln] at hlx
    refine sp_at hlx [5] rfl ?_ ?_ ?_
    · simp only [push_cast, ↓branch_true, ↓branch_false, Nat.reduceBEq, Nat.reduceAdd, Nat.reduceMul, Nat.reduceSub, Int.reduceToNat, reduceCtorEq, branch_decide, branch_not, branch_beq, branch_bne]
    · simp only [push_cast, ↓branch_true, ↓branch_false, Nat.reduceBEq, Nat.reduceAdd, Nat.reduceMul, Nat.reduceSub, Int.reduceToNat, reduceCtorEq, branch_decide, branch_not, branch_beq, branch_bne, hln]
      intro i1 hi1 q hq
      by_cases e : q < l.length
      · have hb : decide (q < l.length) = true := by simpa using e
        rw [ix_app_ne (by omega), hb]
        exact ⟨rfl, rfl, trivial⟩
      · obtain rfl : q = l.length := by omega
        have hb : decide (l.length < l.length) = false := by simp
        rw [ix_app_last, hb, hx]
        exact ⟨rfl, rfl, trivial⟩
    rintro _ _ ⟨oc2, cp2, g3, g4, rfl, rfl⟩
    simp only [push_cast, ↓branch_true, ↓branch_false, Nat.reduceBEq, Nat.reduceAdd, Nat.reduceMul, Nat.reduceSub, Int.reduceToNat, reduceCtorEq, branch_decide, branch_not, branch_beq, branch_bne]
    refine sp_at (cloneP_sp l c (by omega)) [0] rfl ?_ ?_ ?_
    · simp only [push_cast, ↓branch_true, ↓branch_false, Nat.reduceBEq, Nat.reduceAdd, Nat.reduceMul, Nat.reduceSub, Int.reduceToNat, reduceCtorEq, branch_decide, branch_not, branch_beq, branch_bne]
    · simp only [push_cast, ↓branch_true, ↓branch_false, Nat.reduceBEq, Nat.reduceAdd, Nat.reduceMul, Nat.reduceSub, Int.reduceToNat, reduceCtorEq, branch_decide, branch_not, branch_beq, branch_bne]
    rintro _ _ ⟨cap3, hcap3, rfl, rfl⟩
    simp only [push_cast, ↓branch_true, ↓branch_false, Nat.reduceBEq, Nat.reduceAdd, Nat.reduceMul, Nat.reduceSub, Int.reduceToNat, reduceCtorEq, branch_decide, branch_not, branch_beq, branch_bne]
    refine sp_at (revPc_sp l cap3 (by omega) hcap3) [8] rfl ?_ ?_ ?_
    · simp only [push_cast, ↓branch_true, ↓branch_false, Nat.reduceBEq, Nat.reduceAdd, Nat.reduceMul, Nat.reduceSub, Int.reduceToNat, reduceCtorEq, branch_decide, branch_not, branch_beq, branch_bne]
    · simp only [push_cast, ↓branch_true, ↓branch_false, Nat.reduceBEq, Nat.reduceAdd, Nat.reduceMul, Nat.reduceSub, Int.reduceToNat, reduceCtorEq, branch_decide, branch_not, branch_beq, branch_bne]
    rintro _ _ ⟨rfl, rfl⟩
    simp only [push_cast, ↓branch_true, ↓branch_false, Nat.reduceBEq, Nat.reduceAdd, Nat.reduceMul, Nat.reduceSub, Int.reduceToNat, reduceCtorEq, branch_decide, branch_not, branch_beq, branch_bne]
    have hls := least_sp l.reverse lim cap3 (by omega)
    rw [hlr] at hls
    refine sp_at hls [8] rfl ?_ ?_ ?_
    · simp only [push_cast, ↓branch_true, ↓branch_false, Nat.reduceBEq, Nat.reduceAdd, Nat.reduceMul, Nat.reduceSub, Int.reduceToNat, reduceCtorEq, branch_decide, branch_not, branch_beq, branch_bne]
    · simp only [push_cast, ↓branch_true, ↓branch_false, Nat.reduceBEq, Nat.reduceAdd, Nat.reduceMul, Nat.reduceSub, Int.reduceToNat, reduceCtorEq, branch_decide, branch_not, branch_beq, branch_bne, hlr]
    rintro _ _ ⟨oc4, cp4, g5, g6, rfl, rfl⟩
    simp only [push_cast, ↓branch_true, ↓branch_false, Nat.reduceBEq, Nat.reduceAdd, Nat.reduceMul, Nat.reduceSub, Int.reduceToNat, reduceCtorEq, branch_decide, branch_not, branch_beq, branch_bne]
    rw [hE2, hE3, e1, e2, e3]
    simp only [push_cast, ↓branch_true, ↓branch_false, Nat.reduceBEq, Nat.reduceAdd, Nat.reduceMul, Nat.reduceSub, Int.reduceToNat, reduceCtorEq, branch_decide, branch_not, branch_beq, branch_bne]
    repeat (with_reducible refine And.intro (by omega) ?_)
    intro _
    refine ⟨fun h => absurd h (by omega), fun _ => ⟨by omega, fun h => absurd h (by omega), fun _ _ _ => ⟨by omega, by decide, by omega, ?_⟩⟩⟩
    refine sp_at (cloneP_sp l c (by omega)) [0] rfl ?_ ?_ ?_
    · simp only [push_cast, ↓branch_true, ↓branch_false, Nat.reduceBEq, Nat.reduceAdd, Nat.reduceMul, Nat.reduceSub, Int.reduceToNat, reduceCtorEq, branch_decide, branch_not, branch_beq, branch_bne]
    · simp only [push_cast, ↓branch_true, ↓branch_false, Nat.reduceBEq, Nat.reduceAdd, Nat.reduceMul, Nat.reduceSub, Int.reduceToNat, reduceCtorEq, branch_decide, branch_not, branch_beq, branch_bne]
    rintro _ _ ⟨cap4, hcap4, rfl, rfl⟩
    simp only [push_cast, ↓branch_true, ↓branch_false, Nat.reduceBEq, Nat.reduceAdd, Nat.reduceMul, Nat.reduceSub, Int.reduceToNat, reduceCtorEq, branch_decide, branch_not, branch_beq, branch_bne]
    rw [← ht]
    refine tr_loop mixed (by kernel_rfl) (fun (k : Nat) => [(108, .v (.int .i64 k)), (107, .v (.int .i64 l.length)), (21, .s 1 0 0 l.length cap4 2), (20, .v (.int .i64 t)), (0, .v (.int .i64 lim)), (9, .v (.int .i64 (optO lim l)))])
      (fun k => [rPc l, rPO (scH t l k) cap4]) (fun k => k ≤ l.length) (fun k => l.length - k) 0 (Nat.zero_le _) (Mt.wk (rl := [0, 11]) ⟨by kernel_rfl, ?_, ?_⟩) ?_
    · simp only [push_cast, ↓branch_true, ↓branch_false, Nat.reduceBEq, Nat.reduceAdd, Nat.reduceMul, Nat.reduceSub, Int.reduceToNat, reduceCtorEq, branch_decide, branch_not, branch_beq, branch_bne]
    · simp only [push_cast, ↓branch_true, ↓branch_false, Nat.reduceBEq, Nat.reduceAdd, Nat.reduceMul, Nat.reduceSub, Int.reduceToNat, reduceCtorEq, branch_decide, branch_not, branch_beq, branch_bne, scH_len]
      intro _ _ k hk
      rw [scH_ix hk, if_neg (by omega)]
      exact ⟨rfl, rfl⟩
    intro k hk
    simp only [push_cast, ↓branch_true, ↓branch_false, Nat.reduceBEq, Nat.reduceAdd, Nat.reduceMul, Nat.reduceSub, Int.reduceToNat, reduceCtorEq, branch_decide, branch_not, branch_beq, branch_bne, scH_len]
    have hlt := mul9 (show 0 ≤ lim by omega) hm2 htm
    refine ⟨fun h => ?_, fun h => ?_⟩
    · have hk1 : k < l.length := by omega
      obtain ⟨b1, b2, b3, b4⟩ := order_at ho hk1
      have b5 := mul9 (show 0 ≤ (ix l k).len by omega) b2 htm
      rw [scH_ix hk1, if_neg (by omega)]
      repeat (with_reducible refine And.intro (by omega) ?_)
      refine lpK_normal (k + 1) [0, 1] (by omega) (by omega) (by kernel_rfl) ?_ ?_
      · simp only [push_cast, ↓branch_true, ↓branch_false, Nat.reduceBEq, Nat.reduceAdd, Nat.reduceMul, Nat.reduceSub, Int.reduceToNat, reduceCtorEq, branch_decide, branch_not, branch_beq, branch_bne]
      · simp only [push_cast, ↓branch_true, ↓branch_false, Nat.reduceBEq, Nat.reduceAdd, Nat.reduceMul, Nat.reduceSub, Int.reduceToNat, reduceCtorEq, branch_decide, branch_not, branch_beq, branch_bne, scH_len]
        intro i9 hi9 q hq
        obtain rfl : i9 = 0 := by omega
        rw [scH_ix hq, scH_ix hq]
        by_cases e : q = k
        · subst e
          rw [if_pos (by omega), if_neg (by omega)]
          have hb : (q == q) = true := by simp
          rw [hb]
          simp [mrgL, mtL]
        · have hb : (q == k) = false := by simpa using e
          rw [hb]
          by_cases e2 : q < k
          · rw [if_pos e2, if_pos (by omega)]
            simp [mrgL, mtL]
          · rw [if_neg e2, if_neg (by omega)]
            simp [mrgL, mtL]
    obtain rfl : k = l.length := by omega
    refine ⟨by omega, ?_⟩
    have hlq := least_sp (scP t l) (lim * t) cap4 (by rw [scP_len]; omega)
    rw [scP_len] at hlq
    refine sp_at hlq [1] rfl ?_ ?_ ?_
    · simp only [push_cast, ↓branch_true, ↓branch_false, Nat.reduceBEq, Nat.reduceAdd, Nat.reduceMul, Nat.reduceSub, Int.reduceToNat, reduceCtorEq, branch_decide, branch_not, branch_beq, branch_bne]
    · simp only [push_cast, ↓branch_true, ↓branch_false, Nat.reduceBEq, Nat.reduceAdd, Nat.reduceMul, Nat.reduceSub, Int.reduceToNat, reduceCtorEq, branch_decide, branch_not, branch_beq, branch_bne, scH_len, scP_len]
      intro _ _ q hq
      rw [scH_ix hq, if_pos hq, scP_ix hq]
      exact ⟨rfl, rfl⟩
    rintro _ _ ⟨oc5, cp5, g7, g8, rfl, rfl⟩
    simp only [push_cast, ↓branch_true, ↓branch_false, Nat.reduceBEq, Nat.reduceAdd, Nat.reduceMul, Nat.reduceSub, Int.reduceToNat, reduceCtorEq, branch_decide, branch_not, branch_beq, branch_bne]
    by_cases h9 : lstE (lim * t) (scP t l) = 0
    · refine ⟨fun _ h => absurd ?_ h, fun h => absurd h9 h⟩
      rw [lst_len h9, opt_scale htm.1]
    · refine ⟨fun h => absurd h h9, fun _ => ⟨fun h => absurd h h9, fun _ => ⟨by omega, ?_⟩⟩⟩
      rw [decide_eq_true]
      refine Int.not_le.1 fun h => h9 ?_
      obtain ⟨o1, o2⟩ := order_scale htm.1 ho hm3 h
      have h10 := Int.mul_le_mul (show (1 : Int) ≤ lim by omega) htm.1 (by decide) (by omega)
      exact lst_zero o1 (by omega) h o2 (by rw [cnt_scale]; omega)
end Go.Proofs.Ythlpfjcjfhdmaaa
