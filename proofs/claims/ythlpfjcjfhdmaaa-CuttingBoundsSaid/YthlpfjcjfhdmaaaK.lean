/- Contracts: the reference's Greedy. -/
import Derived.Test.YthlpfjcjfhdmaaaJ
set_option maxRecDepth 100000
set_option linter.unusedSimpArgs false
set_option linter.unusedVariables false
namespace Go.Proofs.Ythlpfjcjfhdmaaa
open Go.RowKit
def oOp (F : Nat) (o : List Br) (cp : Nat → Nat) (oc : Nat) : Ob := ⟨89, false, .row 3 1 (fun _ => o.length) (fun _ => oc) (fun _ k => cBr F o cp k)⟩
def oPq (F : Nat) (out : List Pt) (q : Nat → Nat) (cp : Nat → Nat) (oc : Nat) : Ob := ⟨50, false, .row 3 1 (fun _ => out.length) (fun _ => oc) (fun _ k => [.v (.int .i64 (ix out k).stock), .s F (q k) 0 (ix out k).ps.length (cp (q k)) 1, .v (.int .i64 (ix out k).times)])⟩
attribute [push_cast] oOp oPq
def rErr (s l : List Pc) : Int := if 1000 < cntL l then 4 else if gA s l = none then 22 else 0
def rRes (s l : List Pc) : List Pt := if rErr s l = 0 then patL ((gA s l).getD (g0 s)).1 else []
def cntsL (l : List Pc) (k : Nat) : List Int := (l.take k).map Pc.cnt
theorem cntsL_succ {l : List Pc} {k : Nat} (h : k < l.length) : cntsL l (k + 1) = cntsL l k ++ [(ix l k).cnt] := by
  unfold cntsL
  rw [take_snoc h, List.map_append]; rfl
theorem cntsL_len {l : List Pc} {k : Nat} (h : k ≤ l.length) : (cntsL l k).length = k := by simp [cntsL]; omega
theorem left_0 {l : List Pc} (ho : orderB l = true) : LeftIs l 0 (cntsL l l.length) := by
  refine ⟨cntsL_len (Nat.le_refl _), fun i hi => ?_⟩
  have h2 := order_at ho hi
  rw [List.drop_zero, long_count hi]
  unfold cntsL
  rw [List.take_length, ix_eq (by simpa using hi), List.getElem_map, ← ix_eq hi]
  omega
set_option maxHeartbeats 4000000 in
theorem rgreedy_sp (s l : List Pc) (c c2 : Nat) (hvs : stB s = true) (hvo : orderB l = true) : Sp Try.prog 16 [.s 0 0 0 s.length c 2, .s 1 0 0 l.length c2 2] [rSt s, rPc l]
    (fun r H => ∃ oc cp q G, (rRes s l).length ≤ oc ∧ (∀ k, k < (rRes s l).length → q k < big + 2 ∧ G (q k) = (ix (rRes s l) k).ps) ∧ r = .t [.s 2 0 0 (rRes s l).length oc 3, .v (.int .i64 (rErr s l))] ∧ H = [rSt s, rPc l, oPq 3 (rRes s l) q cp oc, oFm cp G]) := by
  have key : ∀ e σH, σH.length ≤ 900 → rErr s l = e → e ≠ 0 → ∃ r H2 rl, mt rl r (.t [.v (.slice none 0 0), .v (.int .i64 e)]) ∧ (keepB 0 rl 2 && nodupB (liveL rl H2) && Nat.beq rl.length H2.length) = true ∧ obsM rl ([rSt s, rPc l] ++ σH) rl H2 ∧ ∃ oc cp q G, (rRes s l).length ≤ oc ∧ (∀ k, k < (rRes s l).length → q k < big + 2 ∧ G (q k) = (ix (rRes s l) k).ps) ∧ r = .t [.s 2 0 0 (rRes s l).length oc 3, .v (.int .i64 (rErr s l))] ∧ H2 = [rSt s, rPc l, oPq 3 (rRes s l) q cp oc, oFm cp G] := by
    intro e σH hσ he h0
    have e1 : rRes s l = [] := if_neg (by omega)
    rw [e1, he]
    refine ⟨_, _, [0, 1, 1000, 1001], ?_, by kernel_rfl, ?_, 0, fun _ => 0, fun _ => 0, fun _ => [], Nat.le_refl _, fun k hk => absurd hk (Nat.not_lt_zero _), rfl, rfl⟩
    · simp only [push_cast, ↓branch_true, ↓branch_false, Nat.reduceBEq, Nat.reduceAdd, Nat.reduceMul, Nat.reduceSub, Int.reduceToNat, reduceCtorEq, branch_decide, branch_not, branch_beq, branch_bne]
    · simp only [push_cast, ↓branch_true, ↓branch_false, Nat.reduceBEq, Nat.reduceAdd, Nat.reduceMul, Nat.reduceSub, Int.reduceToNat, reduceCtorEq, branch_decide, branch_not, branch_beq, branch_bne]
      rw [obAt_out (show σH.length ≤ 998 by omega), obAt_out (show σH.length ≤ 999 by omega)]
      simp only [push_cast, ↓branch_true, ↓branch_false, Nat.reduceBEq, Nat.reduceAdd, Nat.reduceMul, Nat.reduceSub, Int.reduceToNat, reduceCtorEq, branch_decide, branch_not, branch_beq, branch_bne]
      repeat' (first | with_reducible apply And.intro | omega | exact Or.inr fun _ => rfl)
  have hsl := (stB_yes.1 hvs).1
  have hll := order_len hvo
  have hbig := big_eq
  refine sp_weak ?_
  refine sp_of_ex true [(22, .one 0 (.one 1 (.one 2 (.one 3 (.one 4 (.one 5 (.one 7 (.one 8 (.alt [(6, .one 9 (.one 10 (.one 11 (.one 12 (.one 13 .fin))))), (9, .one 6 (.one 10 (.one 11 (.one 12 (.one 13 .fin)))))]))))))))), (30, .jn (.one 0 (.one 1 (.one 2 (.one 3 (.one 5 (.one 6 (.one 7 (.one 8 (.alt [(4, .alt [(9, .one 10 (.one 11 (.one 12 .fin))), (11, .one 9 (.one 10 (.one 12 .fin)))]), (9, .alt [(4, .one 10 (.one 11 (.one 12 .fin))), (11, .one 4 (.one 10 (.one 12 .fin)))]), (11, .alt [(4, .one 9 (.one 10 (.one 12 .fin))), (9, .one 4 (.one 10 (.one 12 .fin)))])]))))))))))] mixed Try.call16 Try.func16 rfl Try.ntmps16 Try.results16 (by decide +kernel) rfl ?_
  simp only [push_cast, ↓branch_true, ↓branch_false, Nat.reduceBEq, Nat.reduceAdd, Nat.reduceMul, Nat.reduceSub, Int.reduceToNat, reduceCtorEq, branch_decide, branch_not, branch_beq, branch_bne]
  refine sp_call (pieces_pu l c2 hvo) rfl [1] rfl (by simp only [push_cast, ↓branch_true, ↓branch_false, Nat.reduceBEq, Nat.reduceAdd, Nat.reduceMul, Nat.reduceSub, Int.reduceToNat, reduceCtorEq, branch_decide, branch_not, branch_beq, branch_bne]) (by simp only [push_cast, ↓branch_true, ↓branch_false, Nat.reduceBEq, Nat.reduceAdd, Nat.reduceMul, Nat.reduceSub, Int.reduceToNat, reduceCtorEq, branch_decide, branch_not, branch_beq, branch_bne]) ?_
  simp only [push_cast, ↓branch_true, ↓branch_false, Nat.reduceBEq, Nat.reduceAdd, Nat.reduceMul, Nat.reduceSub, Int.reduceToNat, reduceCtorEq, branch_decide, branch_not, branch_beq, branch_bne]
  refine ⟨fun hc => ?_, fun hc => ?_⟩
  · exact key 4 [] (by simp) (if_pos hc) (by decide)
  have hcl := long_len hvo
  have hgE : rErr s l = if gA s l = none then 22 else 0 := if_neg hc
  refine tr_loop mixed (by kernel_rfl) (fun (x : Nat × Nat) => [(7, .v (.int .i64 x.1)), (6, .s 2 0 0 (cntsL l x.1).length x.2 1), (0, .s 0 0 0 s.length c 2), (1, .s 1 0 0 l.length c2 2)])
    (fun x => [rSt s, rPc l, rIO (cntsL l x.1) x.2]) (fun x => x.1 ≤ l.length ∧ x.1 ≤ x.2) (fun x => l.length - x.1) (0, 0) ⟨Nat.zero_le _, Nat.le_refl _⟩ (Mt.wk (rl := [0, 1, 2]) ⟨by kernel_rfl, ?_, ?_⟩) ?_
  · simp only [push_cast, ↓branch_true, ↓branch_false, Nat.reduceBEq, Nat.reduceAdd, Nat.reduceMul, Nat.reduceSub, Int.reduceToNat, reduceCtorEq, branch_decide, branch_not, branch_beq, branch_bne]
    simp [cntsL]
  · simp only [push_cast, ↓branch_true, ↓branch_false, Nat.reduceBEq, Nat.reduceAdd, Nat.reduceMul, Nat.reduceSub, Int.reduceToNat, reduceCtorEq, branch_decide, branch_not, branch_beq, branch_bne]
    simp [cntsL]
  rintro ⟨k, cap⟩ ⟨h1, h2⟩
  simp only at h1 h2
  have hrl := cntsL_len h1
  simp only [push_cast, ↓branch_true, ↓branch_false, Nat.reduceBEq, Nat.reduceAdd, Nat.reduceMul, Nat.reduceSub, Int.reduceToNat, reduceCtorEq, branch_decide, branch_not, branch_beq, branch_bne]
  refine ⟨fun h => ?_, fun h => ?_⟩
  · repeat (with_reducible refine And.intro (by omega) ?_)
    refine Or.inr ?_
    repeat (with_reducible refine And.intro (by omega) ?_)
    intro cap2 hcap2
    repeat (with_reducible refine And.intro (by omega) ?_)
    refine lpK_normal (k + 1, cap2) [0, 1, 4] ⟨by simp only; omega, by simp only; omega⟩ (by simp only; omega) (by kernel_rfl) ?_ ?_
    · simp only [push_cast, ↓branch_true, ↓branch_false, Nat.reduceBEq, Nat.reduceAdd, Nat.reduceMul, Nat.reduceSub, Int.reduceToNat, reduceCtorEq, branch_decide, branch_not, branch_beq, branch_bne, cntsL_succ (show k < l.length by omega), List.length_append]
    · simp only [push_cast, ↓branch_true, ↓branch_false, Nat.reduceBEq, Nat.reduceAdd, Nat.reduceMul, Nat.reduceSub, Int.reduceToNat, reduceCtorEq, branch_decide, branch_not, branch_beq, branch_bne]
      exact fun i hi => app_int (cntsL_succ (by omega)) _
  obtain rfl : k = l.length := by omega
  repeat (with_reducible refine And.intro (by omega) ?_)
  have hL0 := left_0 hvo
  refine sp_call (rlong_pu l (cntsL l l.length) c2 cap hll hrl) rfl [1, 2] rfl ?_ ?_ ?_
  · simp only [push_cast, ↓branch_true, ↓branch_false, Nat.reduceBEq, Nat.reduceAdd, Nat.reduceMul, Nat.reduceSub, Int.reduceToNat, reduceCtorEq, branch_decide, branch_not, branch_beq, branch_bne]
  · simp only [push_cast, ↓branch_true, ↓branch_false, Nat.reduceBEq, Nat.reduceAdd, Nat.reduceMul, Nat.reduceSub, Int.reduceToNat, reduceCtorEq, branch_decide, branch_not, branch_beq, branch_bne]
  rw [rl_head hll hL0]
  simp only [push_cast, ↓branch_true, ↓branch_false, Nat.reduceBEq, Nat.reduceAdd, Nat.reduceMul, Nat.reduceSub, Int.reduceToNat, reduceCtorEq, branch_decide, branch_not, branch_beq, branch_bne]
  refine tr_loop mixed (by kernel_rfl) (fun (x : Nat × List Br × List Int × Nat × (Nat → Nat) × List Int) => [(10, .v (.int .i64 (headZ l x.1))), (6, .s 2 0 0 l.length cap 1), (8, .s 3 0 0 s.length s.length 1), (9, .s 4 0 0 x.2.1.length x.2.2.2.1 3), (0, .s 0 0 0 s.length c 2), (1, .s 1 0 0 l.length c2 2)])
    (fun x => [rSt s, rPc l, rOwn 3 l.length cap (fun k => ix x.2.2.2.2.2 k), rOwn 3 s.length s.length (fun k => ix x.2.2.1 k), oOp 5 x.2.1 x.2.2.2.2.1 x.2.2.2.1, oFm x.2.2.2.2.1 (fmB x.2.1)])
    (fun x => x.1 ≤ (longL l).length ∧ gT s l x.1 = some (x.2.1, x.2.2.1) ∧ x.2.1.length ≤ x.2.2.2.1 ∧ (∀ k, x.2.1.length ≤ k → x.2.2.2.2.1 k = 0) ∧ LeftIs l x.1 x.2.2.2.2.2) (fun x => (longL l).length - x.1) (0, [], zeros s.length, 0, fun _ => 0, cntsL l l.length) ⟨Nat.zero_le _, rfl, Nat.le_refl _, fun _ _ => rfl, hL0⟩ (Mt.wk (rl := [0, 1, 2, 3, 4, 5]) ⟨by kernel_rfl, ?_, ?_⟩) ?_
  · simp only [push_cast, ↓branch_true, ↓branch_false, Nat.reduceBEq, Nat.reduceAdd, Nat.reduceMul, Nat.reduceSub, Int.reduceToNat, reduceCtorEq, branch_decide, branch_not, branch_beq, branch_bne, hrl]
  · simp only [push_cast, ↓branch_true, ↓branch_false, Nat.reduceBEq, Nat.reduceAdd, Nat.reduceMul, Nat.reduceSub, Int.reduceToNat, reduceCtorEq, branch_decide, branch_not, branch_beq, branch_bne, hrl]
    simp only [zeros_ix]
    exact ⟨by simp, by omega, Or.inr fun _ => rfl⟩
  rintro ⟨k, o, u, oc, cp, f⟩ ⟨h1, h2, h3, h4, h5⟩
  simp only at h1 h2 h3 h4 h5
  have hok := gT_ok hvs hvo k h1 _ h2
  obtain ⟨hul, hus, hol, hbar⟩ := hok
  simp only at hul hus hol hbar
  simp only [push_cast, ↓branch_true, ↓branch_false, Nat.reduceBEq, Nat.reduceAdd, Nat.reduceMul, Nat.reduceSub, Int.reduceToNat, reduceCtorEq, branch_decide, branch_not, branch_beq, branch_bne]
  refine ⟨fun h => ?_, fun h => ?_⟩
  rotate_left
  · have hke : k = (longL l).length := by
      unfold headZ at h
      split at h
      · have := longL_mem (ix_mem (l := longL l) (k := k) (by omega)); omega
      · omega
    subst hke
    rw [gT_all] at h2
    rw [if_neg (by rw [h2]; simp)] at hgE
    have hR : rRes s l = patL o := by rw [rRes, if_pos hgE, h2]; rfl
    rw [hR, hgE]
    have hp : ∀ b ∈ o, b.ps.length ≤ 200 := fun b hb => by have := hbar b hb; omega
    refine tr_loop mixed (by kernel_rfl) (fun (x : Nat × Nat × (Nat → Nat)) => [(15, .v (.int .i64 x.1)), (14, .s 4 0 0 (patL (o.take x.1)).length x.2.1 3), (9, .s 2 0 0 o.length oc 3)])
      (fun x => [rSt s, rPc l, oOp 3 o cp oc, oFm cp (fmB o), oPq 3 (patL (o.take x.1)) x.2.2 cp x.2.1])
      (fun x => x.1 ≤ o.length ∧ (patL (o.take x.1)).length ≤ x.2.1 ∧ ∀ k, k < (patL (o.take x.1)).length → x.2.2 k < o.length ∧ (ix o (x.2.2 k)).ps = (ix (patL (o.take x.1)) k).ps) (fun x => o.length - x.1) (0, 0, fun _ => 0) ⟨Nat.zero_le _, Nat.le_refl _, fun k hk => absurd hk (Nat.not_lt_zero _)⟩ (Mt.wk (rl := [0, 1, 4, 5, 6]) ⟨by kernel_rfl, ?_, ?_⟩) ?_
    · simp only [push_cast, ↓branch_true, ↓branch_false, Nat.reduceBEq, Nat.reduceAdd, Nat.reduceMul, Nat.reduceSub, Int.reduceToNat, reduceCtorEq, branch_decide, branch_not, branch_beq, branch_bne]
      exact rfl
    · simp only [push_cast, ↓branch_true, ↓branch_false, Nat.reduceBEq, Nat.reduceAdd, Nat.reduceMul, Nat.reduceSub, Int.reduceToNat, reduceCtorEq, branch_decide, branch_not, branch_beq, branch_bne]
      exact Or.inl rfl
    rintro ⟨j, oc2, q⟩ ⟨g1, g2, g3⟩
    simp only at g1 g2 g3
    have hok := patT_ok (Q := fun x => x.length ≤ 200) hp j g1
    have hsu := fun h => patT_succ (o := o) (k := j) h
    generalize hout : patL (o.take j) = out at *
    simp only [push_cast, ↓branch_true, ↓branch_false, Nat.reduceBEq, Nat.reduceAdd, Nat.reduceMul, Nat.reduceSub, Int.reduceToNat, reduceCtorEq, branch_decide, branch_not, branch_beq, branch_bne]
    refine ⟨fun h => ?_, fun h => ?_⟩
    rotate_left
    · obtain rfl : j = o.length := by omega
      rw [List.take_length] at hout
      rw [hout]
      refine ⟨_, _, [0, 1, 4, 3], ?_, by kernel_rfl, ?_, oc2, cp, q, fmB o, g2, fun k hk => ?_, rfl, rfl⟩
      · simp only [push_cast, ↓branch_true, ↓branch_false, Nat.reduceBEq, Nat.reduceAdd, Nat.reduceMul, Nat.reduceSub, Int.reduceToNat, reduceCtorEq, branch_decide, branch_not, branch_beq, branch_bne]
      · simp only [push_cast, ↓branch_true, ↓branch_false, Nat.reduceBEq, Nat.reduceAdd, Nat.reduceMul, Nat.reduceSub, Int.reduceToNat, reduceCtorEq, branch_decide, branch_not, branch_beq, branch_bne]
      · obtain ⟨a, b⟩ := g3 k hk
        exact ⟨by omega, b⟩
    have hj : j < o.length := by omega
    have hsu := hsu hj
    have hol2 := hok.len
    repeat (with_reducible refine And.intro (by omega) ?_)
    refine ⟨[(16, .p 5 0 0), (15, .v (.int .i64 j)), (14, .s 4 0 0 out.length oc2 3), (9, .s 2 0 0 o.length oc 3)], [rSt s, rPc l, oOp 3 o cp oc, oFm cp (fmB o), oPq 3 out q cp oc2, ⟨50, false, .st [.v (.int .i64 (ix o j).kind), .s 3 j 0 (ix o j).ps.length (cp j) 1, .v (.int .i64 1)]⟩], ?_, ?_⟩
    · repeat' (with_reducible apply And.intro)
      all_goals first
        | omega
        | (refine Mt.wk (rl := [0, 1, 2, 3, 4, 5]) ⟨by kernel_rfl, ?_, ?_⟩
           · simp only [push_cast, ↓branch_true, ↓branch_false, Nat.reduceBEq, Nat.reduceAdd, Nat.reduceMul, Nat.reduceSub, Int.reduceToNat, reduceCtorEq, branch_decide, branch_not, branch_beq, branch_bne]
           · simp only [push_cast, ↓branch_true, ↓branch_false, Nat.reduceBEq, Nat.reduceAdd, Nat.reduceMul, Nat.reduceSub, Int.reduceToNat, reduceCtorEq, branch_decide, branch_not, branch_beq, branch_bne]
           )
    simp only [push_cast, ↓branch_true, ↓branch_false, Nat.reduceBEq, Nat.reduceAdd, Nat.reduceMul, Nat.reduceSub, Int.reduceToNat, reduceCtorEq, branch_decide, branch_not, branch_beq, branch_bne, jnK]
    have em : (((out.length : Nat) : Int) - 1).toNat = out.length - 1 := by omega
    refine ⟨fun a1 => ?_, fun a1 => ?_⟩
    case' refine_1 =>
      have hn : out.length - 1 < out.length := by omega
      obtain ⟨q1, q2⟩ := g3 _ hn
      have ht := hok.times _ (ix_mem hn)
      repeat (with_reducible refine And.intro (by omega) ?_)
      rw [em]
      refine ⟨fun a2 => ?_, fun a2 => ?_⟩
      case' refine_1 =>
        repeat (with_reducible refine And.intro (by omega) ?_)
        refine qc_call (requal_pu (big + 2) (big + 2) (fmB o) (fmB o) (q (out.length - 1)) j (cp (q (out.length - 1))) (cp j) (by omega) (by omega) (by have := hp _ (ix_mem q1); simp only [fmB]; omega) (by have := hp _ (ix_mem hj); simp only [fmB]; omega)) rfl [3, 3] rfl ?_ ?_ ?_
        · simp only [push_cast, ↓branch_true, ↓branch_false, Nat.reduceBEq, Nat.reduceAdd, Nat.reduceMul, Nat.reduceSub, Int.reduceToNat, reduceCtorEq, branch_decide, branch_not, branch_beq, branch_bne, q2]
        · simp only [push_cast, ↓branch_true, ↓branch_false, Nat.reduceBEq, Nat.reduceAdd, Nat.reduceMul, Nat.reduceSub, Int.reduceToNat, reduceCtorEq, branch_decide, branch_not, branch_beq, branch_bne]
        simp only [push_cast, ↓branch_true, ↓branch_false, Nat.reduceBEq, Nat.reduceAdd, Nat.reduceMul, Nat.reduceSub, Int.reduceToNat, reduceCtorEq, branch_decide, branch_not, branch_beq, branch_bne, q2]
        refine ⟨fun a3 => ?_, fun a3 => ?_⟩
        case' refine_1 =>
          repeat (with_reducible refine And.intro (by omega) ?_)
          rw [em]
          repeat (with_reducible refine And.intro (by omega) ?_)
          have e1 : addPt out (ix o j) = out.set (out.length - 1) (upPt (ix out (out.length - 1))) := if_pos ⟨by omega, a2, a3⟩
          rw [e1] at hsu
          refine lpK_normal (j + 1, oc2, q) [0, 1, 2, 3, 4] ⟨by simp only; omega, by simp only [hsu, List.length_set]; exact g2, by
            simp only [hsu, List.length_set]
            intro k hk
            by_cases eq : k = out.length - 1
            · subst eq; rw [ix_set_self hn]; exact g3 _ hn
            · rw [ix_set_ne eq]; exact g3 k hk⟩ (by simp only; omega) (by kernel_rfl) ?_ ?_
          · simp only [push_cast, ↓branch_true, ↓branch_false, Nat.reduceBEq, Nat.reduceAdd, Nat.reduceMul, Nat.reduceSub, Int.reduceToNat, reduceCtorEq, branch_decide, branch_not, branch_beq, branch_bne, hsu, List.length_set]
          · simp only [push_cast, ↓branch_true, ↓branch_false, Nat.reduceBEq, Nat.reduceAdd, Nat.reduceMul, Nat.reduceSub, Int.reduceToNat, reduceCtorEq, branch_decide, branch_not, branch_beq, branch_bne, hsu, List.length_set]
            intro x hx k hk
            obtain rfl : x = 0 := by omega
            by_cases eq : k = out.length - 1
            · subst eq
              simp only [push_cast, ↓branch_true, ↓branch_false, Nat.reduceBEq, Nat.reduceAdd, Nat.reduceMul, Nat.reduceSub, Int.reduceToNat, reduceCtorEq, branch_decide, branch_not, branch_beq, branch_bne, ix_set_self hn, upPt]
            · have hb : (k == out.length - 1) = false := by simpa using eq
              simp only [push_cast, ↓branch_true, ↓branch_false, Nat.reduceBEq, Nat.reduceAdd, Nat.reduceMul, Nat.reduceSub, Int.reduceToNat, reduceCtorEq, branch_decide, branch_not, branch_beq, branch_bne, ix_set_ne eq, hb]
    all_goals
      have hno : addPt out (ix o j) = out ++ [⟨(ix o j).kind, (ix o j).ps, 1⟩] := if_neg (by rintro ⟨b1, b2, b3⟩; first | exact a3 b3 | exact a2 b2 | exact a1 (by omega))
      rw [hno] at hsu
      refine ⟨by omega, by omega, Or.inr ?_⟩
      repeat (with_reducible refine And.intro (by omega) ?_)
      intro oc3 hoc3
      repeat (with_reducible refine And.intro (by omega) ?_)
      refine lpK_normal (j + 1, oc3, fun k => bif decide (k < out.length) then q k else j) [0, 1, 2, 3, 7] ⟨by simp only; omega, by simp only [hsu, List.length_append, List.length_cons, List.length_nil]; omega, by
        simp only [hsu, List.length_append, List.length_cons, List.length_nil]
        intro k hk
        by_cases eq : k = out.length
        · subst eq; rw [ix_app_last]; simp [hj]
        · rw [ix_app_ne eq]
          have hb2 : decide (k < out.length) = true := by simp; omega
          rw [hb2]
          exact g3 k (by omega)⟩ (by simp only; omega) (by kernel_rfl) ?_ ?_
      · simp only [push_cast, ↓branch_true, ↓branch_false, Nat.reduceBEq, Nat.reduceAdd, Nat.reduceMul, Nat.reduceSub, Int.reduceToNat, reduceCtorEq, branch_decide, branch_not, branch_beq, branch_bne, hsu, List.length_append]
      · simp only [push_cast, ↓branch_true, ↓branch_false, Nat.reduceBEq, Nat.reduceAdd, Nat.reduceMul, Nat.reduceSub, Int.reduceToNat, reduceCtorEq, branch_decide, branch_not, branch_beq, branch_bne, hsu, List.length_append]
        intro x hx k hk
        by_cases eq : k = out.length
        · subst eq
          have hb2 : decide (out.length < out.length) = false := by simp
          simp only [push_cast, ↓branch_true, ↓branch_false, Nat.reduceBEq, Nat.reduceAdd, Nat.reduceMul, Nat.reduceSub, Int.reduceToNat, reduceCtorEq, branch_decide, branch_not, branch_beq, branch_bne, ix_app_last, hb2]
        · have hb2 : decide (k < out.length) = true := by simp; omega
          simp only [push_cast, ↓branch_true, ↓branch_false, Nat.reduceBEq, Nat.reduceAdd, Nat.reduceMul, Nat.reduceSub, Int.reduceToNat, reduceCtorEq, branch_decide, branch_not, branch_beq, branch_bne, ix_app_ne eq, hb2]
  have hk : k < (longL l).length := by
    unfold headZ at h
    split at h
    · assumption
    · omega
  have hi := longL_mem (ix_mem hk)
  have hsu := gT_succ (s := s) hk
  have hln := left_next h5 hk
  rw [h2, Option.bind_some] at hsu
  have hhd : headZ l k = ix (longL l) k := if_pos hk
  rw [hhd]
  generalize hI : ix (longL l) k = i at *
  have hp := order_at hvo (k := i.toNat) (by omega)
  repeat (with_reducible refine And.intro (by omega) ?_)
  generalize hn : (ix l i.toNat).len = n at *
  have hgs : gst s l i (o, u) = if fitAt n o < o.length then some (o.set (fitAt n o) (cutB i n (ix o (fitAt n o))), u) else if kindT s u n s.length < 0 then none else some (o ++ [cutB i n ⟨kindT s u n s.length, (ix s (kindT s u n s.length).toNat).len, zeros l.length⟩], u.set (kindT s u n s.length).toNat (ix u (kindT s u n s.length).toNat + 1)) := by
    rw [gst]; simp only [hn]
  have hfi : ix f i.toNat = ((((longL l).drop k).count (i : Int) : Nat) : Int) := by have := h5.2 i.toNat (by omega); rwa [Int.toNat_of_nonneg hi.1] at this
  have hfc : ((longL l).drop k).count (i : Int) ≤ (longL l).length := Nat.le_trans List.count_le_length (by rw [List.length_drop]; omega)
  have hfl5 := h5.1
  refine tr_loop0 mixed (by kernel_rfl) (fun (j : Nat) => [(12, .v (.int .i64 j)), (11, .v (.int .i64 n)), (10, .v (.int .i64 i)), (6, .s 2 0 0 l.length cap 1), (8, .s 3 0 0 s.length s.length 1), (9, .s 4 0 0 o.length oc 3), (0, .s 0 0 0 s.length c 2), (1, .s 1 0 0 l.length c2 2)]) (fun j => j ≤ o.length ∧ ∀ q, q < j → (ix o q).left < n) (fun j => o.length - j) 0 ⟨Nat.zero_le _, fun j h => by omega⟩ ?_ ?_
  · simp only [push_cast, ↓branch_true, ↓branch_false, Nat.reduceBEq, Nat.reduceAdd, Nat.reduceMul, Nat.reduceSub, Int.reduceToNat, reduceCtorEq, branch_decide, branch_not, branch_beq, branch_bne]
  rintro j ⟨g1, g2⟩
  simp only [push_cast, ↓branch_true, ↓branch_false, Nat.reduceBEq, Nat.reduceAdd, Nat.reduceMul, Nat.reduceSub, Int.reduceToNat, reduceCtorEq, branch_decide, branch_not, branch_beq, branch_bne]
  refine ⟨fun a1 => ?_, fun a1 => ?_⟩
  · repeat (with_reducible refine And.intro (by omega) ?_)
    refine ⟨fun a2 => ?_, fun a2 => ?_⟩
    · repeat (with_reducible refine And.intro (by omega) ?_)
      refine lp0_normal (j + 1) ⟨by omega, fun q hq => ?_⟩ (by omega) ?_
      · by_cases e : q = j
        · rw [e]; exact a2
        · exact g2 q (by omega)
      · simp only [push_cast, ↓branch_true, ↓branch_false, Nat.reduceBEq, Nat.reduceAdd, Nat.reduceMul, Nat.reduceSub, Int.reduceToNat, reduceCtorEq, branch_decide, branch_not, branch_beq, branch_bne]
    · have hf : fitAt n o = j := fitAt_eq g1 g2 fun _ => by omega
      rw [hf] at hgs
      have hfo : j < o.length := by omega
      rw [if_pos hfo] at hgs
      rw [hgs] at hsu
      obtain ⟨b1, b2, b3, b4, b5, b6⟩ := hbar _ (ix_mem hfo)
      have hb6 := b6 i.toNat (by omega)
      refine ⟨fun h => by omega, fun _ => ?_⟩
      repeat (with_reducible refine And.intro (by omega) ?_)
      refine sp_call (rlong_pu l (f.set i.toNat (ix f i.toNat - 1)) c2 cap hll (by rw [List.length_set]; exact hfl5)) rfl [1, 2] rfl ?_ ?_ ?_
      · simp only [push_cast, ↓branch_true, ↓branch_false, Nat.reduceBEq, Nat.reduceAdd, Nat.reduceMul, Nat.reduceSub, Int.reduceToNat, reduceCtorEq, branch_decide, branch_not, branch_beq, branch_bne, List.length_set, hfl5]
      · simp only [push_cast, ↓branch_true, ↓branch_false, Nat.reduceBEq, Nat.reduceAdd, Nat.reduceMul, Nat.reduceSub, Int.reduceToNat, reduceCtorEq, branch_decide, branch_not, branch_beq, branch_bne, List.length_set, hfl5]
        intro x hx q hq
        obtain rfl : x = 0 := by omega
        by_cases eq : q = i.toNat
        · subst eq
          simp only [push_cast, ↓branch_true, ↓branch_false, Nat.reduceBEq, Nat.reduceAdd, Nat.reduceMul, Nat.reduceSub, Int.reduceToNat, reduceCtorEq, branch_decide, branch_not, branch_beq, branch_bne, ix_set_self (show i.toNat < f.length by omega)]
        · have hb : (q == i.toNat) = false := by simpa using eq
          simp only [push_cast, ↓branch_true, ↓branch_false, Nat.reduceBEq, Nat.reduceAdd, Nat.reduceMul, Nat.reduceSub, Int.reduceToNat, reduceCtorEq, branch_decide, branch_not, branch_beq, branch_bne, ix_set_ne eq, hb]
      rw [rl_head hll hln]
      simp only [push_cast, ↓branch_true, ↓branch_false, Nat.reduceBEq, Nat.reduceAdd, Nat.reduceMul, Nat.reduceSub, Int.reduceToNat, reduceCtorEq, branch_decide, branch_not, branch_beq, branch_bne]
      refine lpK_normal (k + 1, _, u, oc, cp, _) [0, 1, 2, 3, 4, 5] ⟨by simp only; omega, hsu, by simp only [List.length_set]; omega, by simp only [List.length_set]; exact h4, hln⟩ (by simp only; omega) (by kernel_rfl) ?_ ?_
      · simp only [push_cast, ↓branch_true, ↓branch_false, Nat.reduceBEq, Nat.reduceAdd, Nat.reduceMul, Nat.reduceSub, Int.reduceToNat, reduceCtorEq, branch_decide, branch_not, branch_beq, branch_bne, List.length_set]
      · simp only [push_cast, ↓branch_true, ↓branch_false, Nat.reduceBEq, Nat.reduceAdd, Nat.reduceMul, Nat.reduceSub, Int.reduceToNat, reduceCtorEq, branch_decide, branch_not, branch_beq, branch_bne, List.length_set]
        refine ⟨fun x hx q hq => ?_, fun x hx q hq => ?_, fun q hq => ?_⟩
        · obtain rfl : x = 0 := by omega
          by_cases eq : q = i.toNat
          · subst eq
            simp only [push_cast, ↓branch_true, ↓branch_false, Nat.reduceBEq, Nat.reduceAdd, Nat.reduceMul, Nat.reduceSub, Int.reduceToNat, reduceCtorEq, branch_decide, branch_not, branch_beq, branch_bne, ix_set_self (show i.toNat < f.length by omega)]
          · have hb : (q == i.toNat) = false := by simpa using eq
            simp only [push_cast, ↓branch_true, ↓branch_false, Nat.reduceBEq, Nat.reduceAdd, Nat.reduceMul, Nat.reduceSub, Int.reduceToNat, reduceCtorEq, branch_decide, branch_not, branch_beq, branch_bne, ix_set_ne eq, hb]
        · obtain rfl : x = 0 := by omega
          by_cases eq : q = j
          · subst eq
            simp only [push_cast, ↓branch_true, ↓branch_false, Nat.reduceBEq, Nat.reduceAdd, Nat.reduceMul, Nat.reduceSub, Int.reduceToNat, reduceCtorEq, branch_decide, branch_not, branch_beq, branch_bne, ix_set_self hfo, cutB, List.length_set]
          · have hb : (q == j) = false := by simpa using eq
            simp only [push_cast, ↓branch_true, ↓branch_false, Nat.reduceBEq, Nat.reduceAdd, Nat.reduceMul, Nat.reduceSub, Int.reduceToNat, reduceCtorEq, branch_decide, branch_not, branch_beq, branch_bne, ix_set_ne eq, hb]
        · by_cases eq : q = j
          · subst eq
            simp only [push_cast, ↓branch_true, ↓branch_false, Nat.reduceBEq, Nat.reduceAdd, Nat.reduceMul, Nat.reduceSub, Int.reduceToNat, reduceCtorEq, branch_decide, branch_not, branch_beq, branch_bne, ix_set_self hfo, cutB, List.length_set]
            intro k' hk'
            by_cases e : k' = i.toNat
            · subst e
              simp only [push_cast, ↓branch_true, ↓branch_false, Nat.reduceBEq, Nat.reduceAdd, Nat.reduceMul, Nat.reduceSub, Int.reduceToNat, reduceCtorEq, branch_decide, branch_not, branch_beq, branch_bne, ix_set_self hk']
            · have hb : (k' == i.toNat) = false := by simpa using e
              simp only [push_cast, ↓branch_true, ↓branch_false, Nat.reduceBEq, Nat.reduceAdd, Nat.reduceMul, Nat.reduceSub, Int.reduceToNat, reduceCtorEq, branch_decide, branch_not, branch_beq, branch_bne, ix_set_ne e, hb]
          · have hb : (q == j) = false := by simpa using eq
            simp only [push_cast, ↓branch_true, ↓branch_false, Nat.reduceBEq, Nat.reduceAdd, Nat.reduceMul, Nat.reduceSub, Int.reduceToNat, reduceCtorEq, branch_decide, branch_not, branch_beq, branch_bne, ix_set_ne eq, hb]
  · obtain rfl : j = o.length := by omega
    have hf : fitAt n o = o.length := fitAt_eq g1 g2 fun h => by omega
    rw [hf, if_neg (Nat.lt_irrefl _)] at hgs
    simp only [push_cast, ↓branch_true, ↓branch_false, Nat.reduceBEq, Nat.reduceAdd, Nat.reduceMul, Nat.reduceSub, Int.reduceToNat, reduceCtorEq, branch_decide, branch_not, branch_beq, branch_bne]
    intro _
    refine sp_call (rkind_pu s u n c s.length hsl hul) rfl [0, 3] rfl ?_ ?_ ?_
    · simp only [push_cast, ↓branch_true, ↓branch_false, Nat.reduceBEq, Nat.reduceAdd, Nat.reduceMul, Nat.reduceSub, Int.reduceToNat, reduceCtorEq, branch_decide, branch_not, branch_beq, branch_bne, hul]
    · simp only [push_cast, ↓branch_true, ↓branch_false, Nat.reduceBEq, Nat.reduceAdd, Nat.reduceMul, Nat.reduceSub, Int.reduceToNat, reduceCtorEq, branch_decide, branch_not, branch_beq, branch_bne, hul]
    simp only [push_cast, ↓branch_true, ↓branch_false, Nat.reduceBEq, Nat.reduceAdd, Nat.reduceMul, Nat.reduceSub, Int.reduceToNat, reduceCtorEq, branch_decide, branch_not, branch_beq, branch_bne]
    have hkr := kindT_range s u n s.length
    obtain ⟨hk1, hk2, hk3⟩ := hkr
    refine ⟨fun h0 => ?_, fun h0 => ?_⟩
    · rw [if_pos h0] at hgs
      rw [hgs] at hsu
      exact key 22 [_, _, _, _] (by simp) (by rw [hgE, if_pos (gT_none hsu)]) (by decide)
    rw [if_neg h0] at hgs
    rw [hgs] at hsu
    have hk3 := hk3 (by omega)
    have hu0 := hus (kindT s u n s.length).toNat (by omega)
    have hst := st_len hvs (k := (kindT s u n s.length).toNat) (by omega)
    generalize kindT s u n s.length = kd at *
    have hb0 : decide (o.length < o.length) = false := by simp
    simp only [hb0, cond_false]
    repeat' first
      | with_reducible apply And.intro
      | (with_reducible refine Or.inr ?_)
      | (with_reducible intro _)
    all_goals first
      | omega
      | skip
    all_goals
      rename_i oc2 hoc2
      simp only [push_cast, ↓branch_true, ↓branch_false, Nat.reduceBEq, Nat.reduceAdd, Nat.reduceMul, Nat.reduceSub, Int.reduceToNat, reduceCtorEq, branch_decide, branch_not, branch_beq, branch_bne, mrg1_eq, cond_true]
      repeat (with_reducible refine And.intro (by omega) ?_)
      refine sp_call (rlong_pu l (f.set i.toNat (ix f i.toNat - 1)) c2 cap hll (by rw [List.length_set]; exact hfl5)) rfl [1, 2] rfl ?_ ?_ ?_
      · simp only [push_cast, ↓branch_true, ↓branch_false, Nat.reduceBEq, Nat.reduceAdd, Nat.reduceMul, Nat.reduceSub, Int.reduceToNat, reduceCtorEq, branch_decide, branch_not, branch_beq, branch_bne, List.length_set, hfl5]
      · simp only [push_cast, ↓branch_true, ↓branch_false, Nat.reduceBEq, Nat.reduceAdd, Nat.reduceMul, Nat.reduceSub, Int.reduceToNat, reduceCtorEq, branch_decide, branch_not, branch_beq, branch_bne, List.length_set, hfl5]
        intro x hx q hq
        obtain rfl : x = 0 := by omega
        by_cases eq : q = i.toNat
        · subst eq
          simp only [push_cast, ↓branch_true, ↓branch_false, Nat.reduceBEq, Nat.reduceAdd, Nat.reduceMul, Nat.reduceSub, Int.reduceToNat, reduceCtorEq, branch_decide, branch_not, branch_beq, branch_bne, ix_set_self (show i.toNat < f.length by omega)]
        · have hb : (q == i.toNat) = false := by simpa using eq
          simp only [push_cast, ↓branch_true, ↓branch_false, Nat.reduceBEq, Nat.reduceAdd, Nat.reduceMul, Nat.reduceSub, Int.reduceToNat, reduceCtorEq, branch_decide, branch_not, branch_beq, branch_bne, ix_set_ne eq, hb]
      rw [rl_head hll hln]
      simp only [push_cast, ↓branch_true, ↓branch_false, Nat.reduceBEq, Nat.reduceAdd, Nat.reduceMul, Nat.reduceSub, Int.reduceToNat, reduceCtorEq, branch_decide, branch_not, branch_beq, branch_bne]
      refine lpK_wk (k + 1, _, _, oc2, fun q => bif q == o.length then l.length else cp q, _) ⟨by simp only; omega, hsu, by simp only [List.length_append, List.length_cons, List.length_nil]; omega, fun q hq => ?_, hln⟩ (by simp only; omega) ((swk_place 5 o.length 6 (by omega) (by omega) (by omega) ?_).trans (Mt.wk (rl := [0, 1, 2, 3, 8, 5]) ⟨by kernel_rfl, ?_, ?_⟩))
      · simp only [List.length_append, List.length_cons, List.length_nil] at hq ⊢
        have : (q == o.length) = false := by simp; omega
        rw [this]
        exact h4 q (by omega)
      · simp only [push_cast, ↓branch_true, ↓branch_false, Nat.reduceBEq, Nat.reduceAdd, Nat.reduceMul, Nat.reduceSub, Int.reduceToNat, reduceCtorEq, branch_decide, branch_not, branch_beq, branch_bne]
        omega
      · simp only [push_cast, ↓branch_true, ↓branch_false, Nat.reduceBEq, Nat.reduceAdd, Nat.reduceMul, Nat.reduceSub, Int.reduceToNat, reduceCtorEq, branch_decide, branch_not, branch_beq, branch_bne, List.length_append]
      · simp only [push_cast, ↓branch_true, ↓branch_false, Nat.reduceBEq, Nat.reduceAdd, Nat.reduceMul, Nat.reduceSub, Int.reduceToNat, reduceCtorEq, branch_decide, branch_not, branch_beq, branch_bne, List.length_append]
        refine ⟨fun x hx q hq => ?_, fun x hx q hq => ?_, fun x hx q hq => ?_, fun q hq => ?_⟩
        · obtain rfl : x = 0 := by omega
          by_cases eq : q = i.toNat
          · subst eq
            simp only [push_cast, ↓branch_true, ↓branch_false, Nat.reduceBEq, Nat.reduceAdd, Nat.reduceMul, Nat.reduceSub, Int.reduceToNat, reduceCtorEq, branch_decide, branch_not, branch_beq, branch_bne, ix_set_self (show i.toNat < f.length by omega)]
          · have hb : (q == i.toNat) = false := by simpa using eq
            simp only [push_cast, ↓branch_true, ↓branch_false, Nat.reduceBEq, Nat.reduceAdd, Nat.reduceMul, Nat.reduceSub, Int.reduceToNat, reduceCtorEq, branch_decide, branch_not, branch_beq, branch_bne, ix_set_ne eq, hb]
        · obtain rfl : x = 0 := by omega
          by_cases eq : q = kd.toNat
          · subst eq
            simp only [push_cast, ↓branch_true, ↓branch_false, Nat.reduceBEq, Nat.reduceAdd, Nat.reduceMul, Nat.reduceSub, Int.reduceToNat, reduceCtorEq, branch_decide, branch_not, branch_beq, branch_bne, ix_set_self (show kd.toNat < u.length by omega)]
          · have hb : (q == kd.toNat) = false := by simpa using eq
            simp only [push_cast, ↓branch_true, ↓branch_false, Nat.reduceBEq, Nat.reduceAdd, Nat.reduceMul, Nat.reduceSub, Int.reduceToNat, reduceCtorEq, branch_decide, branch_not, branch_beq, branch_bne, ix_set_ne eq, hb]
        · obtain rfl : x = 0 := by omega
          by_cases eq : q = o.length
          · subst eq
            simp only [push_cast, ↓branch_true, ↓branch_false, Nat.reduceBEq, Nat.reduceAdd, Nat.reduceMul, Nat.reduceSub, Int.reduceToNat, reduceCtorEq, branch_decide, branch_not, branch_beq, branch_bne, ix_app_last, cutB, List.length_set, zeros_len]
          · have hb : (q == o.length) = false := by simpa using eq
            have hb2 : decide (q < o.length) = true := by simp; omega
            simp only [push_cast, ↓branch_true, ↓branch_false, Nat.reduceBEq, Nat.reduceAdd, Nat.reduceMul, Nat.reduceSub, Int.reduceToNat, reduceCtorEq, branch_decide, branch_not, branch_beq, branch_bne, ix_app_ne eq, hb, hb2]
        · by_cases eq : q = o.length
          · subst eq
            simp only [push_cast, ↓branch_true, ↓branch_false, Nat.reduceBEq, Nat.reduceAdd, Nat.reduceMul, Nat.reduceSub, Int.reduceToNat, reduceCtorEq, branch_decide, branch_not, branch_beq, branch_bne, ix_app_last, cutB, List.length_set, zeros_len]
            intro k' hk'
            by_cases e : k' = i.toNat
            · subst e
              simp only [push_cast, ↓branch_true, ↓branch_false, Nat.reduceBEq, Nat.reduceAdd, Nat.reduceMul, Nat.reduceSub, Int.reduceToNat, reduceCtorEq, branch_decide, branch_not, branch_beq, branch_bne, ix_set_self (show i.toNat < (zeros l.length).length by rw [zeros_len]; exact hk'), zeros_ix]
            · have hb : (k' == i.toNat) = false := by simpa using e
              simp only [push_cast, ↓branch_true, ↓branch_false, Nat.reduceBEq, Nat.reduceAdd, Nat.reduceMul, Nat.reduceSub, Int.reduceToNat, reduceCtorEq, branch_decide, branch_not, branch_beq, branch_bne, ix_set_ne e, hb, zeros_ix]
          · have hb : (q == o.length) = false := by simpa using eq
            simp only [push_cast, ↓branch_true, ↓branch_false, Nat.reduceBEq, Nat.reduceAdd, Nat.reduceMul, Nat.reduceSub, Int.reduceToNat, reduceCtorEq, branch_decide, branch_not, branch_beq, branch_bne, ix_app_ne eq, hb]
end Go.Proofs.Ythlpfjcjfhdmaaa
