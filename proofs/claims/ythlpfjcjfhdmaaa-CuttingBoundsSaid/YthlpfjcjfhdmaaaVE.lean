/- Contracts: Least. -/
import Derived.Test.YthlpfjcjfhdmaaaVD
set_option maxRecDepth 100000
set_option linter.unusedSimpArgs false
set_option linter.unusedVariables false
namespace Go.Proofs.Ythlpfjcjfhdmaaa
open Go.RowKit
/-- What is wrong with a length and an order: 0 for nothing. -/
def givE (lim : Int) (l : List Pc) : Int := if orderB l = false then 1 else if lim < 1 ∨ 1048576 < lim then 2 else if l.any (fun p => decide (lim < p.len)) = true then 22 else 0
theorem givE_0 {lim : Int} {l : List Pc} (h : givE lim l = 0) : orderB l = true ∧ 1 ≤ lim ∧ lim ≤ 1048576 ∧ ∀ k, k < l.length → (ix l k).len ≤ lim := by
  unfold givE at h
  split at h
  · omega
  · split at h
    · omega
    · split at h
      · omega
      · rename_i h1 h2 h3
        refine ⟨by simpa using h1, by omega, by omega, fun k hk => ?_⟩
        rw [List.any_eq_true] at h3
        refine Int.not_lt.1 fun h4 => h3 ⟨_, ix_mem hk, decide_eq_true h4⟩
def lstE (lim : Int) (l : List Pc) : Int := if givE lim l ≠ 0 then givE lim l else if 10 < cntL l then 6 else 0
/-- The lengths of Least. -/
def lstB (lim : Int) (l : List Pc) : List Br := if lstE lim l = 0 ∧ 0 < cntL l then vis l lim (longL l) [] [] else []
def lstR (lim : Int) (l : List Pc) : List Pt := patL (lstB lim l)
theorem lst_good {lim : Int} {l : List Pc} (he : lstE lim l = 0) (h0 : 0 < cntL l) : VisOk [⟨lim, -1⟩] l [] (lstB lim l) ∧ lstB lim l ≠ [] ∧ (lstB lim l).length = optF lim (wsL l (longL l)) [] := by
  have hg : givE lim l = 0 := by
    unfold lstE at he
    split at he
    · contradiction
    · omega
  obtain ⟨ho, h1, h2, h3⟩ := givE_0 hg
  have hr : lstB lim l = vis l lim (longL l) [] [] := if_pos ⟨he, h0⟩
  have hll := long_len ho
  have hx : ∀ i ∈ longL l, 0 ≤ i ∧ i < l.length ∧ (ix l i.toNat).len ≤ lim := fun i hi => by
    obtain ⟨a, b⟩ := longL_mem hi
    exact ⟨a, b, h3 _ (by omega)⟩
  have hv : VisOk [⟨lim, -1⟩] l (longL l) [] := ⟨(fun b hb => by cases hb), fun i hi => by
    rw [long_count hi]
    have := order_at ho hi
    simp
    omega⟩
  have hlen : (lstB lim l).length = optF lim (wsL l (longL l)) [] := by
    rw [hr, vis_len (longL l) [] [] (fun i hi => by
      obtain ⟨a, b⟩ := longL_mem hi
      have := order_at ho (k := i.toNat) (by omega)
      exact ⟨by omega, h3 _ (by omega)⟩) (fun y hy => by cases hy)]
    rfl
  refine ⟨by rw [hr]; exact vis_ok (by omega) (longL l) [] [] hx hv (.inl rfl), fun e => ?_, hlen⟩
  rw [e] at hlen
  obtain ⟨i, x, hix⟩ : ∃ i x, longL l = i :: x := by
    cases hc : longL l with
    | nil => rw [hc] at hll; simp at hll; omega
    | cons i x => exact ⟨i, x, rfl⟩
  rw [hix] at hlen
  have := optF_pos lim (ix l i.toNat).len (wsL l x) []
  have e2 : wsL l (i :: x) = (ix l i.toNat).len :: wsL l x := rfl
  rw [e2] at hlen
  simp at hlen
  omega
theorem over_pu (l : List Pc) (lim : Int) (k : Nat) : Pu Try.prog 57 [.a (cPc (ix l k)), .p 1 0 0] [rPc l, oI lim] (.v (.bool (decide (lim < (ix l k).len)))) := by
  refine pu_of_ex true [] mixed Try.call57 Try.func57 rfl Try.ntmps57 Try.results57 (by decide +kernel) rfl rfl rfl ?_
  simp only [push_cast, ↓branch_true, ↓branch_false, Nat.reduceBEq, Nat.reduceAdd, Nat.reduceMul, Nat.reduceSub, Int.reduceToNat, reduceCtorEq, branch_decide, branch_not, branch_beq, branch_bne]
set_option maxHeartbeats 2000000 in
theorem least_sp (l : List Pc) (lim : Int) (c : Nat) (hl : l.length ≤ 9223372036854775807) : Sp Try.prog 20 [.v (.int .i64 lim), .s 0 0 0 l.length c 2] [rPc l]
    (fun r H => ∃ oc cp, (lstR lim l).length ≤ oc ∧ (lstB lim l).length ≤ 10 ∧ r = .t [.v (.int .i64 (lstB lim l).length), .s 1 0 0 (lstR lim l).length oc 3, .v (.int .i64 (lstE lim l))] ∧ H = [rPc l, oPt 2 (lstR lim l) cp oc, oFm cp (fmP (lstR lim l))]) := by
  have key : ∀ e σH, σH.length ≤ 900 → lstE lim l = e → (e ≠ 0 ∨ ¬ 0 < cntL l) → ∃ r H2 rl, mt rl r (.t [.v (.int .i64 0), .v (.slice none 0 0), .v (.int .i64 e)]) ∧ (keepB 0 rl 1 && nodupB (liveL rl H2) && Nat.beq rl.length H2.length) = true ∧ obsM rl ([rPc l] ++ σH) rl H2 ∧ ∃ oc cp, (lstR lim l).length ≤ oc ∧ (lstB lim l).length ≤ 10 ∧ r = .t [.v (.int .i64 (lstB lim l).length), .s 1 0 0 (lstR lim l).length oc 3, .v (.int .i64 (lstE lim l))] ∧ H2 = [rPc l, oPt 2 (lstR lim l) cp oc, oFm cp (fmP (lstR lim l))] := by
    intro e σH hσ he h0
    have e1 : lstB lim l = [] := by
      unfold lstB
      rw [if_neg]
      rintro ⟨a, b⟩
      rcases h0 with h0 | h0
      · exact h0 (he ▸ a)
      · exact h0 b
    have e2 : lstR lim l = [] := by rw [lstR, e1]; rfl
    rw [e2, e1, he]
    refine ⟨_, _, [0, 1000, 1001], ?_, by kernel_rfl, ?_, 0, fun _ => 0, Nat.le_refl _, by simp, rfl, rfl⟩
    · simp only [push_cast, ↓branch_true, ↓branch_false, Nat.reduceBEq, Nat.reduceAdd, Nat.reduceMul, Nat.reduceSub, Int.reduceToNat, reduceCtorEq, branch_decide, branch_not, branch_beq, branch_bne]
    · simp only [push_cast, ↓branch_true, ↓branch_false, Nat.reduceBEq, Nat.reduceAdd, Nat.reduceMul, Nat.reduceSub, Int.reduceToNat, reduceCtorEq, branch_decide, branch_not, branch_beq, branch_bne]
      rw [obAt_out (show σH.length ≤ 999 by omega), obAt_out (show σH.length ≤ 1000 by omega)]
      simp only [push_cast, ↓branch_true, ↓branch_false, Nat.reduceBEq, Nat.reduceAdd, Nat.reduceMul, Nat.reduceSub, Int.reduceToNat, reduceCtorEq, branch_decide, branch_not, branch_beq, branch_bne]
      repeat' (first | with_reducible apply And.intro | omega | exact Or.inr fun _ => rfl)
  refine sp_weak ?_
  refine sp_of_ex true [(17, .one 1 (.one 2 (.alt [(0, .one 3 (.one 4 (.one 5 (.one 6 .fin)))), (3, .one 0 (.one 4 (.one 5 (.one 6 .fin))))]))), (19, .one 0 (.one 1 (.one 2 (.one 5 (.one 6 (.one 7 (.alt [(3, .one 4 (.one 8 (.one 9 (.one 10 (.one 11 (.one 12 .fin)))))), (8, .alt [(3, .one 4 (.one 9 (.one 10 (.one 11 (.one 12 .fin))))), (9, .one 3 (.one 4 (.one 10 (.one 11 (.one 12 .fin)))))])])))))))] mixed Try.call20 Try.func20 rfl Try.ntmps20 Try.results20 (by decide +kernel) rfl ?_
  simp only [push_cast, ↓branch_true, ↓branch_false, Nat.reduceBEq, Nat.reduceAdd, Nat.reduceMul, Nat.reduceSub, Int.reduceToNat, reduceCtorEq, branch_decide, branch_not, branch_beq, branch_bne]
  refine sp_call (order_pu l c hl) rfl [0] rfl (by simp only [push_cast, ↓branch_true, ↓branch_false, Nat.reduceBEq, Nat.reduceAdd, Nat.reduceMul, Nat.reduceSub, Int.reduceToNat, reduceCtorEq, branch_decide, branch_not, branch_beq, branch_bne]) (by simp only [push_cast, ↓branch_true, ↓branch_false, Nat.reduceBEq, Nat.reduceAdd, Nat.reduceMul, Nat.reduceSub, Int.reduceToNat, reduceCtorEq, branch_decide, branch_not, branch_beq, branch_bne]) ?_
  simp only [push_cast, ↓branch_true, ↓branch_false, Nat.reduceBEq, Nat.reduceAdd, Nat.reduceMul, Nat.reduceSub, Int.reduceToNat, reduceCtorEq, branch_decide, branch_not, branch_beq, branch_bne]
  cases hvo : orderB l with
  | false =>
    simp only [push_cast, ↓branch_true, ↓branch_false, Nat.reduceBEq, Nat.reduceAdd, Nat.reduceMul, Nat.reduceSub, Int.reduceToNat, reduceCtorEq, branch_decide, branch_not, branch_beq, branch_bne]
    exact key 1 [_] (by simp) (by rw [lstE, if_pos (by rw [givE, if_pos hvo]; decide), givE, if_pos hvo]) (.inl (by decide))
  | true =>
  have hll := order_len hvo
  have hcl := long_len hvo
  simp only [push_cast, ↓branch_true, ↓branch_false, Nat.reduceBEq, Nat.reduceAdd, Nat.reduceMul, Nat.reduceSub, Int.reduceToNat, reduceCtorEq, branch_decide, branch_not, branch_beq, branch_bne]
  have hg2 : ¬ (1 ≤ lim ∧ lim ≤ 1048576) → givE lim l = 2 := fun h => by rw [givE, if_neg (by simp [hvo]), if_pos (by omega)]
  refine ⟨fun h1 => ?_, fun h1 => ⟨fun h2 => ?_, fun h2 => ?_⟩⟩
  · have := hg2 (by omega)
    exact key 2 [_] (by simp) (by rw [lstE, if_pos (by rw [this]; decide), this]) (.inl (by decide))
  · have := hg2 (by omega)
    exact key 2 [_] (by simp) (by rw [lstE, if_pos (by rw [this]; decide), this]) (.inl (by decide))
  refine sp_call (containsPc_pu l c 57 [] [.p 1 0 0] [oI lim] (fun p => decide (lim < p.len)) rfl hl fun x hx => ?_) rfl [0, 1] rfl ?_ ?_ ?_
  · obtain ⟨k, hk, rfl⟩ := List.getElem_of_mem hx
    have := over_pu l lim k
    rwa [ix_eq hk] at this
  · simp only [push_cast, ↓branch_true, ↓branch_false, Nat.reduceBEq, Nat.reduceAdd, Nat.reduceMul, Nat.reduceSub, Int.reduceToNat, reduceCtorEq, branch_decide, branch_not, branch_beq, branch_bne]
  · simp only [push_cast, ↓branch_true, ↓branch_false, Nat.reduceBEq, Nat.reduceAdd, Nat.reduceMul, Nat.reduceSub, Int.reduceToNat, reduceCtorEq, branch_decide, branch_not, branch_beq, branch_bne]
  cases hany : l.any (fun p => decide (lim < p.len)) with
  | true =>
    have hg : givE lim l = 22 := by rw [givE, if_neg (by simp [hvo]), if_neg (by omega), if_pos hany]
    simp only [push_cast, ↓branch_true, ↓branch_false, Nat.reduceBEq, Nat.reduceAdd, Nat.reduceMul, Nat.reduceSub, Int.reduceToNat, reduceCtorEq, branch_decide, branch_not, branch_beq, branch_bne]
    exact key 22 [_] (by simp) (by rw [lstE, if_pos (by rw [hg]; decide), hg]) (.inl (by decide))
  | false =>
  have hg : givE lim l = 0 := by rw [givE, if_neg (by simp [hvo]), if_neg (by omega), if_neg (by simp [hany])]
  have hlE : lstE lim l = if 10 < cntL l then 6 else 0 := if_neg (by rw [hg]; simp)
  obtain ⟨_, _, _, hle⟩ := givE_0 hg
  simp only [push_cast, ↓branch_true, ↓branch_false, Nat.reduceBEq, Nat.reduceAdd, Nat.reduceMul, Nat.reduceSub, Int.reduceToNat, reduceCtorEq, branch_decide, branch_not, branch_beq, branch_bne]
  refine tr_loop mixed (by kernel_rfl) (fun (k : Nat) => [(28, .v (.int .i64 k)), (27, .v (.int .i64 l.length)), (26, .s 0 0 0 l.length c 2), (7, .v (.int .i64 (cntT l k))), (2, .p 1 0 0), (1, .s 0 0 0 l.length c 2)])
    (fun _ => [rPc l, oI lim]) (fun k => k ≤ l.length) (fun k => l.length - k) 0 (Nat.zero_le _) (Mt.wk (rl := [0, 1]) ⟨by kernel_rfl, ?_, ?_⟩) ?_
  · simp only [push_cast, ↓branch_true, ↓branch_false, Nat.reduceBEq, Nat.reduceAdd, Nat.reduceMul, Nat.reduceSub, Int.reduceToNat, reduceCtorEq, branch_decide, branch_not, branch_beq, branch_bne]
    rfl
  · simp only [push_cast, ↓branch_true, ↓branch_false, Nat.reduceBEq, Nat.reduceAdd, Nat.reduceMul, Nat.reduceSub, Int.reduceToNat, reduceCtorEq, branch_decide, branch_not, branch_beq, branch_bne]
  intro k hk
  have hr := cntT_range hvo k hk
  simp only [push_cast, ↓branch_true, ↓branch_false, Nat.reduceBEq, Nat.reduceAdd, Nat.reduceMul, Nat.reduceSub, Int.reduceToNat, reduceCtorEq, branch_decide, branch_not, branch_beq, branch_bne]
  refine ⟨fun h => ?_, fun h => ?_⟩
  · have h3 := order_at hvo (k := k) (by omega)
    have e1 := cntT_succ (l := l) (k := k) (by omega)
    repeat (with_reducible refine And.intro (by omega) ?_)
    refine lpK_normal (k + 1) [0, 1] (by omega) (by omega) (by kernel_rfl) ?_ ?_
    · simp only [push_cast, ↓branch_true, ↓branch_false, Nat.reduceBEq, Nat.reduceAdd, Nat.reduceMul, Nat.reduceSub, Int.reduceToNat, reduceCtorEq, branch_decide, branch_not, branch_beq, branch_bne, e1]
    · simp only [push_cast, ↓branch_true, ↓branch_false, Nat.reduceBEq, Nat.reduceAdd, Nat.reduceMul, Nat.reduceSub, Int.reduceToNat, reduceCtorEq, branch_decide, branch_not, branch_beq, branch_bne]
  obtain rfl : k = l.length := by omega
  refine ⟨fun h10 => ?_, fun h10 => ?_⟩
  · exact key 6 [_] (by simp) (by rw [hlE, if_pos (show 10 < cntL l from h10)]) (.inl (by decide))
  have hE : lstE lim l = 0 := by rw [hlE, if_neg (show ¬ 10 < cntL l from h10)]
  refine ⟨fun h0 => ?_, fun h0 => ?_⟩
  · exact key 0 [_] (by simp) hE (.inr (show ¬ 0 < cntT l l.length by omega))
  have hcp : 0 < cntL l := by show 0 < cntT l l.length; omega
  have hc10 : cntL l ≤ 10 := by show cntT l l.length ≤ 10; omega
  obtain ⟨hgood, hne, hlen⟩ := lst_good hE hcp
  have hr : lstB lim l = vis l lim (longL l) [] [] := if_pos ⟨hE, hcp⟩
  have h0l : 0 < l.length := by
    have := longL_mem (ix_mem (l := longL l) (k := 0) (by omega))
    omega
  have hx : ∀ i ∈ longL l, 0 ≤ i ∧ i < l.length ∧ (ix l i.toNat).len ≤ lim := fun i hi => by
    obtain ⟨a, b⟩ := longL_mem hi
    exact ⟨a, b, hle _ (by omega)⟩
  have hb10 : (lstB lim l).length ≤ 10 := by
    have h1 : optF lim (wsL l (longL l)) [] ≤ (wsL l (longL l)).length := pack_le (fun w hw => by
      obtain ⟨i, hi, rfl⟩ := List.mem_map.1 hw
      obtain ⟨a, b, _⟩ := hx i hi
      have := order_at hvo (k := i.toNat) (by omega)
      omega) ⟨[], (wsL l (longL l)).map fun w => [w], rfl, (by simp), (fun b hb => by
        obtain ⟨w, hw, rfl⟩ := List.mem_map.1 hb
        obtain ⟨i, hi, rfl⟩ := List.mem_map.1 hw
        have := (hx i hi).2.2
        simpa using this), (by simp [← List.flatMap_def]), (by simp)⟩
    have h2 : (wsL l (longL l)).length = (longL l).length := by simp [wsL]
    omega
  have hps : ∀ b ∈ lstB lim l, 0 < b.ps.length ∧ b.ps.length ≤ 100000 := fun b hb => by
    have := (hgood.bar b hb).1.ps
    omega
  repeat' (with_reducible apply And.intro)
  all_goals
    refine sp_at (longest_sp l c hvo (by omega)) [0] rfl ?_ ?_ ?_
    · simp only [push_cast, ↓branch_true, ↓branch_false, Nat.reduceBEq, Nat.reduceAdd, Nat.reduceMul, Nat.reduceSub, Int.reduceToNat, reduceCtorEq, branch_decide, branch_not, branch_beq, branch_bne]
    · simp only [push_cast, ↓branch_true, ↓branch_false, Nat.reduceBEq, Nat.reduceAdd, Nat.reduceMul, Nat.reduceSub, Int.reduceToNat, reduceCtorEq, branch_decide, branch_not, branch_beq, branch_bne]
    rintro _ _ ⟨xc, hxc, rfl, rfl⟩
    simp only [push_cast, ↓branch_true, ↓branch_false, Nat.reduceBEq, Nat.reduceAdd, Nat.reduceMul, Nat.reduceSub, Int.reduceToNat, reduceCtorEq, branch_decide, branch_not, branch_beq, branch_bne]
    have hvi := visit_sp l lim c xc (longL l) hvo h0l (by omega) (by omega) hx (by omega) (longL l) 0 [] [] 0 0 ⟨0, fun _ => [], fun _ => 0, fun _ => 0⟩ ⟨0, fun _ => [], fun _ => 0, fun _ => 0⟩ (by omega) rfl (by simp; omega) (by simp; omega) (fun y hy => by cases hy) (vok_nil _) (vok_nil _) (Nat.le_refl _) (by simp)
    rw [← hr, bV_nil] at hvi
    refine sp_pre_mt (args' := [.p 3 0 0, .v (.int .i64 0), .s 6 0 0 0 0 3]) (H' := [rPc l, oI lim, rOwn 3 (longL l).length xc (fun k => ix (longL l) k), ⟨94, false, .st [.v (.int .i64 lim), .s 0 0 0 l.length c 2, .s 2 0 0 (longL l).length xc 1, .v (.slice none 0 0)]⟩, oBs 5 0 [] 0 ⟨0, fun _ => [], fun _ => 0, fun _ => 0⟩, oFs ⟨0, fun _ => [], fun _ => 0, fun _ => 0⟩, oBs 7 0 [] 0 ⟨0, fun _ => [], fun _ => 0, fun _ => 0⟩, oFs ⟨0, fun _ => [], fun _ => 0, fun _ => 0⟩]) [0, 1, 2, 3, 4, 5, 6, 7] ?_ (by kernel_rfl) ?_ (sp_at hvi [0, 2, 3, 4, 5, 6, 7] rfl ?_ ?_ ?_)
    · simp only [push_cast, ↓branch_true, ↓branch_false, Nat.reduceBEq, Nat.reduceAdd, Nat.reduceMul, Nat.reduceSub, Int.reduceToNat, reduceCtorEq, branch_decide, branch_not, branch_beq, branch_bne]
    · simp only [push_cast, ↓branch_true, ↓branch_false, Nat.reduceBEq, Nat.reduceAdd, Nat.reduceMul, Nat.reduceSub, Int.reduceToNat, reduceCtorEq, branch_decide, branch_not, branch_beq, branch_bne]
      omega
    · simp only [push_cast, ↓branch_true, ↓branch_false, Nat.reduceBEq, Nat.reduceAdd, Nat.reduceMul, Nat.reduceSub, Int.reduceToNat, reduceCtorEq, branch_decide, branch_not, branch_beq, branch_bne]
    · simp only [push_cast, ↓branch_true, ↓branch_false, Nat.reduceBEq, Nat.reduceAdd, Nat.reduceMul, Nat.reduceSub, Int.reduceToNat, reduceCtorEq, branch_decide, branch_not, branch_beq, branch_bne]
    rintro _ _ ⟨s', t', bc', g1, g2, g3, g4, g5, rfl, rfl⟩
    rw [bV_some hne]
    simp only [push_cast, ↓branch_true, ↓branch_false, Nat.reduceBEq, Nat.reduceAdd, Nat.reduceMul, Nat.reduceSub, Int.reduceToNat, reduceCtorEq, branch_decide, branch_not, branch_beq, branch_bne]
    repeat' (with_reducible apply And.intro)
    all_goals
      refine sp_at (patterns_sp (lstB lim l) t'.pi t'.cp bc' t'.M t'.G g3.lt g3.val (by omega) hps) [8, 5] rfl ?_ ?_ ?_
      · simp only [push_cast, ↓branch_true, ↓branch_false, Nat.reduceBEq, Nat.reduceAdd, Nat.reduceMul, Nat.reduceSub, Int.reduceToNat, reduceCtorEq, branch_decide, branch_not, branch_beq, branch_bne]
      · simp only [push_cast, ↓branch_true, ↓branch_false, Nat.reduceBEq, Nat.reduceAdd, Nat.reduceMul, Nat.reduceSub, Int.reduceToNat, reduceCtorEq, branch_decide, branch_not, branch_beq, branch_bne]
      rintro _ _ ⟨oc2, cp2, hoc2, rfl, rfl⟩
      simp only [push_cast, ↓branch_true, ↓branch_false, Nat.reduceBEq, Nat.reduceAdd, Nat.reduceMul, Nat.reduceSub, Int.reduceToNat, reduceCtorEq, branch_decide, branch_not, branch_beq, branch_bne]
      rw [hE]
      refine ⟨_, _, [0, 9, 10], ?_, by kernel_rfl, ?_, oc2, cp2, hoc2, hb10, rfl, rfl⟩
      · simp only [push_cast, ↓branch_true, ↓branch_false, Nat.reduceBEq, Nat.reduceAdd, Nat.reduceMul, Nat.reduceSub, Int.reduceToNat, reduceCtorEq, branch_decide, branch_not, branch_beq, branch_bne, lstR]
      · simp only [push_cast, ↓branch_true, ↓branch_false, Nat.reduceBEq, Nat.reduceAdd, Nat.reduceMul, Nat.reduceSub, Int.reduceToNat, reduceCtorEq, branch_decide, branch_not, branch_beq, branch_bne, lstR]
end Go.Proofs.Ythlpfjcjfhdmaaa
