/- LorryAltered: the walk. -/
import Derived.Test.YtdinkpefoljigaaAH
import Derived.Test.YtdinkpefoljigaaAF
set_option maxRecDepth 100000
set_option linter.unusedSimpArgs false
set_option linter.unusedVariables false
namespace Go.Proofs.Ytdinkpefoljigaa
open Go.RowKit
/-- A fact that the memory shows. -/
theorem sp_know {P : Program} {p : Prop} {f : FuncId} {args : List SV} {H : List Ob} {K : SV → List Ob → Prop} (h1 : ∀ vs w, (callFunc f vs).run P w = .ok (.enter f vs) w) (hf : ∀ β w vals, Inv β H w → OkL β args vals → p) (hs : p → Sp P f args H K) : Sp P f args H K :=
  ⟨h1, fun β w vals hI ha => (hs (hf β w vals hI ha)).2 β w vals hI ha⟩
theorem cloneI_sp (G : List (List Int)) (cp : Nat → Nat) (i : Nat) (hi : i < big + 2) (h0 : 0 < (ix G i).length) (hn : (ix G i).length ≤ 2000) : Sp Try.prog 21 [.s 0 i 0 (ix G i).length (cp i) 1] [oFa G cp] (fun r H => ∃ cap, (ix G i).length ≤ cap ∧ r = .s 1 0 0 (ix G i).length cap 1 ∧ H = [oFa G cp, rIO (ix G i) cap]) := by
  refine sp_know (p := (ix G i).length ≤ cp i) Try.call21 (fun β w vals hI _ => ?_) fun hc => ?_
  · rcases hI.ob 0 _ rfl i hi with ⟨h1, _⟩ | ⟨_, _, _, _, _, h1, _⟩
    · have h1 : (ix G i).length = 0 := h1
      omega
    · exact h1
  refine sp_weak ?_
  refine sp_of_ex true [] mixed Try.call21 Try.func21 rfl Try.ntmps21 Try.results21 (by decide +kernel) rfl ?_
  simp only [push_cast, ↓branch_true, ↓branch_false, Nat.reduceBEq, Nat.reduceAdd, Nat.reduceMul, Nat.reduceSub, Int.reduceToNat, reduceCtorEq, branch_decide, branch_not, branch_beq, branch_bne]
  intro b hb
  rw [hb (by omega)]
  simp only [push_cast, ↓branch_true, ↓branch_false, Nat.reduceBEq, Nat.reduceAdd, Nat.reduceMul, Nat.reduceSub, Int.reduceToNat, reduceCtorEq, branch_decide, branch_not, branch_beq, branch_bne]
  repeat (with_reducible refine And.intro (by omega) ?_)
  refine ⟨?_, appZ_of (fun h => by omega) fun _ => .inl ⟨by omega, by omega, fun cap hcap => ?_⟩⟩
  · unfold srcOk
    split <;> simp [lenP, lenIs, ones, one1]
  · refine ⟨_, _, [0, 2], ?_, by kernel_rfl, ?_, cap, hcap, rfl, rfl⟩
    · simp only [push_cast, ↓branch_true, ↓branch_false, Nat.reduceBEq, Nat.reduceAdd, Nat.reduceMul, Nat.reduceSub, Int.reduceToNat, reduceCtorEq, branch_decide, branch_not, branch_beq, branch_bne]
    · simp only [push_cast, ↓branch_true, ↓branch_false, Nat.reduceBEq, Nat.reduceAdd, Nat.reduceMul, Nat.reduceSub, Int.reduceToNat, reduceCtorEq, branch_decide, branch_not, branch_beq, branch_bne]
theorem ix_rev {G : List (List Int)} {k : Nat} (hk : k < G.length) : ix G.reverse k = ix G (G.length - 1 - k) := by
  rw [ix_eq (by simpa using hk), ix_eq (by omega), List.getElem_reverse]
theorem right_rev {l : List Bun} {most : Int} {G : List (List Int)} (h : Right l most G) : Right l most G.reverse := by
  have hp : G.reverse.flatten.Perm G.flatten := (List.reverse_perm G).flatten
  exact ⟨fun i hi => h.mem i (hp.mem_iff.1 hi), hp.nodup_iff.2 h.nodup, fun x hx => h.good x (List.mem_reverse.1 hx), by rw [hp.length_eq, h.all]⟩
theorem flat_set {G : List (List Int)} {i : Nat} {y : List Int} (hi : i < G.length) : (G.set i y).flatten.length + (ix G i).length = G.flatten.length + y.length := by
  have e1 : G = G.take i ++ (ix G i :: G.drop (i + 1)) := by rw [← drop_ix hi, List.take_append_drop]
  have e2 : G.set i y = G.take i ++ (y :: G.drop (i + 1)) := by rw [List.set_eq_take_append_cons_drop, if_pos hi]
  have e3 : G.flatten.length = (G.take i).flatten.length + ((ix G i).length + (G.drop (i + 1)).flatten.length) := by
    conv => lhs; rw [e1]
    rw [List.flatten_append, List.flatten_cons, List.length_append, List.length_append]
  rw [e2, e3, List.flatten_append, List.flatten_cons, List.length_append, List.length_append]
  omega
theorem not_less {l : List Bun} {most : Int} {G : List (List Int)} (h : Right l most G) {i : Nat} {y : List Int} (hi : i < G.length) (hy : y.length ≠ (ix G i).length) : ¬ Right l most (G.set i y) := fun h2 => by
  have h3 := flat_set (y := y) hi
  rw [h2.all, h.all] at h3
  omega
theorem not_empty {l : List Bun} {most : Int} {G : List (List Int)} : ¬ Right l most (G ++ [[]]) := fun h => (h.good [] (by simp)).1 rfl
theorem appF_one {n k : Nat} {f : Nat → SV} {g : Nat → List SV} {b : SV} (hg : g 0 = [b]) : appF n 1 (fun k => [f k]) g k = [bif decide (k < n) then f k else b] := by
  unfold appF
  simp only [hg, mrgL, mrg1_eq]
  cases decide (k < n) <;> rfl
theorem updF_one {f : Nat → SV} {v : SV} {i k : Nat} : updF (fun _ k => [f k]) 0 i [v] 0 k = [bif k == i then v else f k] := by
  simp only [updF, mrgL, mrg1_eq]
  cases k == i <;> rfl
theorem ix_tail (y : List Int) (q : Nat) : ix y.tail q = ix y (1 + q) := by
  cases y with
  | nil => simp [ix]
  | cons x y => rw [Nat.add_comm]; rfl
theorem ld_fam {H : List Ob} {F p o N n ty c : Nat} {ro : Bool} {len cap : Nat → Nat} {f : Nat → Nat → List SV} {y : List Int} (hF : H[F]? = some ⟨ty, ro, .row 1 N len cap f⟩) (hn : n = y.length) (hp : p < N) (ho : o + y.length ≤ len p) (hf : ∀ q, q < y.length → f p (o + q) = [.v (.int .i64 (ix y q))]) : Ld H (.s F p o n c 1) y c :=
  .inl ⟨F, p, o, by rw [hn], fun _ => ⟨ty, ro, N, len, cap, f, hF, hp, ho, hf⟩⟩
set_option maxHeartbeats 8000000 in
theorem laltered_sp (l : List Bun) (most : Int) (kk : Int) (c : Nat) (hs : strOk l) (hl : l.length ≤ 9223372036854775807) (hk : 0 ≤ kk ∧ kk ≤ 255) : Sp Try.prog 4 [.s 0 0 0 l.length c 4, .v (.int .i64 most), .v (.int .u8 kk)] [rB l] (fun r _ => r = .v (.bool true)) := by
  have hbig := big_eq
  refine sp_of_ex true [(17, .one 0 (.one 1 (.one 2 (.one 3 (.one 4 (.one 7 (.one 8 (.alt [(5, .alt [(6, .one 9 (.one 10 (.one 11 (.one 12 (.one 13 (.one 14 (.one 15 .fin))))))), (9, .one 10 (.alt [(6, .one 11 (.one 12 (.one 13 (.one 14 (.one 15 .fin))))), (11, .alt [(6, .one 12 (.one 13 (.one 14 (.one 15 .fin)))), (12, .one 6 (.one 13 (.one 14 (.one 15 .fin))))])]))]), (9, .one 10 (.alt [(5, .alt [(6, .one 11 (.one 12 (.one 13 (.one 14 (.one 15 .fin))))), (11, .alt [(6, .one 12 (.one 13 (.one 14 (.one 15 .fin)))), (12, .one 6 (.one 13 (.one 14 (.one 15 .fin))))])]), (11, .alt [(5, .alt [(6, .one 12 (.one 13 (.one 14 (.one 15 .fin)))), (12, .one 6 (.one 13 (.one 14 (.one 15 .fin))))]), (12, .one 5 (.one 6 (.one 13 (.one 14 (.one 15 .fin)))))])]))]))))))))] mixed Try.call4 Try.func4 rfl Try.ntmps4 Try.results4 (by decide +kernel) rfl ?_
  simp only [push_cast, ↓branch_true, ↓branch_false, Nat.reduceBEq, Nat.reduceAdd, Nat.reduceMul, Nat.reduceSub, Int.reduceToNat, reduceCtorEq, branch_decide, branch_not, branch_beq, branch_bne]
  refine sp_at awake_sp [] rfl ?_ ?_ ?_
  · simp only [push_cast, ↓branch_true, ↓branch_false, Nat.reduceBEq, Nat.reduceAdd, Nat.reduceMul, Nat.reduceSub, Int.reduceToNat, reduceCtorEq, branch_decide, branch_not, branch_beq, branch_bne]
  · simp only [push_cast, ↓branch_true, ↓branch_false, Nat.reduceBEq, Nat.reduceAdd, Nat.reduceMul, Nat.reduceSub, Int.reduceToNat, reduceCtorEq, branch_decide, branch_not, branch_beq, branch_bne]
  rintro _ _ ⟨rfl, rfl⟩
  simp only [push_cast, ↓branch_true, ↓branch_false, Nat.reduceBEq, Nat.reduceAdd, Nat.reduceMul, Nat.reduceSub, Int.reduceToNat, reduceCtorEq, branch_decide, branch_not, branch_beq, branch_bne]
  refine sp_call (many_pu l [] c 0 0 (fun _ => 0) hl (by decide)) rfl [0, 1, 2] rfl ?_ ?_ ?_
  · simp only [push_cast, ↓branch_true, ↓branch_false, Nat.reduceBEq, Nat.reduceAdd, Nat.reduceMul, Nat.reduceSub, Int.reduceToNat, reduceCtorEq, branch_decide, branch_not, branch_beq, branch_bne]
  · simp only [push_cast, ↓branch_true, ↓branch_false, Nat.reduceBEq, Nat.reduceAdd, Nat.reduceMul, Nat.reduceSub, Int.reduceToNat, reduceCtorEq, branch_decide, branch_not, branch_beq, branch_bne]
    omega
  simp only [push_cast, ↓branch_true, ↓branch_false, Nat.reduceBEq, Nat.reduceAdd, Nat.reduceMul, Nat.reduceSub, Int.reduceToNat, reduceCtorEq, branch_decide, branch_not, branch_beq, branch_bne]
  cases hm : manyB l [] with
  | true =>
    simp only [push_cast, ↓branch_true, ↓branch_false, Nat.reduceBEq, Nat.reduceAdd, Nat.reduceMul, Nat.reduceSub, Int.reduceToNat, reduceCtorEq, branch_decide, branch_not, branch_beq, branch_bne]
  | false =>
  simp only [push_cast, ↓branch_true, ↓branch_false, Nat.reduceBEq, Nat.reduceAdd, Nat.reduceMul, Nat.reduceSub, Int.reduceToNat, reduceCtorEq, branch_decide, branch_not, branch_beq, branch_bne]
  intro h20
  refine sp_at (greedy_sp l most c hs hl) [0] rfl ?_ ?_ ?_
  · simp only [push_cast, ↓branch_true, ↓branch_false, Nat.reduceBEq, Nat.reduceAdd, Nat.reduceMul, Nat.reduceSub, Int.reduceToNat, reduceCtorEq, branch_decide, branch_not, branch_beq, branch_bne]
  · simp only [push_cast, ↓branch_true, ↓branch_false, Nat.reduceBEq, Nat.reduceAdd, Nat.reduceMul, Nat.reduceSub, Int.reduceToNat, reduceCtorEq, branch_decide, branch_not, branch_beq, branch_bne]
  rintro _ _ ⟨oc, cp, hoc, rfl, rfl⟩
  simp only [push_cast, ↓branch_true, ↓branch_false, Nat.reduceBEq, Nat.reduceAdd, Nat.reduceMul, Nat.reduceSub, Int.reduceToNat, reduceCtorEq, branch_decide, branch_not, branch_beq, branch_bne]
  by_cases he : errG l most = 0
  rotate_left
  · have e1 : gRes l most = [] := by rw [gRes, if_neg he]
    rw [e1]
    simp only [push_cast, ↓branch_true, ↓branch_false, Nat.reduceBEq, Nat.reduceAdd, Nat.reduceMul, Nat.reduceSub, Int.reduceToNat, reduceCtorEq, branch_decide, branch_not, branch_beq, branch_bne]
  have e1 : gRes l most = greedyL l most := by rw [gRes, if_pos he]
  have hR := greedy_right he
  obtain ⟨hv, hm1, hm2, hm3⟩ := errG_ok he
  obtain ⟨hL, hLn, hLx⟩ := lds_greedy he
  have hlen := (vB_yes.1 hv).1
  rw [e1] at hoc
  rw [e1, he]
  generalize hG : greedyL l most = G at *
  have hck : ∀ X, checkR l most X = (decide (Right l most X), 0) := fun X => by rw [checkR, if_neg (by simp [hv]), if_neg (by omega)]
  intro _
  repeat (with_reducible refine And.intro (by omega) ?_)
  intro h0
  obtain ⟨i, hi, hin⟩ : ∃ i : Nat, kk.tmod (G.length : Int) = i ∧ i < G.length := by
    have h1 := Int.tmod_nonneg (a := kk) (G.length : Int) hk.1
    have h2 := Int.tmod_lt_of_pos kk (b := (G.length : Int)) (by omega)
    exact ⟨(kk.tmod G.length).toNat, by omega, by omega⟩
  rw [hi]
  have hxi := hLx _ (ix_mem hin)
  have hne : 0 < (ix G i).length := List.length_pos_iff.2 (hL.some _ (ix_mem hin))
  have hne0 : 0 < (ix G 0).length := List.length_pos_iff.2 (hL.some _ (ix_mem (by omega)))
  have hx4 : ∀ x ∈ G, x.length ≤ 4000000 := fun x hx => by have := hLx x hx; omega
  repeat (with_reducible refine And.intro (by omega) ?_)
  refine sp_at (cloneL_sp G cp oc (by omega) hoc (by omega)) [1, 2] rfl ?_ ?_ ?_
  · simp only [push_cast, ↓branch_true, ↓branch_false, Nat.reduceBEq, Nat.reduceAdd, Nat.reduceMul, Nat.reduceSub, Int.reduceToNat, reduceCtorEq, branch_decide, branch_not, branch_beq, branch_bne]
  · simp only [push_cast, ↓branch_true, ↓branch_false, Nat.reduceBEq, Nat.reduceAdd, Nat.reduceMul, Nat.reduceSub, Int.reduceToNat, reduceCtorEq, branch_decide, branch_not, branch_beq, branch_bne]
  rintro _ _ ⟨c1, hc1, rfl, rfl⟩
  simp only [push_cast, ↓branch_true, ↓branch_false, Nat.reduceBEq, Nat.reduceAdd, Nat.reduceMul, Nat.reduceSub, Int.reduceToNat, reduceCtorEq, branch_decide, branch_not, branch_beq, branch_bne]
  refine sp_at (revL_sp G cp c1 (by omega) hc1) [3, 2] rfl ?_ ?_ ?_
  · simp only [push_cast, ↓branch_true, ↓branch_false, Nat.reduceBEq, Nat.reduceAdd, Nat.reduceMul, Nat.reduceSub, Int.reduceToNat, reduceCtorEq, branch_decide, branch_not, branch_beq, branch_bne]
  · simp only [push_cast, ↓branch_true, ↓branch_false, Nat.reduceBEq, Nat.reduceAdd, Nat.reduceMul, Nat.reduceSub, Int.reduceToNat, reduceCtorEq, branch_decide, branch_not, branch_beq, branch_bne]
  rintro _ _ ⟨rfl, rfl⟩
  simp only [push_cast, ↓branch_true, ↓branch_false, Nat.reduceBEq, Nat.reduceAdd, Nat.reduceMul, Nat.reduceSub, Int.reduceToNat, reduceCtorEq, branch_decide, branch_not, branch_beq, branch_bne]
  refine sp_pu (check_any (loads := G.reverse) (cp := fun k => cp (G.length - 1 - k)) (J := 3) (by simp) hs hl rfl rfl ?_ ?_ ?_ ?_) ?_
  · simp
  · simp; omega
  · exact fun x hx => hx4 x (List.mem_reverse.1 hx)
  · intro k hk
    have hk : k < G.length := by simpa using hk
    rw [ix_rev hk]
    exact ⟨_, rfl, ld_fam (F := 2) rfl rfl (by omega) (by simp) fun q _ => by simp⟩
  rw [hck, decide_eq_true (right_rev hR)]
  simp only [push_cast, ↓branch_true, ↓branch_false, Nat.reduceBEq, Nat.reduceAdd, Nat.reduceMul, Nat.reduceSub, Int.reduceToNat, reduceCtorEq, branch_decide, branch_not, branch_beq, branch_bne]
  refine sp_at (cloneL_sp G cp oc (by omega) hoc (by omega)) [1, 2] rfl ?_ ?_ ?_
  · simp only [push_cast, ↓branch_true, ↓branch_false, Nat.reduceBEq, Nat.reduceAdd, Nat.reduceMul, Nat.reduceSub, Int.reduceToNat, reduceCtorEq, branch_decide, branch_not, branch_beq, branch_bne]
  · simp only [push_cast, ↓branch_true, ↓branch_false, Nat.reduceBEq, Nat.reduceAdd, Nat.reduceMul, Nat.reduceSub, Int.reduceToNat, reduceCtorEq, branch_decide, branch_not, branch_beq, branch_bne]
  rintro _ _ ⟨c2, hc2, rfl, rfl⟩
  simp only [push_cast, ↓branch_true, ↓branch_false, Nat.reduceBEq, Nat.reduceAdd, Nat.reduceMul, Nat.reduceSub, Int.reduceToNat, reduceCtorEq, branch_decide, branch_not, branch_beq, branch_bne]
  repeat (with_reducible refine And.intro (by omega) ?_)
  refine Or.inr ?_
  repeat (with_reducible refine And.intro (by omega) ?_)
  intro c3 hc3
  refine sp_pu (check_any (loads := G ++ [[]]) (cp := fun k => if k < G.length then cp k else 0) (J := 6) (by simp) hs hl rfl rfl ?_ ?_ ?_ ?_) ?_
  · simp
  · simp; omega
  · intro x hx
    rcases List.mem_append.1 hx with hx | hx
    · exact hx4 x hx
    · simp at hx; subst hx; simp
  · intro k hk
    have hk : k < G.length + 1 := by simpa using hk
    refine ⟨_, appF_one rfl, ?_⟩
    by_cases hkn : k < G.length
    · rw [if_pos hkn, ix_app_ne (by omega), decide_eq_true hkn]
      exact ld_fam (F := 2) rfl rfl (by omega) (by simp) fun q _ => by simp
    · obtain rfl : k = G.length := by omega
      rw [if_neg hkn, ix_app_last, decide_eq_false hkn]
      exact .inr ⟨rfl, rfl, rfl⟩
  rw [hck, decide_eq_false not_empty]
  simp only [push_cast, ↓branch_true, ↓branch_false, Nat.reduceBEq, Nat.reduceAdd, Nat.reduceMul, Nat.reduceSub, Int.reduceToNat, reduceCtorEq, branch_decide, branch_not, branch_beq, branch_bne]
  intro _ _
  repeat (with_reducible refine And.intro (by omega) ?_)
  intro _
  refine sp_at (cloneL_sp G cp oc (by omega) hoc (by omega)) [1, 2] rfl ?_ ?_ ?_
  · simp only [push_cast, ↓branch_true, ↓branch_false, Nat.reduceBEq, Nat.reduceAdd, Nat.reduceMul, Nat.reduceSub, Int.reduceToNat, reduceCtorEq, branch_decide, branch_not, branch_beq, branch_bne]
  · simp only [push_cast, ↓branch_true, ↓branch_false, Nat.reduceBEq, Nat.reduceAdd, Nat.reduceMul, Nat.reduceSub, Int.reduceToNat, reduceCtorEq, branch_decide, branch_not, branch_beq, branch_bne]
  rintro _ _ ⟨c4, hc4, rfl, rfl⟩
  simp only [push_cast, ↓branch_true, ↓branch_false, Nat.reduceBEq, Nat.reduceAdd, Nat.reduceMul, Nat.reduceSub, Int.reduceToNat, reduceCtorEq, branch_decide, branch_not, branch_beq, branch_bne]
  refine sp_at (cloneL_sp G cp oc (by omega) hoc (by omega)) [1, 2] rfl ?_ ?_ ?_
  · simp only [push_cast, ↓branch_true, ↓branch_false, Nat.reduceBEq, Nat.reduceAdd, Nat.reduceMul, Nat.reduceSub, Int.reduceToNat, reduceCtorEq, branch_decide, branch_not, branch_beq, branch_bne]
  · simp only [push_cast, ↓branch_true, ↓branch_false, Nat.reduceBEq, Nat.reduceAdd, Nat.reduceMul, Nat.reduceSub, Int.reduceToNat, reduceCtorEq, branch_decide, branch_not, branch_beq, branch_bne]
  rintro _ _ ⟨c5, hc5, rfl, rfl⟩
  simp only [push_cast, ↓branch_true, ↓branch_false, Nat.reduceBEq, Nat.reduceAdd, Nat.reduceMul, Nat.reduceSub, Int.reduceToNat, reduceCtorEq, branch_decide, branch_not, branch_beq, branch_bne]
  repeat (with_reducible refine And.intro (by omega) ?_)
  repeat' (with_reducible (first | apply And.intro | intro _))
  all_goals try omega
  all_goals
    refine sp_at (cloneI_sp G cp i (by omega) hne (by omega)) [2] rfl ?_ ?_ ?_
    · simp only [push_cast, ↓branch_true, ↓branch_false, Nat.reduceBEq, Nat.reduceAdd, Nat.reduceMul, Nat.reduceSub, Int.reduceToNat, reduceCtorEq, branch_decide, branch_not, branch_beq, branch_bne]
    · simp only [push_cast, ↓branch_true, ↓branch_false, Nat.reduceBEq, Nat.reduceAdd, Nat.reduceMul, Nat.reduceSub, Int.reduceToNat, reduceCtorEq, branch_decide, branch_not, branch_beq, branch_bne]
    rintro _ _ ⟨c6, hc6, rfl, rfl⟩
    simp only [push_cast, ↓branch_true, ↓branch_false, Nat.reduceBEq, Nat.reduceAdd, Nat.reduceMul, Nat.reduceSub, Int.reduceToNat, reduceCtorEq, branch_decide, branch_not, branch_beq, branch_bne]
    repeat (with_reducible refine And.intro (by omega) ?_)
    refine Or.inr ?_
    repeat (with_reducible refine And.intro (by omega) ?_)
    intro c7 hc7
    repeat (with_reducible refine And.intro (by omega) ?_)
    refine sp_pu (check_any (loads := G.set i (ix G i).tail) (cp := fun k => if k = i then cp i - 1 else cp k) (J := 7) (by simp) hs hl rfl rfl ?_ ?_ ?_ ?_) ?_
    · simp
    · simp; omega
    · intro x hx
      rcases List.mem_or_eq_of_mem_set hx with hx | rfl
      · exact hx4 x hx
      · simp; omega
    · intro k hk
      have hk : k < G.length := by simpa using hk
      refine ⟨_, updF_one, ?_⟩
      by_cases hki : k = i
      · subst hki
        rw [beq_self_eq_true, if_pos rfl, ix_set_self (l := G) hin]
        exact ld_fam (F := 2) rfl (by simp) (by omega) (by simp; omega) fun q hq => by
          have hq : q < (ix G k).length - 1 := by simpa using hq
          rw [ix_tail]
      · have f1 : (k == i) = false := by simpa using hki
        rw [f1, if_neg hki, ix_set_ne hki]
        exact ld_fam (F := 2) rfl rfl (by omega) (by simp) fun q _ => by simp
    rw [hck, decide_eq_false (not_less hR hin (by simp; omega))]
    simp only [push_cast, ↓branch_true, ↓branch_false, Nat.reduceBEq, Nat.reduceAdd, Nat.reduceMul, Nat.reduceSub, Int.reduceToNat, reduceCtorEq, branch_decide, branch_not, branch_beq, branch_bne]
    refine sp_pu (check_any (loads := G.set i (ix G i ++ [ix (ix G 0) 0])) (cp := fun k => if k = i then c7 else cp k) (J := 8) (by simp) hs hl rfl rfl ?_ ?_ ?_ ?_) ?_
    · simp
    · simp; omega
    · intro x hx
      rcases List.mem_or_eq_of_mem_set hx with hx | rfl
      · exact hx4 x hx
      · simp; omega
    · intro k hk
      have hk : k < G.length := by simpa using hk
      refine ⟨_, updF_one, ?_⟩
      by_cases hki : k = i
      · subst hki
        rw [beq_self_eq_true, if_pos rfl, ix_set_self (l := G) hin]
        refine ld_fam (F := 11) rfl (by simp) (by omega) (by simp) fun q hq => ?_
        have hq : q < (ix G k).length + 1 := by simpa using hq
        refine (appF_one (f := fun k_1 => .v (.int .i64 (ix (ix G k) k_1))) (b := .v (.int .i64 (ix (ix G 0) 0))) rfl).trans ?_
        rw [Nat.zero_add, ix_snoc hq]
        cases decide (q < (ix G k).length) <;> rfl
      · have f1 : (k == i) = false := by simpa using hki
        rw [f1, if_neg hki, ix_set_ne hki]
        exact ld_fam (F := 2) rfl rfl (by omega) (by simp) fun q _ => by simp
    rw [hck, decide_eq_false (not_less hR hin (by simp))]
    simp only [push_cast, ↓branch_true, ↓branch_false, Nat.reduceBEq, Nat.reduceAdd, Nat.reduceMul, Nat.reduceSub, Int.reduceToNat, reduceCtorEq, branch_decide, branch_not, branch_beq, branch_bne]
end Go.Proofs.Ytdinkpefoljigaa
