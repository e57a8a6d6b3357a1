/- Contracts: Least. -/
import Derived.Test.YtdinkpefoljigaaAN
import Derived.Test.YtdinkpefoljigaaO
set_option maxRecDepth 100000
set_option linter.unusedSimpArgs false
set_option linter.unusedVariables false
namespace Go.Proofs.Ytdinkpefoljigaa
open Go.RowKit
/-- The error of Least. -/
def leastE (l : List Bun) (most : Int) : Int := if errG l most ≠ 0 then errG l most else if 12 < l.length then 6 else 0
/-- The loads of Least. -/
def leastR (l : List Bun) (most : Int) : List (List Int) := if leastE l most = 0 ∧ l ≠ [] then vis l most (heavO l) [] [] else []
theorem leastR_no {l : List Bun} {most : Int} (h : leastE l most ≠ 0 ∨ l = []) : leastR l most = [] := by
  unfold leastR
  rw [if_neg]
  rintro ⟨h1, h2⟩
  rcases h with h | h
  · exact h h1
  · exact h2 h
theorem leastE_ok {l : List Bun} {most : Int} (h : leastE l most = 0) : errG l most = 0 ∧ l.length ≤ 12 := by
  unfold leastE at h
  split at h
  · omega
  · split at h
    · omega
    · exact ⟨by omega, by omega⟩
theorem vok_nil (s : VS) : VOk [] s := ⟨fun k hk => by simp at hk, fun k hk => by simp at hk, fun k hk => by simp at hk, fun a b ha => by simp at ha, fun k hk => by simp at hk⟩
theorem least_good {l : List Bun} {most : Int} (he : leastE l most = 0) (h0 : l ≠ []) : Good l most (leastR l most) ∧ leastR l most ≠ [] ∧ (leastR l most).length = optF most (wsL l (heavO l)) [] := by
  obtain ⟨e1, e2⟩ := leastE_ok he
  obtain ⟨hv, hm1, hm2, hm3⟩ := errG_ok e1
  have hr : leastR l most = vis l most (heavO l) [] [] := if_pos ⟨he, h0⟩
  have hg : Good l most (leastR l most) := by
    rw [hr]
    exact vis_good (heavO l) [] [] (fun i hi => by obtain ⟨a, b⟩ := heavO_mem hi; exact hm3 _ (by omega)) (fun y hy => by cases hy) (by rw [List.flatten_nil, List.nil_append]; exact sortK_perm (KH l) (rng l.length)) (.inl rfl)
  refine ⟨hg, fun e => ?_, ?_⟩
  · have h1 := hg.1.length_eq
    rw [e, rng_len] at h1
    exact h0 (List.length_eq_zero_iff.1 h1.symm)
  · rw [hr, vis_len (heavO l) [] [] (fun i hi => by
      obtain ⟨a, b⟩ := heavO_mem hi
      exact ⟨(okA_mass ((vB_yes.1 hv).2 i.toNat (by omega))).1, hm3 _ (by omega)⟩) (fun y hy => by cases hy)]
    rfl
set_option maxHeartbeats 2000000 in
theorem least_sp (l : List Bun) (most : Int) (c : Nat) (hs : strOk l) (hl : l.length ≤ 9223372036854775807) : Sp Try.prog 22 [.s 0 0 0 l.length c 4, .v (.int .i64 most)] [rB l]
    (fun r H => ∃ (t : VS) (bc : Nat), VOk (leastR l most) t ∧ (leastR l most).length ≤ bc ∧ (leastR l most).length ≤ 12 ∧ r = .t [.v (.int .i64 (leastR l most).length), .s 1 0 0 (leastR l most).length bc 1, .v (.int .i64 (leastE l most))] ∧
      H = [rB l, oLd 2 (leastR l most).length bc t.pi (lnF (leastR l most)) t.fc, oFm t.M t.fl t.fc t.ff]) := by
  have key : ∀ e, leastE l most = e → (e ≠ 0 ∨ l = []) → ∃ r H2 rl, mt rl r (.t [.v (.int .i64 0), .v (.slice none 0 0), .v (.int .i64 e)]) ∧ (keepB 0 rl 1 && nodupB (liveL rl H2) && Nat.beq rl.length H2.length) = true ∧ obsM rl [rB l] rl H2 ∧ ∃ (t : VS) (bc : Nat), VOk (leastR l most) t ∧ (leastR l most).length ≤ bc ∧ (leastR l most).length ≤ 12 ∧ r = .t [.v (.int .i64 (leastR l most).length), .s 1 0 0 (leastR l most).length bc 1, .v (.int .i64 (leastE l most))] ∧
      H2 = [rB l, oLd 2 (leastR l most).length bc t.pi (lnF (leastR l most)) t.fc, oFm t.M t.fl t.fc t.ff] := by
    intro e he hn
    have e1 : leastR l most = [] := leastR_no (by rcases hn with hn | hn; exact .inl (he ▸ hn); exact .inr hn)
    rw [e1, he]
    refine ⟨_, _, [0, 1, 2], ?_, by kernel_rfl, ?_, ⟨0, fun _ => 0, fun _ => 0, fun _ _ => 0, fun _ => 0⟩, 0, vok_nil _, Nat.le_refl _, by simp, rfl, rfl⟩
    · simp only [push_cast, ↓branch_true, ↓branch_false, Nat.reduceBEq, Nat.reduceAdd, Nat.reduceMul, Nat.reduceSub, Int.reduceToNat, reduceCtorEq, branch_decide, branch_not, branch_beq, branch_bne]
    · simp only [push_cast, ↓branch_true, ↓branch_false, Nat.reduceBEq, Nat.reduceAdd, Nat.reduceMul, Nat.reduceSub, Int.reduceToNat, reduceCtorEq, branch_decide, branch_not, branch_beq, branch_bne]
      decide
  refine sp_weak ?_
  refine sp_of_ex true [(10, .one 0 (.one 1 (.one 2 (.one 5 (.one 6 (.one 7 (.alt [(3, .one 4 (.one 9 (.one 8 (.one 10 (.one 11 .fin))))), (8, .one 3 (.one 4 (.one 9 (.one 10 (.one 11 .fin)))))])))))))] mixed Try.call22 Try.func22 rfl Try.ntmps22 Try.results22 (by decide +kernel) rfl ?_
  simp only [push_cast, ↓branch_true, ↓branch_false, Nat.reduceBEq, Nat.reduceAdd, Nat.reduceMul, Nat.reduceSub, Int.reduceToNat, reduceCtorEq, branch_decide, branch_not, branch_beq, branch_bne]
  refine sp_call (given_pu l most c hs hl) rfl [0] rfl (by simp only [push_cast, ↓branch_true, ↓branch_false, Nat.reduceBEq, Nat.reduceAdd, Nat.reduceMul, Nat.reduceSub, Int.reduceToNat, reduceCtorEq, branch_decide, branch_not, branch_beq, branch_bne]) (by simp only [push_cast, ↓branch_true, ↓branch_false, Nat.reduceBEq, Nat.reduceAdd, Nat.reduceMul, Nat.reduceSub, Int.reduceToNat, reduceCtorEq, branch_decide, branch_not, branch_beq, branch_bne]) ?_
  simp only [push_cast, ↓branch_true, ↓branch_false, Nat.reduceBEq, Nat.reduceAdd, Nat.reduceMul, Nat.reduceSub, Int.reduceToNat, reduceCtorEq, branch_decide, branch_not, branch_beq, branch_bne]
  refine ⟨fun he => ?_, fun he => ?_⟩
  rotate_left
  · exact key _ (if_pos he) (.inl he)
  refine ⟨fun h12 => ?_, fun h12 => ?_⟩
  · exact key 6 (by rw [leastE, if_neg (by simp [he]), if_pos (by omega)]) (.inl (by decide))
  have hE : leastE l most = 0 := by rw [leastE, if_neg (by simp [he]), if_neg (by omega)]
  refine ⟨fun h0 => ?_, fun h0 => ?_⟩
  · exact key 0 hE (.inr (List.length_eq_zero_iff.1 (by omega)))
  have hne : l ≠ [] := fun e => h0 (by rw [e]; rfl)
  have hlp : 0 < l.length := List.length_pos_iff.2 hne
  obtain ⟨hv, hm1, hm2, hm3⟩ := errG_ok he
  obtain ⟨hg, hR, _⟩ := least_good hE hne
  have hr : leastR l most = vis l most (heavO l) [] [] := if_pos ⟨hE, hne⟩
  refine sp_at (heaviest_sp l c hv) [0] rfl ?_ ?_ ?_
  · simp only [push_cast, ↓branch_true, ↓branch_false, Nat.reduceBEq, Nat.reduceAdd, Nat.reduceMul, Nat.reduceSub, Int.reduceToNat, reduceCtorEq, branch_decide, branch_not, branch_beq, branch_bne]
  · simp only [push_cast, ↓branch_true, ↓branch_false, Nat.reduceBEq, Nat.reduceAdd, Nat.reduceMul, Nat.reduceSub, Int.reduceToNat, reduceCtorEq, branch_decide, branch_not, branch_beq, branch_bne]
  rintro _ _ ⟨hcap, hh, rfl, rfl⟩
  simp only [push_cast, ↓branch_true, ↓branch_false, Nat.reduceBEq, Nat.reduceAdd, Nat.reduceMul, Nat.reduceSub, Int.reduceToNat, reduceCtorEq, branch_decide, branch_not, branch_beq, branch_bne]
  have hxl := heavO_len l
  have hvi := visit_sp l most c hcap (heavO l) hv hm1 hm2 (fun i hi => by obtain ⟨a, b⟩ := heavO_mem hi; exact ⟨a, b, hm3 _ (by omega)⟩) (by omega) (heavO l) 0 [] [] 0 0 0 ⟨0, fun _ => 0, fun _ => 0, fun _ _ => 0, fun _ => 0⟩ ⟨0, fun _ => 0, fun _ => 0, fun _ _ => 0, fun _ => 0⟩ (by omega) rfl (by simp; omega) ⟨by simp; omega, fun y hy => by cases hy⟩ (vok_nil _) (vok_nil _) (Nat.le_refl _) (by simp)
  rw [← hr, hxl, bV_nil] at hvi
  refine sp_pre_mt [0, 1, 2, 3, 4, 5, 6, 7] ?_ (by kernel_rfl) ?_ (sp_mono hvi ?_)
  · simp only [push_cast, ↓branch_true, ↓branch_false, Nat.reduceBEq, Nat.reduceAdd, Nat.reduceMul, Nat.reduceSub, Int.reduceToNat, reduceCtorEq, branch_decide, branch_not, branch_beq, branch_bne]
  · simp only [push_cast, ↓branch_true, ↓branch_false, Nat.reduceBEq, Nat.reduceAdd, Nat.reduceMul, Nat.reduceSub, Int.reduceToNat, reduceCtorEq, branch_decide, branch_not, branch_beq, branch_bne]
    exact ⟨by decide, by decide, by decide, by decide, .inl rfl⟩
  rintro _ _ ⟨s', t', bc', g1, g2, g3, g4, g5, rfl, rfl⟩
  rw [bV_some hR]
  simp only [push_cast, ↓branch_true, ↓branch_false, Nat.reduceBEq, Nat.reduceAdd, Nat.reduceMul, Nat.reduceSub, Int.reduceToNat, reduceCtorEq, branch_decide, branch_not, branch_beq, branch_bne]
  rw [hE]
  refine ⟨?_, ?_⟩
  all_goals
    refine ⟨_, _, [0, 8, 4], ?_, by kernel_rfl, ?_, t', bc', g3, g4, g5, rfl, rfl⟩
    · simp only [push_cast, ↓branch_true, ↓branch_false, Nat.reduceBEq, Nat.reduceAdd, Nat.reduceMul, Nat.reduceSub, Int.reduceToNat, reduceCtorEq, branch_decide, branch_not, branch_beq, branch_bne]
    · simp only [push_cast, ↓branch_true, ↓branch_false, Nat.reduceBEq, Nat.reduceAdd, Nat.reduceMul, Nat.reduceSub, Int.reduceToNat, reduceCtorEq, branch_decide, branch_not, branch_beq, branch_bne]
end Go.Proofs.Ytdinkpefoljigaa
