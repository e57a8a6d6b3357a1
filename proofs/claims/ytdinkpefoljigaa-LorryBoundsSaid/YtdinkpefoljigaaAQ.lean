/- LorryLeast: the walk. -/
import Derived.Test.YtdinkpefoljigaaAP
import Derived.Test.YtdinkpefoljigaaAI
set_option maxRecDepth 100000
set_option linter.unusedSimpArgs false
set_option linter.unusedVariables false
namespace Go.Proofs.Ytdinkpefoljigaa
open Go.RowKit
theorem rright_any {H : List Ob} {l : List Bun} {loads : List (List Int)} {cp : Nat → Nat} {J lc c n : Nat} {most : Int} (hn : loads.length = n) (hv : vB l = true) (h0 : H[0]? = some (rB l)) {ty : Nat} {ro : Bool} {len cap : Nat → Nat} {f : Nat → Nat → List SV}
    (hJ : H[J]? = some ⟨ty, ro, .row 1 1 len cap f⟩) (hl : loads.length ≤ len 0) (hln : loads.length ≤ 2000) (hx : ∀ x ∈ loads, x.length ≤ 400000) (he : ∀ k, k < loads.length → ∃ x, f 0 k = [x] ∧ Ld H x (ix loads k) (cp k)) :
    Pu Try.prog 24 [.s 0 0 0 l.length c 4, .v (.int .i64 most), .s J 0 0 n lc 1] H (.v (.bool (decide (Right l most loads)))) := by
  subst hn
  exact pu_pre (wk_loads h0 hJ hl he) rfl (rright_pu l most loads c lc loads.length cp hv (Nat.le_refl _) hln hx)
theorem vok_ld {R : List (List Int)} {s : VS} {H : List Ob} {F k : Nat} (h : VOk R s) (hF : H[F]? = some (oFm s.M s.fl s.fc s.ff)) (hk : k < R.length) : Ld H (.s F (s.pi k) 0 (lnF R k) (s.fc (s.pi k)) 1) (ix R k) (s.fc (s.pi k)) :=
  ld_fam hF rfl (h.lt k hk) (by rw [Nat.zero_add]; exact h.len k hk) fun q hq => by rw [Nat.zero_add, h.val k hk q hq]
theorem right_len {l : List Bun} {most : Int} {R : List (List Int)} (h : Right l most R) {x : List Int} (hx : x ∈ R) : x.length ≤ l.length := by
  have h1 := h.all
  have : x.length ≤ R.flatten.length := by
    obtain ⟨a, b, rfl⟩ := List.append_of_mem hx
    simp only [List.flatten_append, List.flatten_cons, List.length_append]
    omega
  omega
theorem least_is {l : List Bun} {most : Int} (he : leastE l most = 0) : (leastR l most).length = optL l most ∧ Right l most (leastR l most) := by
  obtain ⟨e1, e2⟩ := leastE_ok he
  obtain ⟨hv, hm1, hm2, hm3⟩ := errG_ok e1
  by_cases h0 : l = []
  · rw [leastR_no (.inr h0)]
    subst h0
    exact ⟨rfl, ⟨fun i hi => by simp at hi, by simp, fun x hx => by simp at hx, by simp⟩⟩
  · obtain ⟨g1, _, g3⟩ := least_good he h0
    exact ⟨g3.trans (opt_any hv hm3 (sortK_perm (KH l) (rng l.length))), good_right g1⟩
set_option maxHeartbeats 2000000 in
theorem lleast_sp (l : List Bun) (most : Int) (c : Nat) (hs : strOk l) (hl : l.length ≤ 9223372036854775807) : Sp Try.prog 5 [.s 0 0 0 l.length c 4, .v (.int .i64 most)] [rB l] (fun r _ => r = .v (.bool true)) := by
  refine sp_of_ex true [] mixed Try.call5 Try.func5 rfl Try.ntmps5 Try.results5 (by decide +kernel) rfl ?_
  simp only [push_cast, ↓branch_true, ↓branch_false, Nat.reduceBEq, Nat.reduceAdd, Nat.reduceMul, Nat.reduceSub, Int.reduceToNat, reduceCtorEq, branch_decide, branch_not, branch_beq, branch_bne]
  refine sp_at awake_sp [] rfl ?_ ?_ ?_
  · simp only [push_cast, ↓branch_true, ↓branch_false, Nat.reduceBEq, Nat.reduceAdd, Nat.reduceMul, Nat.reduceSub, Int.reduceToNat, reduceCtorEq, branch_decide, branch_not, branch_beq, branch_bne]
  · simp only [push_cast, ↓branch_true, ↓branch_false, Nat.reduceBEq, Nat.reduceAdd, Nat.reduceMul, Nat.reduceSub, Int.reduceToNat, reduceCtorEq, branch_decide, branch_not, branch_beq, branch_bne]
  rintro _ _ ⟨rfl, rfl⟩
  simp only [push_cast, ↓branch_true, ↓branch_false, Nat.reduceBEq, Nat.reduceAdd, Nat.reduceMul, Nat.reduceSub, Int.reduceToNat, reduceCtorEq, branch_decide, branch_not, branch_beq, branch_bne]
  refine sp_call (many_pu l [] c 0 0 (fun _ => 0) hl (by decide)) rfl [0, 1, 2] rfl ?_ ?_ ?_
  · simp only [push_cast, ↓branch_true, ↓branch_false, Nat.reduceBEq, Nat.reduceAdd, Nat.reduceMul, Nat.reduceSub, Int.reduceToNat, reduceCtorEq, branch_decide, branch_not, branch_beq, branch_bne]
  · simp only [push_cast, ↓branch_true, ↓branch_false, Nat.reduceBEq, Nat.reduceAdd, Nat.reduceMul, Nat.reduceSub, Int.reduceToNat, reduceCtorEq, branch_decide, branch_not, branch_beq, branch_bne]
    omega
  simp only [push_cast, ↓branch_true, ↓branch_false, Nat.reduceBEq, Nat.reduceAdd, Nat.reduceMul, Nat.reduceSub, Int.reduceToNat, reduceCtorEq, branch_decide, branch_not, branch_beq, branch_bne]
  cases hm : manyB l [] with
  | true =>
    simp only [push_cast, ↓branch_true, ↓branch_false, Nat.reduceBEq, Nat.reduceAdd, Nat.reduceMul, Nat.reduceSub, Int.reduceToNat, reduceCtorEq, branch_decide, branch_not, branch_beq, branch_bne]
  | false =>
  simp only [push_cast, ↓branch_true, ↓branch_false, Nat.reduceBEq, Nat.reduceAdd, Nat.reduceMul, Nat.reduceSub, Int.reduceToNat, reduceCtorEq, branch_decide, branch_not, branch_beq, branch_bne]
  refine ⟨fun h7 h12 => ?_, fun h7 => ?_⟩
  all_goals
    refine sp_at (least_sp l most c hs hl) [0] rfl ?_ ?_ ?_
    · simp only [push_cast, ↓branch_true, ↓branch_false, Nat.reduceBEq, Nat.reduceAdd, Nat.reduceMul, Nat.reduceSub, Int.reduceToNat, reduceCtorEq, branch_decide, branch_not, branch_beq, branch_bne]
    · simp only [push_cast, ↓branch_true, ↓branch_false, Nat.reduceBEq, Nat.reduceAdd, Nat.reduceMul, Nat.reduceSub, Int.reduceToNat, reduceCtorEq, branch_decide, branch_not, branch_beq, branch_bne]
    rintro _ _ ⟨t, bc, g1, g2, g3, rfl, rfl⟩
    simp only [push_cast, ↓branch_true, ↓branch_false, Nat.reduceBEq, Nat.reduceAdd, Nat.reduceMul, Nat.reduceSub, Int.reduceToNat, reduceCtorEq, branch_decide, branch_not, branch_beq, branch_bne]
    refine sp_call (rgiven_pu l most c hs hl) rfl [0] rfl (by simp only [push_cast, ↓branch_true, ↓branch_false, Nat.reduceBEq, Nat.reduceAdd, Nat.reduceMul, Nat.reduceSub, Int.reduceToNat, reduceCtorEq, branch_decide, branch_not, branch_beq, branch_bne]) (by simp only [push_cast, ↓branch_true, ↓branch_false, Nat.reduceBEq, Nat.reduceAdd, Nat.reduceMul, Nat.reduceSub, Int.reduceToNat, reduceCtorEq, branch_decide, branch_not, branch_beq, branch_bne]) ?_
    simp only [push_cast, ↓branch_true, ↓branch_false, Nat.reduceBEq, Nat.reduceAdd, Nat.reduceMul, Nat.reduceSub, Int.reduceToNat, reduceCtorEq, branch_decide, branch_not, branch_beq, branch_bne]
  · have hE : leastE l most ≠ 0 := fun h => by have := (leastE_ok h).2; omega
    rw [leastR_no (.inl hE)]
    simp only [push_cast, ↓branch_true, ↓branch_false, Nat.reduceBEq, Nat.reduceAdd, Nat.reduceMul, Nat.reduceSub, Int.reduceToNat, reduceCtorEq, branch_decide, branch_not, branch_beq, branch_bne]
    refine ⟨fun he => ⟨fun _ _ _ => ?_, fun h => absurd h (by omega)⟩, fun he _ _ => ?_⟩
    · rw [show leastE l most = 6 by rw [leastE, if_neg (by simp [he]), if_pos (by omega)]]; rfl
    · rw [show leastE l most = errG l most from if_pos he]; simp
  · refine ⟨fun he => ⟨fun h => absurd h (by omega), fun _ => ⟨fun hE => ?_, fun h => absurd (by rw [leastE, if_neg (by simp [he]), if_neg (by omega)]) h⟩⟩, fun he => ?_⟩
    rotate_left
    · have e : leastE l most = errG l most := if_pos he
      have hl0 : (leastR l most).length = 0 := by rw [leastR_no (.inl (by rw [e]; exact he))]; rfl
      refine ⟨fun _ => ⟨fun _ => by rw [e]; simp, fun h => absurd (by omega) h⟩, fun h => absurd (by omega) h⟩
    obtain ⟨hv, hm1, hm2, hm3⟩ := errG_ok he
    obtain ⟨e1, hR⟩ := least_is hE
    refine sp_call (rleast_pu l most c hv (by omega) hm1 hm2 hm3) rfl [0] rfl ?_ ?_ ?_
    · simp only [push_cast, ↓branch_true, ↓branch_false, Nat.reduceBEq, Nat.reduceAdd, Nat.reduceMul, Nat.reduceSub, Int.reduceToNat, reduceCtorEq, branch_decide, branch_not, branch_beq, branch_bne]
    · simp only [push_cast, ↓branch_true, ↓branch_false, Nat.reduceBEq, Nat.reduceAdd, Nat.reduceMul, Nat.reduceSub, Int.reduceToNat, reduceCtorEq, branch_decide, branch_not, branch_beq, branch_bne]
    simp only [push_cast, ↓branch_true, ↓branch_false, Nat.reduceBEq, Nat.reduceAdd, Nat.reduceMul, Nat.reduceSub, Int.reduceToNat, reduceCtorEq, branch_decide, branch_not, branch_beq, branch_bne]
    refine ⟨fun _ => ?_, fun h => absurd (by rw [e1]) h⟩
    refine sp_pu (rright_any (loads := leastR l most) (cp := fun k => t.fc (t.pi k)) (J := 1) rfl hv rfl rfl (Nat.le_refl _) (by omega) (fun x hx => by have := right_len hR hx; omega) fun k hk => ⟨_, rfl, vok_ld g1 rfl hk⟩) ?_
    rw [decide_eq_true hR]
    simp only [push_cast, ↓branch_true, ↓branch_false, Nat.reduceBEq, Nat.reduceAdd, Nat.reduceMul, Nat.reduceSub, Int.reduceToNat, reduceCtorEq, branch_decide, branch_not, branch_beq, branch_bne]
end Go.Proofs.Ytdinkpefoljigaa
