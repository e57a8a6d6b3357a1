/- Contracts: the reference's Add. -/
import Derived.Test.YtekokeiajgcfkaaH
set_option maxRecDepth 100000
set_option linter.unusedSimpArgs false
set_option linter.unusedVariables false
namespace Go.Proofs.Ytekokeiajgcfkaa
open Go.RowKit
theorem short_big : ∀ (l : List Stp) (last : Int), last ≤ 1099511627776 → (shortL last l).any bigB = l.any bigB
  | [], _, _ => rfl
  | p :: l, last, h => by
    rw [shortL]
    by_cases hp : p.v = last
    · rw [if_pos hp, short_big l p.v (by omega), List.any_cons]
      have : bigB p = false := by simp [bigB]; omega
      rw [this, Bool.false_or]
    · rw [if_neg hp, List.any_cons, List.any_cons]
      by_cases hb : bigB p = true
      · rw [hb, Bool.true_or, Bool.true_or]
      · have hb2 : ¬ 1099511627776 < p.v := by simpa [bigB] using hb
        rw [short_big l p.v (by omega)]
theorem full_sp (l : List Stp) (c : Nat) : Sp Try.prog 45 [.s 0 0 0 l.length c 2] [rSO l c] (fun r H => (200 < l.length → r = .t [.v (.slice none 0 0), .v (.int .i64 4)]) ∧ (¬ 200 < l.length → r = .t [.s 0 0 0 l.length c 2, .v (.int .i64 0)]) ∧ H = [rSO l c]) := by
  refine sp_of_ex true [] mixed Try.call45 Try.func45 rfl Try.ntmps45 Try.results45 (by decide +kernel) rfl ?_
  simp only [push_cast, ↓branch_true, ↓branch_false, Nat.reduceBEq, Nat.reduceAdd, Nat.reduceMul, Nat.reduceSub, Int.reduceToNat, reduceCtorEq, branch_decide, branch_not, branch_beq, branch_bne]
  refine ⟨fun h h' => absurd (by omega) h', fun h h' => absurd h' (by omega)⟩
theorem joinE_ok {f : Int → Int → Int} {a b : List Stp} (hva : validB a = true) (hvb : validB b = true) : joinE f a b = if (opL f a b (brk a b)).any bigB then 5 else if 200 < (joinL f a b).length then 4 else 0 := by
  rw [joinE, hva, hvb]
  have : (joinL f a b).any bigB = (opL f a b (brk a b)).any bigB := short_big _ 0 (by decide)
  simp only [this]
  rfl
theorem take_ix {α : Type} [Inhabited α] {l : List α} {k : Nat} (h : k < l.length) : l.take (k + 1) = l.take k ++ [ix l k] := by
  rw [ix_eq h]
  exact (List.take_append_getElem h).symm
theorem radd_sp (a b : List Stp) (c d : Nat) (hva : validB a = true) (hvb : validB b = true) : Sp Try.prog 16 [.s 0 0 0 a.length c 2, .s 1 0 0 b.length d 2] [rSt a, rSt b] (fun r H => ∃ cap, (joinR addF a b).length ≤ cap ∧ r = .t [.s 2 0 0 (joinR addF a b).length cap 2, .v (.int .i64 (joinE addF a b))] ∧ H = [rSt a, rSt b, rSO (joinR addF a b) cap]) := by
  have hla := (valid_yes.1 hva).1
  have hlb := (valid_yes.1 hvb).1
  have hbl := brk_len a b
  refine sp_weak ?_
  refine sp_of_ex true [] mixed Try.call16 Try.func16 rfl Try.ntmps16 Try.results16 (by decide +kernel) rfl ?_
  simp only [push_cast, ↓branch_true, ↓branch_false, Nat.reduceBEq, Nat.reduceAdd, Nat.reduceMul, Nat.reduceSub, Int.reduceToNat, reduceCtorEq, branch_decide, branch_not, branch_beq, branch_bne]
  refine sp_at (places_sp a b c d (by omega) (by omega)) [0, 1] rfl ?_ ?_ ?_
  · simp only [push_cast, ↓branch_true, ↓branch_false, Nat.reduceBEq, Nat.reduceAdd, Nat.reduceMul, Nat.reduceSub, Int.reduceToNat, reduceCtorEq, branch_decide, branch_not, branch_beq, branch_bne]
  · simp only [push_cast, ↓branch_true, ↓branch_false, Nat.reduceBEq, Nat.reduceAdd, Nat.reduceMul, Nat.reduceSub, Int.reduceToNat, reduceCtorEq, branch_decide, branch_not, branch_beq, branch_bne]
  rintro _ _ ⟨bcap, hbcap, rfl, rfl⟩
  simp only [push_cast, ↓branch_true, ↓branch_false, Nat.reduceBEq, Nat.reduceAdd, Nat.reduceMul, Nat.reduceSub, Int.reduceToNat, reduceCtorEq, branch_decide, branch_not, branch_beq, branch_bne]
  obtain ⟨L, hL⟩ : ∃ L, L = brk a b := ⟨_, rfl⟩
  rw [← hL] at hbcap hbl ⊢
  refine tr_loop mixed (by kernel_rfl) (fun (x : Nat × Nat) => [(8, .v (.int .i64 x.1)), (6, .s 2 0 0 L.length bcap 1), (7, .s 3 0 0 x.1 x.2 2), (0, .s 0 0 0 a.length c 2), (1, .s 1 0 0 b.length d 2)])
    (fun x => [rSt a, rSt b, rIO L bcap, rSO (opL addF a b (L.take x.1)) x.2]) (fun x => x.1 ≤ L.length ∧ x.1 ≤ x.2 ∧ (opL addF a b (L.take x.1)).any bigB = false) (fun x => L.length - x.1) (0, 0) ⟨Nat.zero_le _, Nat.le_refl _, rfl⟩ (Mt.wk (rl := [0, 1, 2, 3]) ⟨by kernel_rfl, ?_, ?_⟩) ?_
  · simp only [push_cast, ↓branch_true, ↓branch_false, Nat.reduceBEq, Nat.reduceAdd, Nat.reduceMul, Nat.reduceSub, Int.reduceToNat, reduceCtorEq, branch_decide, branch_not, branch_beq, branch_bne]
  · simp only [push_cast, ↓branch_true, ↓branch_false, Nat.reduceBEq, Nat.reduceAdd, Nat.reduceMul, Nat.reduceSub, Int.reduceToNat, reduceCtorEq, branch_decide, branch_not, branch_beq, branch_bne]
    simp [opL]
  rintro ⟨k, cap⟩ ⟨h1, h2, h3⟩
  simp only at h1 h2 h3
  simp only [push_cast, ↓branch_true, ↓branch_false, Nat.reduceBEq, Nat.reduceAdd, Nat.reduceMul, Nat.reduceSub, Int.reduceToNat, reduceCtorEq, branch_decide, branch_not, branch_beq, branch_bne]
  refine ⟨fun h => ?_, fun h => ?_⟩
  · repeat (with_reducible refine And.intro (by omega) ?_)
    have hk : k < L.length := by omega
    have ra := at_range hva (ix L k)
    have rb := at_range hvb (ix L k)
    refine qc_call (rat_pu a c (ix L k) (by omega)) rfl [0] rfl (by simp only [push_cast, ↓branch_true, ↓branch_false, Nat.reduceBEq, Nat.reduceAdd, Nat.reduceMul, Nat.reduceSub, Int.reduceToNat, reduceCtorEq, branch_decide, branch_not, branch_beq, branch_bne]) (by simp only [push_cast, ↓branch_true, ↓branch_false, Nat.reduceBEq, Nat.reduceAdd, Nat.reduceMul, Nat.reduceSub, Int.reduceToNat, reduceCtorEq, branch_decide, branch_not, branch_beq, branch_bne]) ?_
    simp only [push_cast, ↓branch_true, ↓branch_false, Nat.reduceBEq, Nat.reduceAdd, Nat.reduceMul, Nat.reduceSub, Int.reduceToNat, reduceCtorEq, branch_decide, branch_not, branch_beq, branch_bne]
    repeat (with_reducible refine And.intro (by omega) ?_)
    refine qc_call (rat_pu b d (ix L k) (by omega)) rfl [1] rfl (by simp only [push_cast, ↓branch_true, ↓branch_false, Nat.reduceBEq, Nat.reduceAdd, Nat.reduceMul, Nat.reduceSub, Int.reduceToNat, reduceCtorEq, branch_decide, branch_not, branch_beq, branch_bne]) (by simp only [push_cast, ↓branch_true, ↓branch_false, Nat.reduceBEq, Nat.reduceAdd, Nat.reduceMul, Nat.reduceSub, Int.reduceToNat, reduceCtorEq, branch_decide, branch_not, branch_beq, branch_bne]) ?_
    simp only [push_cast, ↓branch_true, ↓branch_false, Nat.reduceBEq, Nat.reduceAdd, Nat.reduceMul, Nat.reduceSub, Int.reduceToNat, reduceCtorEq, branch_decide, branch_not, branch_beq, branch_bne]
    repeat (with_reducible refine And.intro (by omega) ?_)
    have hstep : opL addF a b (L.take (k + 1)) = opL addF a b (L.take k) ++ [⟨ix L k, atL a (ix L k) + atL b (ix L k)⟩] := by
      rw [take_ix hk, opL, List.map_append]
      rfl
    refine ⟨fun h6 => ?_, fun h6 => ?_⟩
    · have he : joinE addF a b = 5 := by
        rw [joinE_ok hva hvb, ← hL, if_pos]
        rw [List.any_eq_true]
        exact ⟨⟨ix L k, addF (atL a (ix L k)) (atL b (ix L k))⟩, List.mem_map.2 ⟨ix L k, ix_mem hk, rfl⟩, decide_eq_true (by show 1099511627776 < atL a (ix L k) + atL b (ix L k); omega)⟩
      have hr := joinR_err he (by decide)
      rw [he, hr]
      refine ⟨_, _, [0, 1, 4], ?_, by kernel_rfl, ?_, 0, Nat.le_refl _, rfl, rfl⟩ <;> (simp only [push_cast, ↓branch_true, ↓branch_false, Nat.reduceBEq, Nat.reduceAdd, Nat.reduceMul, Nat.reduceSub, Int.reduceToNat, reduceCtorEq, branch_decide, branch_not, branch_beq, branch_bne])
    · repeat (with_reducible refine And.intro (by omega) ?_)
      have hol : (opL addF a b (L.take k)).length = k := by rw [opL_len, List.length_take]; omega
      refine .inr ⟨hol, ?_⟩
      repeat (with_reducible refine And.intro (by omega) ?_)
      intro cap2 hcap2
      repeat (with_reducible refine And.intro (by omega) ?_)
      have hap := app_st hstep [0, 1, 2, 5]
      rw [hol] at hap
      refine lpK_normal (k + 1, cap2) [0, 1, 2, 5] ⟨by simp only; omega, by simp only; omega, ?_⟩ (by simp only; omega) (by kernel_rfl) ?_ ?_
      · simp only [hstep, List.any_append, h3]
        simp [bigB]
        omega
      · simp only [push_cast, ↓branch_true, ↓branch_false, Nat.reduceBEq, Nat.reduceAdd, Nat.reduceMul, Nat.reduceSub, Int.reduceToNat, reduceCtorEq, branch_decide, branch_not, branch_beq, branch_bne]
      · simp only [push_cast, ↓branch_true, ↓branch_false, Nat.reduceBEq, Nat.reduceAdd, Nat.reduceMul, Nat.reduceSub, Int.reduceToNat, reduceCtorEq, branch_decide, branch_not, branch_beq, branch_bne]
        exact fun i hi => hap
  · obtain rfl : k = L.length := by omega
    rw [List.take_length] at h3 ⊢
    have hol : (opL addF a b L).length = L.length := opL_len
    have hS := rshort_sp (opL addF a b L) cap (by rw [hol]; omega)
    rw [hol] at hS
    refine sp_at hS [3] rfl ?_ ?_ ?_
    · simp only [push_cast, ↓branch_true, ↓branch_false, Nat.reduceBEq, Nat.reduceAdd, Nat.reduceMul, Nat.reduceSub, Int.reduceToNat, reduceCtorEq, branch_decide, branch_not, branch_beq, branch_bne]
    · simp only [push_cast, ↓branch_true, ↓branch_false, Nat.reduceBEq, Nat.reduceAdd, Nat.reduceMul, Nat.reduceSub, Int.reduceToNat, reduceCtorEq, branch_decide, branch_not, branch_beq, branch_bne]
    rintro _ _ ⟨cap2, hcap2, rfl, rfl⟩
    simp only [push_cast, ↓branch_true, ↓branch_false, Nat.reduceBEq, Nat.reduceAdd, Nat.reduceMul, Nat.reduceSub, Int.reduceToNat, reduceCtorEq, branch_decide, branch_not, branch_beq, branch_bne]
    have hSl := shortL_len (opL addF a b L) 0
    obtain ⟨J, hJ⟩ : ∃ J, J = shortL 0 (opL addF a b L) := ⟨_, rfl⟩
    have hJ2 : joinL addF a b = J := by rw [hJ, hL]; rfl
    rw [← hJ] at hcap2 hSl ⊢
    refine sp_at (full_sp J cap2) [4] rfl ?_ ?_ ?_
    · simp only [push_cast, ↓branch_true, ↓branch_false, Nat.reduceBEq, Nat.reduceAdd, Nat.reduceMul, Nat.reduceSub, Int.reduceToNat, reduceCtorEq, branch_decide, branch_not, branch_beq, branch_bne]
    · simp only [push_cast, ↓branch_true, ↓branch_false, Nat.reduceBEq, Nat.reduceAdd, Nat.reduceMul, Nat.reduceSub, Int.reduceToNat, reduceCtorEq, branch_decide, branch_not, branch_beq, branch_bne]
    rintro r0 _ ⟨f1, f2, rfl⟩
    by_cases hlen : 200 < J.length
    · rw [f1 hlen]
      have he : joinE addF a b = 4 := by rw [joinE_ok hva hvb, ← hL, hJ2, h3, if_neg (by simp), if_pos hlen]
      have hr := joinR_err he (by decide)
      rw [he, hr]
      simp only [push_cast, ↓branch_true, ↓branch_false, Nat.reduceBEq, Nat.reduceAdd, Nat.reduceMul, Nat.reduceSub, Int.reduceToNat, reduceCtorEq, branch_decide, branch_not, branch_beq, branch_bne]
      refine ⟨_, _, [0, 1, 5], ?_, by kernel_rfl, ?_, 0, Nat.le_refl _, rfl, rfl⟩ <;> (simp only [push_cast, ↓branch_true, ↓branch_false, Nat.reduceBEq, Nat.reduceAdd, Nat.reduceMul, Nat.reduceSub, Int.reduceToNat, reduceCtorEq, branch_decide, branch_not, branch_beq, branch_bne])
    · rw [f2 hlen]
      have he : joinE addF a b = 0 := by rw [joinE_ok hva hvb, ← hL, hJ2, h3, if_neg (by simp), if_neg hlen]
      have hr := joinR_ok he
      rw [he, hr, hJ2]
      simp only [push_cast, ↓branch_true, ↓branch_false, Nat.reduceBEq, Nat.reduceAdd, Nat.reduceMul, Nat.reduceSub, Int.reduceToNat, reduceCtorEq, branch_decide, branch_not, branch_beq, branch_bne]
      refine ⟨_, _, [0, 1, 4], ?_, by kernel_rfl, ?_, cap2, hcap2, rfl, rfl⟩ <;> (simp only [push_cast, ↓branch_true, ↓branch_false, Nat.reduceBEq, Nat.reduceAdd, Nat.reduceMul, Nat.reduceSub, Int.reduceToNat, reduceCtorEq, branch_decide, branch_not, branch_beq, branch_bne])
end Go.Proofs.Ytekokeiajgcfkaa
