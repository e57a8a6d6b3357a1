/- Contracts: the reference's Places. -/
import Derived.Test.YtekokeiajgcfkaaG
set_option maxRecDepth 100000
set_option linter.unusedSimpArgs false
set_option linter.unusedVariables false
namespace Go.Proofs.Ytekokeiajgcfkaa
open Go.RowKit
theorem app_int {p q : List Int} {v : Int} (e : q = p ++ [v]) (rl : List Nat) : q.length ≤ p.length + 1 ∧ ∀ k, k < q.length → Value.int IntKind.i64 (ix q k) = Value.int IntKind.i64 (bif decide (k < p.length) then ix p k else v) ∧ mtL rl [] (bif decide (k < p.length) then [] else []) := by
  subst e
  refine ⟨by simp, fun k hk => ?_⟩
  have h2 : mtL rl [] (bif decide (k < p.length) then ([] : List SV) else []) := by cases decide (k < p.length) <;> simp [mtL]
  refine ⟨?_, h2⟩
  rw [ix_eq hk]
  by_cases h : k < p.length
  · simp [h, ix_eq h, List.getElem_append_left h]
  · have : k = p.length := by simp at hk; omega
    subst this
    simp
def rIO (l : List Int) (cap : Nat) : Ob := rOwn 3 l.length cap (fun k => ix l k)
attribute [push_cast] rIO
theorem brk_step {a b : List Stp} {out : List Int} {n i j i' j' : Nat} (h4 : (a.length - i) + (b.length - j) ≤ n) (h5 : brk a b = out ++ brkF n (a.drop i) (b.drop j)) (x : Int) (hx : x = nxt (a.drop i) (b.drop j)) (hne : i < a.length ∨ j < b.length)
    (ha : a.drop i' = drp x (a.drop i)) (hb : b.drop j' = drp x (b.drop j)) (hle : (a.length - i') + (b.length - j') < (a.length - i) + (b.length - j)) : ∃ n', (a.length - i') + (b.length - j') ≤ n' ∧ brk a b = (out ++ [x]) ++ brkF n' (a.drop i') (b.drop j') := by
  obtain ⟨m, rfl⟩ : ∃ m, n = m + 1 := ⟨n - 1, by omega⟩
  refine ⟨m, by omega, ?_⟩
  have hn0 : ¬ ((a.drop i).length = 0 ∧ (b.drop j).length = 0) := by simp only [List.length_drop]; omega
  rw [h5, brkF, if_neg hn0, ← hx, ha, hb]
  simp
set_option maxHeartbeats 4000000 in
theorem places_sp (a b : List Stp) (c d : Nat) (hla : a.length ≤ 250) (hlb : b.length ≤ 250) : Sp Try.prog 44 [.s 0 0 0 a.length c 2, .s 1 0 0 b.length d 2] [rSt a, rSt b] (fun r H => ∃ cap, (brk a b).length ≤ cap ∧ r = .s 2 0 0 (brk a b).length cap 1 ∧ H = [rSt a, rSt b, rIO (brk a b) cap]) := by
  have hbl := brk_len a b
  refine sp_weak ?_
  refine sp_of_ex true [] mixed Try.call44 Try.func44 rfl Try.ntmps44 Try.results44 (by decide +kernel) rfl ?_
  simp only [push_cast, ↓branch_true, ↓branch_false, Nat.reduceBEq, Nat.reduceAdd, Nat.reduceMul, Nat.reduceSub, Int.reduceToNat, reduceCtorEq, branch_decide, branch_not, branch_beq, branch_bne]
  refine tr_loop mixed (by kernel_rfl) (fun (x : Nat × Nat × List Int × Nat) => [(6, .v (.int .i64 x.1)), (7, .v (.int .i64 x.2.1)), (5, .s 2 0 0 x.2.2.1.length x.2.2.2 1), (0, .s 0 0 0 a.length c 2), (1, .s 1 0 0 b.length d 2)])
    (fun x => [rSt a, rSt b, rIO x.2.2.1 x.2.2.2]) (fun x => x.1 ≤ a.length ∧ x.2.1 ≤ b.length ∧ x.2.2.1.length ≤ x.2.2.2 ∧ ∃ n, (a.length - x.1) + (b.length - x.2.1) ≤ n ∧ brk a b = x.2.2.1 ++ brkF n (a.drop x.1) (b.drop x.2.1)) (fun x => (a.length - x.1) + (b.length - x.2.1)) (0, 0, [], 0) ⟨Nat.zero_le _, Nat.zero_le _, Nat.le_refl _, a.length + b.length, Nat.le_refl _, rfl⟩ (Mt.wk (rl := [0, 1, 2]) ⟨by kernel_rfl, ?_, ?_⟩) ?_
  · simp only [push_cast, ↓branch_true, ↓branch_false, Nat.reduceBEq, Nat.reduceAdd, Nat.reduceMul, Nat.reduceSub, Int.reduceToNat, reduceCtorEq, branch_decide, branch_not, branch_beq, branch_bne]
  · simp only [push_cast, ↓branch_true, ↓branch_false, Nat.reduceBEq, Nat.reduceAdd, Nat.reduceMul, Nat.reduceSub, Int.reduceToNat, reduceCtorEq, branch_decide, branch_not, branch_beq, branch_bne]
  rintro ⟨i, j, out, cap⟩ ⟨h1, h2, h3, n, h4, h5⟩
  simp only at h1 h2 h3 h4 h5
  have hol : out.length ≤ 500 := by
    have := hbl
    rw [h5] at this
    simp only [List.length_append] at this
    omega
  simp only [push_cast, ↓branch_true, ↓branch_false, Nat.reduceBEq, Nat.reduceAdd, Nat.reduceMul, Nat.reduceSub, Int.reduceToNat, reduceCtorEq, branch_decide, branch_not, branch_beq, branch_bne]
  by_cases hE : i < a.length ∨ j < b.length
  · repeat' first
      | with_reducible apply And.intro
      | (with_reducible refine Or.inr ?_)
      | (with_reducible intro _)
    all_goals first
      | omega
      | skip
    all_goals
      rename_i cap2 hcap2
      first
        | (refine lpK_normal (i + 1, j + 1, out ++ [(ix a i).x], cap2) [0, 1, 4] ⟨by simp only; omega, by simp only; omega, by simp only [List.length_append, List.length_cons, List.length_nil]; omega, brk_step (i' := i + 1) (j' := j + 1) h4 h5 ((ix a i).x) ?_ (by omega) ?_ ?_ (by omega)⟩ (by simp only; omega) (by kernel_rfl) ?_ ?_
           · first | (rw [nxt_ab (by omega) (by omega)]; omega) | (rw [nxt_a (by omega) (by omega)]) | (rw [nxt_b (by omega) (by omega)])
           · first | exact dr1 (by omega) (by omega) | exact dr2 (by omega) (by omega) | exact dr3 (by omega)
           · first | exact dr1 (by omega) (by omega) | exact dr2 (by omega) (by omega) | exact dr3 (by omega)
           · (simp only [push_cast, ↓branch_true, ↓branch_false, Nat.reduceBEq, Nat.reduceAdd, Nat.reduceMul, Nat.reduceSub, Int.reduceToNat, reduceCtorEq, branch_decide, branch_not, branch_beq, branch_bne]); simp; done
           · (simp only [push_cast, ↓branch_true, ↓branch_false, Nat.reduceBEq, Nat.reduceAdd, Nat.reduceMul, Nat.reduceSub, Int.reduceToNat, reduceCtorEq, branch_decide, branch_not, branch_beq, branch_bne]); exact fun i hi => app_int rfl _)
        | (refine lpK_normal (i + 1, j, out ++ [(ix a i).x], cap2) [0, 1, 4] ⟨by simp only; omega, by simp only; omega, by simp only [List.length_append, List.length_cons, List.length_nil]; omega, brk_step (i' := i + 1) (j' := j) h4 h5 ((ix a i).x) ?_ (by omega) ?_ ?_ (by omega)⟩ (by simp only; omega) (by kernel_rfl) ?_ ?_
           · first | (rw [nxt_ab (by omega) (by omega)]; omega) | (rw [nxt_a (by omega) (by omega)]) | (rw [nxt_b (by omega) (by omega)])
           · first | exact dr1 (by omega) (by omega) | exact dr2 (by omega) (by omega) | exact dr3 (by omega)
           · first | exact dr1 (by omega) (by omega) | exact dr2 (by omega) (by omega) | exact dr3 (by omega)
           · (simp only [push_cast, ↓branch_true, ↓branch_false, Nat.reduceBEq, Nat.reduceAdd, Nat.reduceMul, Nat.reduceSub, Int.reduceToNat, reduceCtorEq, branch_decide, branch_not, branch_beq, branch_bne]); simp; done
           · (simp only [push_cast, ↓branch_true, ↓branch_false, Nat.reduceBEq, Nat.reduceAdd, Nat.reduceMul, Nat.reduceSub, Int.reduceToNat, reduceCtorEq, branch_decide, branch_not, branch_beq, branch_bne]); exact fun i hi => app_int rfl _)
        | (refine lpK_normal (i, j + 1, out ++ [(ix b j).x], cap2) [0, 1, 4] ⟨by simp only; omega, by simp only; omega, by simp only [List.length_append, List.length_cons, List.length_nil]; omega, brk_step (i' := i) (j' := j + 1) h4 h5 ((ix b j).x) ?_ (by omega) ?_ ?_ (by omega)⟩ (by simp only; omega) (by kernel_rfl) ?_ ?_
           · first | (rw [nxt_ab (by omega) (by omega)]; omega) | (rw [nxt_a (by omega) (by omega)]) | (rw [nxt_b (by omega) (by omega)])
           · first | exact dr1 (by omega) (by omega) | exact dr2 (by omega) (by omega) | exact dr3 (by omega)
           · first | exact dr1 (by omega) (by omega) | exact dr2 (by omega) (by omega) | exact dr3 (by omega)
           · (simp only [push_cast, ↓branch_true, ↓branch_false, Nat.reduceBEq, Nat.reduceAdd, Nat.reduceMul, Nat.reduceSub, Int.reduceToNat, reduceCtorEq, branch_decide, branch_not, branch_beq, branch_bne]); simp; done
           · (simp only [push_cast, ↓branch_true, ↓branch_false, Nat.reduceBEq, Nat.reduceAdd, Nat.reduceMul, Nat.reduceSub, Int.reduceToNat, reduceCtorEq, branch_decide, branch_not, branch_beq, branch_bne]); exact fun i hi => app_int rfl _)
        | (refine lpK_normal (i + 1, j + 1, out ++ [(ix b j).x], cap2) [0, 1, 4] ⟨by simp only; omega, by simp only; omega, by simp only [List.length_append, List.length_cons, List.length_nil]; omega, brk_step (i' := i + 1) (j' := j + 1) h4 h5 ((ix b j).x) ?_ (by omega) ?_ ?_ (by omega)⟩ (by simp only; omega) (by kernel_rfl) ?_ ?_
           · first | (rw [nxt_ab (by omega) (by omega)]; omega) | (rw [nxt_a (by omega) (by omega)]) | (rw [nxt_b (by omega) (by omega)])
           · first | exact dr1 (by omega) (by omega) | exact dr2 (by omega) (by omega) | exact dr3 (by omega)
           · first | exact dr1 (by omega) (by omega) | exact dr2 (by omega) (by omega) | exact dr3 (by omega)
           · (simp only [push_cast, ↓branch_true, ↓branch_false, Nat.reduceBEq, Nat.reduceAdd, Nat.reduceMul, Nat.reduceSub, Int.reduceToNat, reduceCtorEq, branch_decide, branch_not, branch_beq, branch_bne]); simp; done
           · (simp only [push_cast, ↓branch_true, ↓branch_false, Nat.reduceBEq, Nat.reduceAdd, Nat.reduceMul, Nat.reduceSub, Int.reduceToNat, reduceCtorEq, branch_decide, branch_not, branch_beq, branch_bne]); exact fun i hi => app_int rfl _)
  · have e : brk a b = out := by
      rw [h5, drop_none (by omega), drop_none (by omega)]
      cases n <;> simp [brkF]
    refine ⟨fun h => by omega, fun h => ⟨fun h' => by omega, fun h' => ?_⟩⟩
    rw [e]
    refine ⟨_, _, [0, 1, 2], ?_, by kernel_rfl, ?_, cap, h3, rfl, rfl⟩ <;> (simp only [push_cast, ↓branch_true, ↓branch_false, Nat.reduceBEq, Nat.reduceAdd, Nat.reduceMul, Nat.reduceSub, Int.reduceToNat, reduceCtorEq, branch_decide, branch_not, branch_beq, branch_bne])
end Go.Proofs.Ytekokeiajgcfkaa
