/- Contract: the reference's Forced. -/
import Derived.Test.YtmmabnoemckdiaaN
import Derived.Test.YtmmabnoemckdiaaY
set_option maxRecDepth 100000
set_option linter.unusedSimpArgs false
set_option linter.unusedVariables false
namespace Go.Proofs.Ytmmabnoemckdiaa
open Go.RowKit Bip
/-- Whether an edge is forced. -/
def frc (N M : Nat) (T : Nat → Nat → Bool) (i j : Nat) : Bool := T i j && decide (nuT N M (delE T i j) < nuT N M T)
/-- The forced edges of a row, up to a place. -/
def frRow (N M : Nat) (T : Nat → Nat → Bool) (i k : Nat) : List Ed := ((List.range k).filter (frc N M T i)).map fun (j : Nat) => (⟨(i : Int), (j : Int)⟩ : Ed)
def frAll (N M : Nat) (T : Nat → Nat → Bool) : Nat → List Ed
  | 0 => []
  | i + 1 => frAll N M T i ++ frRow N M T i M
theorem frRow_yes {N M : Nat} {T : Nat → Nat → Bool} {i k : Nat} (h : frc N M T i k = true) : frRow N M T i (k + 1) = frRow N M T i k ++ [⟨(i : Int), (k : Int)⟩] := by
  unfold frRow
  rw [List.range_succ, List.filter_append, List.map_append]
  simp [h]
theorem frRow_no {N M : Nat} {T : Nat → Nat → Bool} {i k : Nat} (h : frc N M T i k = false) : frRow N M T i (k + 1) = frRow N M T i k := by
  unfold frRow
  rw [List.range_succ, List.filter_append, List.map_append]
  simp [h]
theorem frz (N M : Nat) (T : Nat → Nat → Bool) (i : Nat) : frRow N M T i 0 = [] := rfl
theorem upDf {T : Nat → Nat → Bool} {a b i k : Nat} {rl : List Nat} : Value.bool (T a b && !(a == i && b == k)) = Value.bool (bif a == i && b == k then false else T a b) ∧ mtL rl [] (bif a == i && b == k then [] else []) := by
  cases a == i && b == k <;> simp [mtL]
theorem upDt {T : Nat → Nat → Bool} {a b i k : Nat} {rl : List Nat} (h : T i k = true) : Value.bool (T a b) = Value.bool (bif a == i && b == k then true else bif a == i && b == k then false else T a b) ∧ mtL rl [] (bif a == i && b == k then [] else bif a == i && b == k then [] else []) := by
  cases e : a == i && b == k with
  | true =>
    simp only [Bool.and_eq_true, beq_iff_eq] at e
    rw [e.1, e.2, h]
    exact ⟨rfl, trivial⟩
  | false => exact ⟨rfl, trivial⟩
theorem frRow_len (N M : Nat) (T : Nat → Nat → Bool) (i k : Nat) : (frRow N M T i k).length ≤ k := by
  unfold frRow
  rw [List.length_map]
  refine Nat.le_trans (List.length_filter_le _ _) ?_
  simp
theorem frAll_len (N M : Nat) (T : Nat → Nat → Bool) : ∀ i, (frAll N M T i).length ≤ i * M
  | 0 => Nat.zero_le _
  | i + 1 => by
    have h1 := frAll_len N M T i
    have h2 := frRow_len N M T i M
    rw [frAll, List.length_append, Nat.succ_mul]
    omega
/-- Edges of one's own. -/
def oEd (l : List Ed) (cap : Nat) : Ob := ⟨49, false, .row 2 1 (fun _ => l.length) (fun _ => cap) (fun _ k => cEd (ix l k))⟩
attribute [push_cast] oEd
theorem tru {T : Nat → Nat → Bool} {i k : Nat} (h : T i k = true) (a b : Nat) : (bif a == i && b == k then true else delE T i k a b) = T a b := by
  unfold delE
  cases e : a == i && b == k with
  | true =>
    simp only [Bool.and_eq_true, beq_iff_eq] at e
    rw [e.1, e.2, h]; rfl
  | false => simp
theorem app_endE {A : List Ed} {a b : Int} {q : Nat} {rl : List Nat} (hq : q < (A ++ [(⟨a, b⟩ : Ed)]).length) : Value.int IntKind.i64 (ix (A ++ [(⟨a, b⟩ : Ed)]) q).x = Value.int IntKind.i64 (bif decide (q < A.length) then (ix A q).x else a) ∧
    Value.int IntKind.i64 (ix (A ++ [(⟨a, b⟩ : Ed)]) q).y = Value.int IntKind.i64 (bif decide (q < A.length) then (ix A q).y else b) ∧ mtL rl [] (bif decide (q < A.length) then [] else []) := by
  rw [List.length_append, List.length_cons, List.length_nil] at hq
  by_cases e : q < A.length
  · rw [ix_app_ne (by omega), decide_eq_true e]
    exact ⟨rfl, rfl, trivial⟩
  · obtain rfl : q = A.length := by omega
    rw [ix_app_last, decide_eq_false (by omega)]
    exact ⟨rfl, rfl, trivial⟩
theorem len_snoc {α : Type} (A : List α) (e : α) : (A ++ [e]).length = A.length + 1 := by simp
set_option maxHeartbeats 4000000 in
theorem rforced_sp (l : List Ed) (N M c : Nat) (hN : N ≤ 60) (hM : M ≤ 60) (hl2 : l.length ≤ 1000) (hve : ∀ e ∈ l, inE N M e = true) : Sp Try.prog 37 [.v (.int .i64 N), .v (.int .i64 M), .s 0 0 0 l.length c 2] [rEd l]
    (fun r H => ∃ cap, (frAll N M (tab l) N).length ≤ cap ∧ r = .s 1 0 0 (frAll N M (tab l) N).length cap 2 ∧ H = [rEd l, oEd (frAll N M (tab l) N) cap]) := by
  refine sp_weak ?_
  refine sp_of_ex true [] mixed Try.call37 Try.func37 rfl Try.ntmps37 Try.results37 (by decide +kernel) rfl ?_
  simp only [push_cast, ↓branch_true, ↓branch_false, Nat.reduceBEq, Nat.reduceAdd, Nat.reduceMul, Nat.reduceSub, Int.reduceToNat, reduceCtorEq, branch_decide, branch_not, branch_beq, branch_bne, Int.reduceAdd, Int.reduceEq, Int.reduceLE, Int.reduceLT, Nat.reduceLT, Nat.reduceLeDiff, false_imp_iff, true_imp_iff]
  refine sp_at (table_sp l N M c hN hM hl2 hve) [0] rfl ?_ ?_ ?_
  · simp only [push_cast, ↓branch_true, ↓branch_false, Nat.reduceBEq, Nat.reduceAdd, Nat.reduceMul, Nat.reduceSub, Int.reduceToNat, reduceCtorEq, branch_decide, branch_not, branch_beq, branch_bne, Int.reduceAdd, Int.reduceEq, Int.reduceLE, Int.reduceLT, Nat.reduceLT, Nat.reduceLeDiff, false_imp_iff, true_imp_iff]
    try trivial
  · simp only [push_cast, ↓branch_true, ↓branch_false, Nat.reduceBEq, Nat.reduceAdd, Nat.reduceMul, Nat.reduceSub, Int.reduceToNat, reduceCtorEq, branch_decide, branch_not, branch_beq, branch_bne, Int.reduceAdd, Int.reduceEq, Int.reduceLE, Int.reduceLT, Nat.reduceLT, Nat.reduceLeDiff, false_imp_iff, true_imp_iff]
    try trivial
  rintro _ _ ⟨oc, hoc, rfl, rfl⟩
  simp only [push_cast, ↓branch_true, ↓branch_false, Nat.reduceBEq, Nat.reduceAdd, Nat.reduceMul, Nat.reduceSub, Int.reduceToNat, reduceCtorEq, branch_decide, branch_not, branch_beq, branch_bne, Int.reduceAdd, Int.reduceEq, Int.reduceLE, Int.reduceLT, Nat.reduceLT, Nat.reduceLeDiff, false_imp_iff, true_imp_iff]
  repeat (with_reducible refine And.intro (by omega) ?_)
  refine sp_call (rsize_pu (tab l) oc (fun _ => M) (by omega : N ≤ 1000000) (by omega : M ≤ 1000000)) rfl [1, 2] rfl ?_ ?_ ?_
  · simp only [push_cast, ↓branch_true, ↓branch_false, Nat.reduceBEq, Nat.reduceAdd, Nat.reduceMul, Nat.reduceSub, Int.reduceToNat, reduceCtorEq, branch_decide, branch_not, branch_beq, branch_bne, Int.reduceAdd, Int.reduceEq, Int.reduceLE, Int.reduceLT, Nat.reduceLT, Nat.reduceLeDiff, false_imp_iff, true_imp_iff]
    try trivial
  · simp only [push_cast, ↓branch_true, ↓branch_false, Nat.reduceBEq, Nat.reduceAdd, Nat.reduceMul, Nat.reduceSub, Int.reduceToNat, reduceCtorEq, branch_decide, branch_not, branch_beq, branch_bne, Int.reduceAdd, Int.reduceEq, Int.reduceLE, Int.reduceLT, Nat.reduceLT, Nat.reduceLeDiff, false_imp_iff, true_imp_iff]
    try trivial
  have hnu := nuT_le_left N M (tab l)
  simp only [push_cast, ↓branch_true, ↓branch_false, Nat.reduceBEq, Nat.reduceAdd, Nat.reduceMul, Nat.reduceSub, Int.reduceToNat, reduceCtorEq, branch_decide, branch_not, branch_beq, branch_bne, Int.reduceAdd, Int.reduceEq, Int.reduceLE, Int.reduceLT, Nat.reduceLT, Nat.reduceLeDiff, false_imp_iff, true_imp_iff]
  refine tr_loop mixed (by kernel_rfl) (fun (x : Nat × Nat) => [(10, .v (.int .i64 x.1)), (9, .s 3 0 0 (frAll N M (tab l) x.1).length x.2 2), (8, .v (.int .i64 (nuT N M (tab l) : Nat))), (7, .s 1 0 0 N oc 1), (0, .v (.int .i64 N)), (1, .v (.int .i64 M))])
    (fun x => [rEd l, oTo 2 N M oc, oTg N M (tab l), oEd (frAll N M (tab l) x.1) x.2]) (fun x => x.1 ≤ N ∧ (frAll N M (tab l) x.1).length ≤ x.2) (fun x => N - x.1) (0, 0) ⟨Nat.zero_le _, Nat.le_refl _⟩ (Mt.wk (rl := [0, 1, 2, 1000]) ⟨by kernel_rfl, ?_, ?_⟩) ?_
  · simp only [push_cast, ↓branch_true, ↓branch_false, Nat.reduceBEq, Nat.reduceAdd, Nat.reduceMul, Nat.reduceSub, Int.reduceToNat, reduceCtorEq, branch_decide, branch_not, branch_beq, branch_bne, Int.reduceAdd, Int.reduceEq, Int.reduceLE, Int.reduceLT, Nat.reduceLT, Nat.reduceLeDiff, false_imp_iff, true_imp_iff]
    try exact rfl
  · simp only [push_cast, ↓branch_true, ↓branch_false, Nat.reduceBEq, Nat.reduceAdd, Nat.reduceMul, Nat.reduceSub, Int.reduceToNat, reduceCtorEq, branch_decide, branch_not, branch_beq, branch_bne, Int.reduceAdd, Int.reduceEq, Int.reduceLE, Int.reduceLT, Nat.reduceLT, Nat.reduceLeDiff, false_imp_iff, true_imp_iff]
    try exact Or.inl rfl
  rintro ⟨i, fc⟩ ⟨g1, g2⟩
  simp only at g1 g2
  have hfl := frAll_len N M (tab l) i
  have hfl2 : i * M ≤ 60 * 60 := Nat.mul_le_mul (by omega) hM
  have hfs : frAll N M (tab l) (i + 1) = frAll N M (tab l) i ++ frRow N M (tab l) i M := rfl
  generalize hX : frAll N M (tab l) i = X at *
  simp only [push_cast, ↓branch_true, ↓branch_false, Nat.reduceBEq, Nat.reduceAdd, Nat.reduceMul, Nat.reduceSub, Int.reduceToNat, reduceCtorEq, branch_decide, branch_not, branch_beq, branch_bne, Int.reduceAdd, Int.reduceEq, Int.reduceLE, Int.reduceLT, Nat.reduceLT, Nat.reduceLeDiff, false_imp_iff, true_imp_iff]
  refine ⟨fun h0 => ?_, fun h0 => ?_⟩
  · have hiN : i < N := by omega
    refine tr_loop mixed (by kernel_rfl) (fun (x : Nat × Nat) => [(11, .v (.int .i64 x.1)), (10, .v (.int .i64 i)), (9, .s 3 0 0 (X ++ frRow N M (tab l) i x.1).length x.2 2), (8, .v (.int .i64 (nuT N M (tab l) : Nat))), (7, .s 1 0 0 N oc 1), (0, .v (.int .i64 N)), (1, .v (.int .i64 M))])
      (fun x => [rEd l, oTo 2 N M oc, oTg N M (tab l), oEd (X ++ frRow N M (tab l) i x.1) x.2]) (fun x => x.1 ≤ M ∧ (X ++ frRow N M (tab l) i x.1).length ≤ x.2) (fun x => M - x.1) (0, fc) ⟨Nat.zero_le _, by simpa [frRow] using g2⟩ (Mt.wk (rl := [0, 1, 2, 3]) ⟨by kernel_rfl, ?_, ?_⟩) ?_
    · simp only [push_cast, ↓branch_true, ↓branch_false, Nat.reduceBEq, Nat.reduceAdd, Nat.reduceMul, Nat.reduceSub, Int.reduceToNat, reduceCtorEq, branch_decide, branch_not, branch_beq, branch_bne, Int.reduceAdd, Int.reduceEq, Int.reduceLE, Int.reduceLT, Nat.reduceLT, Nat.reduceLeDiff, false_imp_iff, true_imp_iff, frz, List.append_nil]
    · simp only [push_cast, ↓branch_true, ↓branch_false, Nat.reduceBEq, Nat.reduceAdd, Nat.reduceMul, Nat.reduceSub, Int.reduceToNat, reduceCtorEq, branch_decide, branch_not, branch_beq, branch_bne, Int.reduceAdd, Int.reduceEq, Int.reduceLE, Int.reduceLT, Nat.reduceLT, Nat.reduceLeDiff, false_imp_iff, true_imp_iff, frz, List.append_nil]
      try trivial
    rintro ⟨k, kc⟩ ⟨k1, k2⟩
    simp only at k1 k2
    have hrl := frRow_len N M (tab l) i k
    have hal : (X ++ frRow N M (tab l) i k).length ≤ 10000 := by rw [List.length_append]; omega
    have hyes := frRow_yes (N := N) (M := M) (T := tab l) (i := i) (k := k)
    have hno := frRow_no (N := N) (M := M) (T := tab l) (i := i) (k := k)
    simp only [push_cast, ↓branch_true, ↓branch_false, Nat.reduceBEq, Nat.reduceAdd, Nat.reduceMul, Nat.reduceSub, Int.reduceToNat, reduceCtorEq, branch_decide, branch_not, branch_beq, branch_bne, Int.reduceAdd, Int.reduceEq, Int.reduceLE, Int.reduceLT, Nat.reduceLT, Nat.reduceLeDiff, false_imp_iff, true_imp_iff]
    refine ⟨fun h1 => ?_, fun h1 => ?_⟩
    · have hkM : k < M := by omega
      repeat (with_reducible refine And.intro (by omega) ?_)
      cases hE : tab l i k with
      | false =>
        have hf : frc N M (tab l) i k = false := by simp [frc, hE]
        have hno := hno hf
        simp only [push_cast, ↓branch_true, ↓branch_false, Nat.reduceBEq, Nat.reduceAdd, Nat.reduceMul, Nat.reduceSub, Int.reduceToNat, reduceCtorEq, branch_decide, branch_not, branch_beq, branch_bne, Int.reduceAdd, Int.reduceEq, Int.reduceLE, Int.reduceLT, Nat.reduceLT, Nat.reduceLeDiff, false_imp_iff, true_imp_iff]
        repeat (with_reducible refine And.intro (by omega) ?_)
        refine lpK_normal (k + 1, kc) [0, 1, 2, 3] ⟨by simp only; omega, by simp only [hno]; omega⟩ (by simp only; omega) (by kernel_rfl) ?_ ?_
        · simp only [push_cast, ↓branch_true, ↓branch_false, Nat.reduceBEq, Nat.reduceAdd, Nat.reduceMul, Nat.reduceSub, Int.reduceToNat, reduceCtorEq, branch_decide, branch_not, branch_beq, branch_bne, Int.reduceAdd, Int.reduceEq, Int.reduceLE, Int.reduceLT, Nat.reduceLT, Nat.reduceLeDiff, false_imp_iff, true_imp_iff, hno]
        · simp only [push_cast, ↓branch_true, ↓branch_false, Nat.reduceBEq, Nat.reduceAdd, Nat.reduceMul, Nat.reduceSub, Int.reduceToNat, reduceCtorEq, branch_decide, branch_not, branch_beq, branch_bne, Int.reduceAdd, Int.reduceEq, Int.reduceLE, Int.reduceLT, Nat.reduceLT, Nat.reduceLeDiff, false_imp_iff, true_imp_iff, hno]
      | true =>
        have htr := tru hE
        have hfr : frc N M (tab l) i k = decide (nuT N M (delE (tab l) i k) < nuT N M (tab l)) := by simp [frc, hE]
        simp only [push_cast, ↓branch_true, ↓branch_false, Nat.reduceBEq, Nat.reduceAdd, Nat.reduceMul, Nat.reduceSub, Int.reduceToNat, reduceCtorEq, branch_decide, branch_not, branch_beq, branch_bne, Int.reduceAdd, Int.reduceEq, Int.reduceLE, Int.reduceLT, Nat.reduceLT, Nat.reduceLeDiff, false_imp_iff, true_imp_iff]
        repeat (with_reducible refine And.intro (by omega) ?_)
        refine sp_call (rsize_pu (delE (tab l) i k) oc (fun _ => M) (by omega : N ≤ 1000000) (by omega : M ≤ 1000000)) rfl [1, 2] rfl ?_ ?_ ?_
        · simp only [push_cast, ↓branch_true, ↓branch_false, Nat.reduceBEq, Nat.reduceAdd, Nat.reduceMul, Nat.reduceSub, Int.reduceToNat, reduceCtorEq, branch_decide, branch_not, branch_beq, branch_bne, Int.reduceAdd, Int.reduceEq, Int.reduceLE, Int.reduceLT, Nat.reduceLT, Nat.reduceLeDiff, false_imp_iff, true_imp_iff]
          try trivial
        · simp only [push_cast, ↓branch_true, ↓branch_false, Nat.reduceBEq, Nat.reduceAdd, Nat.reduceMul, Nat.reduceSub, Int.reduceToNat, reduceCtorEq, branch_decide, branch_not, branch_beq, branch_bne, Int.reduceAdd, Int.reduceEq, Int.reduceLE, Int.reduceLT, Nat.reduceLT, Nat.reduceLeDiff, false_imp_iff, true_imp_iff, delE]
          exact fun _ _ _ _ => upDf
        have hnu2 := nuT_le_left N M (delE (tab l) i k)
        simp only [push_cast, ↓branch_true, ↓branch_false, Nat.reduceBEq, Nat.reduceAdd, Nat.reduceMul, Nat.reduceSub, Int.reduceToNat, reduceCtorEq, branch_decide, branch_not, branch_beq, branch_bne, Int.reduceAdd, Int.reduceEq, Int.reduceLE, Int.reduceLT, Nat.reduceLT, Nat.reduceLeDiff, false_imp_iff, true_imp_iff]
        refine ⟨fun h5 => ?_, fun h5 => ?_⟩
        · have hy := hyes (by rw [hfr]; exact decide_eq_true (by omega))
          repeat (with_reducible refine And.intro (by omega) ?_)
          refine Or.inr ⟨by omega, by omega, fun cap hcap => ?_⟩
          repeat (with_reducible refine And.intro (by omega) ?_)
          refine lpK_normal (k + 1, cap) [0, 1, 2, 5] ⟨by simp only; omega, by simp only [hy, ← List.append_assoc]; rw [List.length_append]; exact hcap⟩ (by simp only; omega) (by kernel_rfl) ?_ ?_
          · simp only [push_cast, ↓branch_true, ↓branch_false, Nat.reduceBEq, Nat.reduceAdd, Nat.reduceMul, Nat.reduceSub, Int.reduceToNat, reduceCtorEq, branch_decide, branch_not, branch_beq, branch_bne, Int.reduceAdd, Int.reduceEq, Int.reduceLE, Int.reduceLT, Nat.reduceLT, Nat.reduceLeDiff, false_imp_iff, true_imp_iff, hy, ← List.append_assoc]
            try exact len_snoc _ _
          · simp only [push_cast, ↓branch_true, ↓branch_false, Nat.reduceBEq, Nat.reduceAdd, Nat.reduceMul, Nat.reduceSub, Int.reduceToNat, reduceCtorEq, branch_decide, branch_not, branch_beq, branch_bne, Int.reduceAdd, Int.reduceEq, Int.reduceLE, Int.reduceLT, Nat.reduceLT, Nat.reduceLeDiff, false_imp_iff, true_imp_iff, hy, ← List.append_assoc]
            exact ⟨fun _ _ _ _ => upDt hE, fun _ _ => ⟨Nat.le_of_eq (len_snoc _ _), fun _ hq => app_endE hq⟩⟩
        · have hno := hno (by rw [hfr]; exact decide_eq_false (by omega))
          repeat (with_reducible refine And.intro (by omega) ?_)
          refine lpK_normal (k + 1, kc) [0, 1, 2, 3] ⟨by simp only; omega, by simp only [hno]; omega⟩ (by simp only; omega) (by kernel_rfl) ?_ ?_
          · simp only [push_cast, ↓branch_true, ↓branch_false, Nat.reduceBEq, Nat.reduceAdd, Nat.reduceMul, Nat.reduceSub, Int.reduceToNat, reduceCtorEq, branch_decide, branch_not, branch_beq, branch_bne, Int.reduceAdd, Int.reduceEq, Int.reduceLE, Int.reduceLT, Nat.reduceLT, Nat.reduceLeDiff, false_imp_iff, true_imp_iff, hno]
          · simp only [push_cast, ↓branch_true, ↓branch_false, Nat.reduceBEq, Nat.reduceAdd, Nat.reduceMul, Nat.reduceSub, Int.reduceToNat, reduceCtorEq, branch_decide, branch_not, branch_beq, branch_bne, Int.reduceAdd, Int.reduceEq, Int.reduceLE, Int.reduceLT, Nat.reduceLT, Nat.reduceLeDiff, false_imp_iff, true_imp_iff, hno]
            exact fun _ _ _ _ => upDt hE
    · obtain rfl : k = M := by omega
      repeat (with_reducible refine And.intro (by omega) ?_)
      refine lpK_normal (i + 1, kc) [0, 1, 2, 3] ⟨by simp only; omega, by simp only [hfs]; omega⟩ (by simp only; omega) (by kernel_rfl) ?_ ?_
      · simp only [push_cast, ↓branch_true, ↓branch_false, Nat.reduceBEq, Nat.reduceAdd, Nat.reduceMul, Nat.reduceSub, Int.reduceToNat, reduceCtorEq, branch_decide, branch_not, branch_beq, branch_bne, Int.reduceAdd, Int.reduceEq, Int.reduceLE, Int.reduceLT, Nat.reduceLT, Nat.reduceLeDiff, false_imp_iff, true_imp_iff, hfs]
      · simp only [push_cast, ↓branch_true, ↓branch_false, Nat.reduceBEq, Nat.reduceAdd, Nat.reduceMul, Nat.reduceSub, Int.reduceToNat, reduceCtorEq, branch_decide, branch_not, branch_beq, branch_bne, Int.reduceAdd, Int.reduceEq, Int.reduceLE, Int.reduceLT, Nat.reduceLT, Nat.reduceLeDiff, false_imp_iff, true_imp_iff, hfs]
  · obtain rfl : i = N := by omega
    rw [hX]
    refine ⟨_, _, [0, 3], ?_, by kernel_rfl, ?_, fc, g2, rfl, rfl⟩
    · simp only [push_cast, ↓branch_true, ↓branch_false, Nat.reduceBEq, Nat.reduceAdd, Nat.reduceMul, Nat.reduceSub, Int.reduceToNat, reduceCtorEq, branch_decide, branch_not, branch_beq, branch_bne, Int.reduceAdd, Int.reduceEq, Int.reduceLE, Int.reduceLT, Nat.reduceLT, Nat.reduceLeDiff, false_imp_iff, true_imp_iff]
    · simp only [push_cast, ↓branch_true, ↓branch_false, Nat.reduceBEq, Nat.reduceAdd, Nat.reduceMul, Nat.reduceSub, Int.reduceToNat, reduceCtorEq, branch_decide, branch_not, branch_beq, branch_bne, Int.reduceAdd, Int.reduceEq, Int.reduceLE, Int.reduceLT, Nat.reduceLT, Nat.reduceLeDiff, false_imp_iff, true_imp_iff]
end Go.Proofs.Ytmmabnoemckdiaa
