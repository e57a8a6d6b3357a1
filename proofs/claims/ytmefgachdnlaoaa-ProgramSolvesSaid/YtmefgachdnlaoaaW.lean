/- Contracts: few, short, Feasible, Value. -/
import Derived.Test.YtmefgachdnlaoaaTE
set_option maxRecDepth 100000
set_option linter.unusedSimpArgs false
set_option linter.unusedVariables false
namespace Go.Proofs.Ytmefgachdnlaoaa
open Go.RowKit Lp
def fewB (p : Pm) : Bool := decide (p.n ≤ 14) && (decide (p.m ≤ 8) && decide (∀ t, t < p.m → p.ln t ≤ 14))
theorem few42_pu (p : Pm) (t : Nat) (ht : t < p.m) (hl : p.ln t ≤ 9223372036854775807) : Pu Try.prog 42 [.a [.s 2 t 0 (p.ln t) (p.cp t) 1, .v (.int .i64 (p.kd t)), .v (.int .i64 (p.b t))]] (obP p) (.v (.bool (decide (14 < p.ln t)))) := by
  refine pu_of_ex true [] mixed Try.call42 Try.func42 rfl Try.ntmps42 Try.results42 (by decide +kernel) rfl rfl rfl ?_
  simp only [push_cast, ↓branch_true, ↓branch_false, Nat.reduceBEq, Nat.reduceAdd, Nat.reduceMul, Nat.reduceSub, Int.reduceToNat, reduceCtorEq, Int.reduceAdd, Int.reduceEq, Int.reduceLE, Int.reduceLT, Nat.reduceLT, Nat.reduceLeDiff]
  try exact vb (by rw [decide_eq_decide]; omega)
theorem few_pu (p : Pm) (hl : ∀ t, t < p.m → p.ln t ≤ 9223372036854775807) (hm : p.m ≤ 9223372036854775807) (hn : p.n ≤ 9223372036854775807) : Pu Try.prog 12 [svP p] (obP p) (.v (.bool (fewB p))) := by
  have hc : p.m ≤ 8 → Pu Try.prog 41 [.s 1 0 0 p.m p.mc 3, .f (.func 42) [] []] (obP p) (.v (.bool (decide (0 ≤ ent (fun t => decide (14 < p.ln t)) p.m)))) := fun h8 => by
    have hc := containsR_pu p 42 [] [] [] (fun t => decide (14 < p.ln t)) rfl (by omega) fun t ht => by simpa only [List.nil_append, List.append_nil] using few42_pu p t ht (hl t ht)
    rwa [List.append_nil] at hc
  have hf : fewB p = (decide (p.n ≤ 14) && (decide (p.m ≤ 8) && !decide (0 ≤ ent (fun t => decide (14 < p.ln t)) p.m))) := by
    unfold fewB
    rw [ent_all, Bool.not_not]
    congr 2
    rw [decide_eq_decide]
    exact ⟨fun h t ht => decide_eq_false (by have := h t ht; omega), fun h t ht => by have := h t ht; rw [decide_eq_false_iff_not] at this; omega⟩
  generalize ent (fun t => decide (14 < p.ln t)) p.m = E at *
  refine pu_of_ex true [] mixed Try.call12 Try.func12 rfl Try.ntmps12 Try.results12 (by decide +kernel) rfl rfl rfl ?_
  simp only [push_cast, ↓branch_true, ↓branch_false, Nat.reduceBEq, Nat.reduceAdd, Nat.reduceMul, Nat.reduceSub, Int.reduceToNat, reduceCtorEq, Int.reduceAdd, Int.reduceEq, Int.reduceLE, Int.reduceLT, Nat.reduceLT, Nat.reduceLeDiff]
  refine ⟨fun h1 => ⟨fun h2 => ?_, fun h2 => ?_⟩, fun h1 => ?_⟩
  · refine sp_c (hc (by omega)) rfl [0, 1, 2] ?_
    simp only [push_cast, ↓branch_true, ↓branch_false, Nat.reduceBEq, Nat.reduceAdd, Nat.reduceMul, Nat.reduceSub, Int.reduceToNat, reduceCtorEq, Int.reduceAdd, Int.reduceEq, Int.reduceLE, Int.reduceLT, Nat.reduceLT, Nat.reduceLeDiff]
    exact vb (by rw [hf, Bool.eq_iff_iff]; simp; omega)
  · exact vb (by rw [hf]; simp; omega)
  · exact vb (by rw [hf]; simp; omega)
inductive FeaR (p : Pm) (n : Nat) (N D : Nat → Int) : Bool → Int → Prop
  | arg (h : vPm p = false ∨ rgt n N D = false) : FeaR p n N D false 1
  | size (hv : vPm p = true) (hr : rgt n N D = true) (h : n ≠ p.n) : FeaR p n N D false 3
  | ok (hv : vPm p = true) (hr : rgt n N D = true) (h : n = p.n) : FeaR p n N D (decide (∀ t, t < p.m → rowS p N (fun k => (D k).toNat) t ≠ none) && feaB p N (fun k => (D k).toNat)) (errQ (decide (∀ t, t < p.m → rowS p N (fun k => (D k).toNat) t ≠ none)))
set_option maxHeartbeats 8000000 in
theorem fea_sp (p : Pm) (hin : vPm p = true → PmOk p) (hl : ∀ t, t < p.m → p.ln t ≤ 1000000) (hn : p.n ≤ 1000000) (hm : p.m ≤ 1000000) (n cap : Nat) (N D : Nat → Int) (hnn : n ≤ 1000000) (hb : ∀ k, k < n → (-9223372036854775808 ≤ N k ∧ N k ≤ 9223372036854775807) ∧ -9223372036854775808 ≤ D k ∧ D k ≤ 9223372036854775807) :
    Sp Try.prog 31 [svP p, .s 3 0 0 n cap 2] (obP p ++ [rFi n cap N D]) (fun r H => ∃ b e, r = .t [.v (.bool b), .v (.int .i64 e)] ∧ FeaR p n N D b e ∧ H = obP p ++ [rFi n cap N D]) := by
  have hva := valid_pu p hl hn hm
  have hri := right_pu n cap N D hnn hb
  refine sp_weak ?_
  refine sp_of_ex true [] mixed Try.call31 Try.func31 rfl Try.ntmps31 Try.results31 (by decide +kernel) rfl ?_
  simp only [push_cast, ↓branch_true, ↓branch_false, Nat.reduceBEq, Nat.reduceAdd, Nat.reduceMul, Nat.reduceSub, Int.reduceToNat, reduceCtorEq, Int.reduceAdd, Int.reduceEq, Int.reduceLE, Int.reduceLT, Nat.reduceLT, Nat.reduceLeDiff]
  refine sp_c hva rfl [0, 1, 2] ?_
  simp only [push_cast, ↓branch_true, ↓branch_false, Nat.reduceBEq, Nat.reduceAdd, Nat.reduceMul, Nat.reduceSub, Int.reduceToNat, reduceCtorEq, Int.reduceAdd, Int.reduceEq, Int.reduceLE, Int.reduceLT, Nat.reduceLT, Nat.reduceLeDiff]
  simp only [branch]
  cases hv : vPm p with
  | false =>
    simp only [push_cast, ↓branch_true, ↓branch_false, Nat.reduceBEq, Nat.reduceAdd, Nat.reduceMul, Nat.reduceSub, Int.reduceToNat, reduceCtorEq, Int.reduceAdd, Int.reduceEq, Int.reduceLE, Int.reduceLT, Nat.reduceLT, Nat.reduceLeDiff]
    refine ⟨_, _, [0, 1, 2, 3], ?_, by kernel_rfl, ?_, _, _, rfl, .arg (.inl hv), rfl⟩
    · simp only [push_cast, ↓branch_true, ↓branch_false, Nat.reduceBEq, Nat.reduceAdd, Nat.reduceMul, Nat.reduceSub, Int.reduceToNat, reduceCtorEq, Int.reduceAdd, Int.reduceEq, Int.reduceLE, Int.reduceLT, Nat.reduceLT, Nat.reduceLeDiff]
    · simp only [push_cast, ↓branch_true, ↓branch_false, Nat.reduceBEq, Nat.reduceAdd, Nat.reduceMul, Nat.reduceSub, Int.reduceToNat, reduceCtorEq, Int.reduceAdd, Int.reduceEq, Int.reduceLE, Int.reduceLT, Nat.reduceLT, Nat.reduceLeDiff]
  | true =>
  have hp := hin hv
  simp only [push_cast, ↓branch_true, ↓branch_false, Nat.reduceBEq, Nat.reduceAdd, Nat.reduceMul, Nat.reduceSub, Int.reduceToNat, reduceCtorEq, Int.reduceAdd, Int.reduceEq, Int.reduceLE, Int.reduceLT, Nat.reduceLT, Nat.reduceLeDiff]
  refine sp_c hri rfl [3] ?_
  simp only [push_cast, ↓branch_true, ↓branch_false, Nat.reduceBEq, Nat.reduceAdd, Nat.reduceMul, Nat.reduceSub, Int.reduceToNat, reduceCtorEq, Int.reduceAdd, Int.reduceEq, Int.reduceLE, Int.reduceLT, Nat.reduceLT, Nat.reduceLeDiff]
  cases hr : rgt n N D with
  | false =>
    simp only [push_cast, ↓branch_true, ↓branch_false, Nat.reduceBEq, Nat.reduceAdd, Nat.reduceMul, Nat.reduceSub, Int.reduceToNat, reduceCtorEq, Int.reduceAdd, Int.reduceEq, Int.reduceLE, Int.reduceLT, Nat.reduceLT, Nat.reduceLeDiff]
    refine ⟨_, _, [0, 1, 2, 3], ?_, by kernel_rfl, ?_, _, _, rfl, .arg (.inr hr), rfl⟩
    · simp only [push_cast, ↓branch_true, ↓branch_false, Nat.reduceBEq, Nat.reduceAdd, Nat.reduceMul, Nat.reduceSub, Int.reduceToNat, reduceCtorEq, Int.reduceAdd, Int.reduceEq, Int.reduceLE, Int.reduceLT, Nat.reduceLT, Nat.reduceLeDiff]
    · simp only [push_cast, ↓branch_true, ↓branch_false, Nat.reduceBEq, Nat.reduceAdd, Nat.reduceMul, Nat.reduceSub, Int.reduceToNat, reduceCtorEq, Int.reduceAdd, Int.reduceEq, Int.reduceLE, Int.reduceLT, Nat.reduceLT, Nat.reduceLeDiff]
  | true =>
  simp only [push_cast, ↓branch_true, ↓branch_false, Nat.reduceBEq, Nat.reduceAdd, Nat.reduceMul, Nat.reduceSub, Int.reduceToNat, reduceCtorEq, Int.reduceAdd, Int.reduceEq, Int.reduceLE, Int.reduceLT, Nat.reduceLT, Nat.reduceLeDiff]
  refine ⟨fun h1 => ?_, fun h1 => ?_⟩
  rotate_left
  · refine ⟨_, _, [0, 1, 2, 3], ?_, by kernel_rfl, ?_, _, _, rfl, .size hv hr (by omega), rfl⟩
    · simp only [push_cast, ↓branch_true, ↓branch_false, Nat.reduceBEq, Nat.reduceAdd, Nat.reduceMul, Nat.reduceSub, Int.reduceToNat, reduceCtorEq, Int.reduceAdd, Int.reduceEq, Int.reduceLE, Int.reduceLT, Nat.reduceLT, Nat.reduceLeDiff]
    · simp only [push_cast, ↓branch_true, ↓branch_false, Nat.reduceBEq, Nat.reduceAdd, Nat.reduceMul, Nat.reduceSub, Int.reduceToNat, reduceCtorEq, Int.reduceAdd, Int.reduceEq, Int.reduceLE, Int.reduceLT, Nat.reduceLT, Nat.reduceLeDiff]
  obtain rfl : n = p.n := by omega
  have hcast : ∀ k, k < p.n → D k = ((D k).toNat : Nat) ∧ Frc (N k) (D k).toNat := fun k hk => vF_cast (by unfold rgt at hr; exact of_decide_eq_true hr k hk)
  have hk0 := FeaR.ok hv hr rfl
  obtain ⟨D', hD'⟩ : ∃ D' : Nat → Nat, D' = fun k => (D k).toNat := ⟨_, rfl⟩
  rw [← hD'] at hk0
  have hcast : ∀ k, k < p.n → D k = (D' k : Nat) ∧ Frc (N k) (D' k) := by rw [hD']; exact hcast
  clear hD'
  refine sp_at (feasible_sp p hp cap N D' 0 fun k hk => (hcast k hk).2) [0, 1, 2, 5, 3] (by kernel_rfl) ?_ ?_ ?_
  · simp only [push_cast, ↓branch_true, ↓branch_false, Nat.reduceBEq, Nat.reduceAdd, Nat.reduceMul, Nat.reduceSub, Int.reduceToNat, reduceCtorEq, Int.reduceAdd, Int.reduceEq, Int.reduceLE, Int.reduceLT, Nat.reduceLT, Nat.reduceLeDiff]
  · simp only [push_cast, ↓branch_true, ↓branch_false, Nat.reduceBEq, Nat.reduceAdd, Nat.reduceMul, Nat.reduceSub, Int.reduceToNat, reduceCtorEq, Int.reduceAdd, Int.reduceEq, Int.reduceLE, Int.reduceLT, Nat.reduceLT, Nat.reduceLeDiff]
    exact fun _ _ k hk => congrArg (Value.int .i64) (hcast k hk).1.symm
  rintro _ _ ⟨b1, e1, rfl, hA, rfl⟩
  have hA := all_two hA
  have hfe : feaB p N D' = (nnB p.n N && decide (∀ t, t < p.m → okO (rOk p t) (rowS p N D' t) = true)) := rfl
  rw [← hfe] at hA
  generalize decide (∀ t, t < p.m → rowS p N D' t ≠ none) = A at *
  generalize feaB p N D' = F at *
  simp only [push_cast, ↓branch_true, ↓branch_false, Nat.reduceBEq, Nat.reduceAdd, Nat.reduceMul, Nat.reduceSub, Int.reduceToNat, reduceCtorEq, Int.reduceAdd, Int.reduceEq, Int.reduceLE, Int.reduceLT, Nat.reduceLT, Nat.reduceLeDiff]
  simp only [branch]
  have hfin : errQ A = e1 ∧ (A && F) = (b1 && (e1 == 0)) := by
    rcases hA with ⟨rfl, rfl, rfl⟩ | ⟨rfl, rfl⟩ <;> simp [errQ]
  rw [hfin.1, hfin.2] at hk0
  clear hfin hA
  cases b1 with
  | true =>
    refine ⟨fun _ => ?_, fun h => absurd h (by decide)⟩
    repeat (with_reducible refine And.intro (by omega) ?_)
    refine ⟨_, _, [0, 1, 2, 3], ?_, by kernel_rfl, ?_, _, _, rfl, hk0, rfl⟩
    · simp only [push_cast, ↓branch_true, ↓branch_false, Nat.reduceBEq, Nat.reduceAdd, Nat.reduceMul, Nat.reduceSub, Int.reduceToNat, reduceCtorEq, Int.reduceAdd, Int.reduceEq, Int.reduceLE, Int.reduceLT, Nat.reduceLT, Nat.reduceLeDiff]
      try exact congrArg Value.bool (by simp)
    · simp only [push_cast, ↓branch_true, ↓branch_false, Nat.reduceBEq, Nat.reduceAdd, Nat.reduceMul, Nat.reduceSub, Int.reduceToNat, reduceCtorEq, Int.reduceAdd, Int.reduceEq, Int.reduceLE, Int.reduceLT, Nat.reduceLT, Nat.reduceLeDiff]
      exact fun _ _ k hk => congrArg (Value.int .i64) (hcast k hk).1
  | false =>
    refine ⟨fun h => absurd h (by decide), fun _ => ?_⟩
    repeat (with_reducible refine And.intro (by omega) ?_)
    refine ⟨_, _, [0, 1, 2, 3], ?_, by kernel_rfl, ?_, _, _, rfl, hk0, rfl⟩
    · simp only [push_cast, ↓branch_true, ↓branch_false, Nat.reduceBEq, Nat.reduceAdd, Nat.reduceMul, Nat.reduceSub, Int.reduceToNat, reduceCtorEq, Int.reduceAdd, Int.reduceEq, Int.reduceLE, Int.reduceLT, Nat.reduceLT, Nat.reduceLeDiff]
      try exact congrArg Value.bool (by simp)
    · simp only [push_cast, ↓branch_true, ↓branch_false, Nat.reduceBEq, Nat.reduceAdd, Nat.reduceMul, Nat.reduceSub, Int.reduceToNat, reduceCtorEq, Int.reduceAdd, Int.reduceEq, Int.reduceLE, Int.reduceLT, Nat.reduceLT, Nat.reduceLeDiff]
      exact fun _ _ k hk => congrArg (Value.int .i64) (hcast k hk).1
inductive ValR (p : Pm) (n : Nat) (N D : Nat → Int) : Int → Int → Int → Prop
  | arg (h : vPm p = false ∨ rgt n N D = false) : ValR p n N D 0 0 1
  | size (hv : vPm p = true) (hr : rgt n N D = true) (h : n ≠ p.n) : ValR p n N D 0 0 3
  | ok (hv : vPm p = true) (hr : rgt n N D = true) (h : n = p.n) (s : Int × Nat) (hs : ofS p.co N (fun k => (D k).toNat) p.n = some s) (hf : Frc s.1 s.2) : ValR p n N D s.1 (s.2 : Nat) 0
  | big (hv : vPm p = true) (hr : rgt n N D = true) (h : n = p.n) (hs : ofS p.co N (fun k => (D k).toNat) p.n = none) : ValR p n N D 0 0 5
set_option maxHeartbeats 8000000 in
theorem value_sp (p : Pm) (hin : vPm p = true → PmOk p) (hl : ∀ t, t < p.m → p.ln t ≤ 1000000) (hn : p.n ≤ 1000000) (hm : p.m ≤ 1000000) (n cap : Nat) (N D : Nat → Int) (hnn : n ≤ 1000000) (hb : ∀ k, k < n → (-9223372036854775808 ≤ N k ∧ N k ≤ 9223372036854775807) ∧ -9223372036854775808 ≤ D k ∧ D k ≤ 9223372036854775807) :
    Sp Try.prog 32 [svP p, .s 3 0 0 n cap 2] (obP p ++ [rFi n cap N D]) (fun r H => ∃ vn vd e, r = .t [frV vn vd, .v (.int .i64 e)] ∧ ValR p n N D vn vd e ∧ H = obP p ++ [rFi n cap N D]) := by
  have hva := valid_pu p hl hn hm
  have hri := right_pu n cap N D hnn hb
  refine sp_weak ?_
  refine sp_of_ex true [(8, .one 0 (.one 1 (.alt [(2, .one 3 (.one 4 .fin)), (3, .one 2 (.one 4 .fin))])))] mixed Try.call32 Try.func32 rfl Try.ntmps32 Try.results32 (by decide +kernel) rfl ?_
  simp only [push_cast, ↓branch_true, ↓branch_false, Nat.reduceBEq, Nat.reduceAdd, Nat.reduceMul, Nat.reduceSub, Int.reduceToNat, reduceCtorEq, Int.reduceAdd, Int.reduceEq, Int.reduceLE, Int.reduceLT, Nat.reduceLT, Nat.reduceLeDiff]
  refine sp_c hva rfl [0, 1, 2] ?_
  simp only [push_cast, ↓branch_true, ↓branch_false, Nat.reduceBEq, Nat.reduceAdd, Nat.reduceMul, Nat.reduceSub, Int.reduceToNat, reduceCtorEq, Int.reduceAdd, Int.reduceEq, Int.reduceLE, Int.reduceLT, Nat.reduceLT, Nat.reduceLeDiff]
  simp only [branch]
  cases hv : vPm p with
  | false =>
    simp only [push_cast, ↓branch_true, ↓branch_false, Nat.reduceBEq, Nat.reduceAdd, Nat.reduceMul, Nat.reduceSub, Int.reduceToNat, reduceCtorEq, Int.reduceAdd, Int.reduceEq, Int.reduceLE, Int.reduceLT, Nat.reduceLT, Nat.reduceLeDiff]
    refine ⟨_, _, [0, 1, 2, 3], ?_, by kernel_rfl, ?_, _, _, _, rfl, .arg (.inl hv), rfl⟩
    · simp only [push_cast, ↓branch_true, ↓branch_false, Nat.reduceBEq, Nat.reduceAdd, Nat.reduceMul, Nat.reduceSub, Int.reduceToNat, reduceCtorEq, Int.reduceAdd, Int.reduceEq, Int.reduceLE, Int.reduceLT, Nat.reduceLT, Nat.reduceLeDiff]
    · simp only [push_cast, ↓branch_true, ↓branch_false, Nat.reduceBEq, Nat.reduceAdd, Nat.reduceMul, Nat.reduceSub, Int.reduceToNat, reduceCtorEq, Int.reduceAdd, Int.reduceEq, Int.reduceLE, Int.reduceLT, Nat.reduceLT, Nat.reduceLeDiff]
  | true =>
  have hp := hin hv
  simp only [push_cast, ↓branch_true, ↓branch_false, Nat.reduceBEq, Nat.reduceAdd, Nat.reduceMul, Nat.reduceSub, Int.reduceToNat, reduceCtorEq, Int.reduceAdd, Int.reduceEq, Int.reduceLE, Int.reduceLT, Nat.reduceLT, Nat.reduceLeDiff]
  refine sp_c hri rfl [3] ?_
  simp only [push_cast, ↓branch_true, ↓branch_false, Nat.reduceBEq, Nat.reduceAdd, Nat.reduceMul, Nat.reduceSub, Int.reduceToNat, reduceCtorEq, Int.reduceAdd, Int.reduceEq, Int.reduceLE, Int.reduceLT, Nat.reduceLT, Nat.reduceLeDiff]
  cases hr : rgt n N D with
  | false =>
    simp only [push_cast, ↓branch_true, ↓branch_false, Nat.reduceBEq, Nat.reduceAdd, Nat.reduceMul, Nat.reduceSub, Int.reduceToNat, reduceCtorEq, Int.reduceAdd, Int.reduceEq, Int.reduceLE, Int.reduceLT, Nat.reduceLT, Nat.reduceLeDiff]
    refine ⟨_, _, [0, 1, 2, 3], ?_, by kernel_rfl, ?_, _, _, _, rfl, .arg (.inr hr), rfl⟩
    · simp only [push_cast, ↓branch_true, ↓branch_false, Nat.reduceBEq, Nat.reduceAdd, Nat.reduceMul, Nat.reduceSub, Int.reduceToNat, reduceCtorEq, Int.reduceAdd, Int.reduceEq, Int.reduceLE, Int.reduceLT, Nat.reduceLT, Nat.reduceLeDiff]
    · simp only [push_cast, ↓branch_true, ↓branch_false, Nat.reduceBEq, Nat.reduceAdd, Nat.reduceMul, Nat.reduceSub, Int.reduceToNat, reduceCtorEq, Int.reduceAdd, Int.reduceEq, Int.reduceLE, Int.reduceLT, Nat.reduceLT, Nat.reduceLeDiff]
  | true =>
  simp only [push_cast, ↓branch_true, ↓branch_false, Nat.reduceBEq, Nat.reduceAdd, Nat.reduceMul, Nat.reduceSub, Int.reduceToNat, reduceCtorEq, Int.reduceAdd, Int.reduceEq, Int.reduceLE, Int.reduceLT, Nat.reduceLT, Nat.reduceLeDiff]
  refine ⟨fun h1 => ?_, fun h1 => ?_⟩
  rotate_left
  · refine ⟨_, _, [0, 1, 2, 3], ?_, by kernel_rfl, ?_, _, _, _, rfl, .size hv hr (by omega), rfl⟩
    · simp only [push_cast, ↓branch_true, ↓branch_false, Nat.reduceBEq, Nat.reduceAdd, Nat.reduceMul, Nat.reduceSub, Int.reduceToNat, reduceCtorEq, Int.reduceAdd, Int.reduceEq, Int.reduceLE, Int.reduceLT, Nat.reduceLT, Nat.reduceLeDiff]
    · simp only [push_cast, ↓branch_true, ↓branch_false, Nat.reduceBEq, Nat.reduceAdd, Nat.reduceMul, Nat.reduceSub, Int.reduceToNat, reduceCtorEq, Int.reduceAdd, Int.reduceEq, Int.reduceLE, Int.reduceLT, Nat.reduceLT, Nat.reduceLeDiff]
  obtain rfl : n = p.n := by omega
  have hcast : ∀ k, k < p.n → D k = ((D k).toNat : Nat) ∧ Frc (N k) (D k).toNat := fun k hk => vF_cast (by unfold rgt at hr; exact of_decide_eq_true hr k hk)
  have hk0 := ValR.ok hv hr rfl
  have hk1 := ValR.big hv hr rfl
  obtain ⟨D', hD'⟩ : ∃ D' : Nat → Nat, D' = fun k => (D k).toNat := ⟨_, rfl⟩
  rw [← hD'] at hk0 hk1
  have hcast : ∀ k, k < p.n → D k = (D' k : Nat) ∧ Frc (N k) (D' k) := by rw [hD']; exact hcast
  clear hD'
  have hco := hp.co
  refine sp_at (of_sp 1 0 (fun _ => p.n) (fun _ => p.nc) (fun _ => p.co) p.n cap N D' 0 (by decide) (by show p.n ≤ p.n; omega) (by omega) (fun t ht => by have := hco t ht; omega) fun k hk => (hcast k hk).2) [6, 0, 3] (by kernel_rfl) ?_ ?_ ?_
  · simp only [push_cast, ↓branch_true, ↓branch_false, Nat.reduceBEq, Nat.reduceAdd, Nat.reduceMul, Nat.reduceSub, Int.reduceToNat, reduceCtorEq, Int.reduceAdd, Int.reduceEq, Int.reduceLE, Int.reduceLT, Nat.reduceLT, Nat.reduceLeDiff]
  · simp only [push_cast, ↓branch_true, ↓branch_false, Nat.reduceBEq, Nat.reduceAdd, Nat.reduceMul, Nat.reduceSub, Int.reduceToNat, reduceCtorEq, Int.reduceAdd, Int.reduceEq, Int.reduceLE, Int.reduceLT, Nat.reduceLT, Nat.reduceLeDiff]
    exact fun _ _ k hk => congrArg (Value.int .i64) (hcast k hk).1.symm
  rintro r0 _ ⟨e1, hR, rfl⟩
  change OfR (ofS p.co N D' p.n) 0 r0 e1 at hR
  cases hs : ofS p.co N D' p.n with
  | none =>
    rw [hs] at hR
    obtain ⟨rfl, rfl⟩ := hR
    simp only [push_cast, ↓branch_true, ↓branch_false, Nat.reduceBEq, Nat.reduceAdd, Nat.reduceMul, Nat.reduceSub, Int.reduceToNat, reduceCtorEq, Int.reduceAdd, Int.reduceEq, Int.reduceLE, Int.reduceLT, Nat.reduceLT, Nat.reduceLeDiff]
    refine ⟨?_, ?_⟩
    all_goals
      refine ⟨_, _, [0, 1, 2, 3], ?_, by kernel_rfl, ?_, _, _, _, rfl, hk1 hs, rfl⟩
      · simp only [push_cast, ↓branch_true, ↓branch_false, Nat.reduceBEq, Nat.reduceAdd, Nat.reduceMul, Nat.reduceSub, Int.reduceToNat, reduceCtorEq, Int.reduceAdd, Int.reduceEq, Int.reduceLE, Int.reduceLT, Nat.reduceLT, Nat.reduceLeDiff]
      · simp only [push_cast, ↓branch_true, ↓branch_false, Nat.reduceBEq, Nat.reduceAdd, Nat.reduceMul, Nat.reduceSub, Int.reduceToNat, reduceCtorEq, Int.reduceAdd, Int.reduceEq, Int.reduceLE, Int.reduceLT, Nat.reduceLT, Nat.reduceLeDiff]
        exact fun _ _ k hk => congrArg (Value.int .i64) (hcast k hk).1
  | some s =>
    rw [hs] at hR
    obtain ⟨rfl, rfl, hfs⟩ := hR
    simp only [push_cast, ↓branch_true, ↓branch_false, Nat.reduceBEq, Nat.reduceAdd, Nat.reduceMul, Nat.reduceSub, Int.reduceToNat, reduceCtorEq, Int.reduceAdd, Int.reduceEq, Int.reduceLE, Int.reduceLT, Nat.reduceLT, Nat.reduceLeDiff]
    refine ⟨_, _, [0, 1, 2, 3], ?_, by kernel_rfl, ?_, _, _, _, rfl, hk0 s hs hfs, rfl⟩
    · simp only [push_cast, ↓branch_true, ↓branch_false, Nat.reduceBEq, Nat.reduceAdd, Nat.reduceMul, Nat.reduceSub, Int.reduceToNat, reduceCtorEq, Int.reduceAdd, Int.reduceEq, Int.reduceLE, Int.reduceLT, Nat.reduceLT, Nat.reduceLeDiff]
    · simp only [push_cast, ↓branch_true, ↓branch_false, Nat.reduceBEq, Nat.reduceAdd, Nat.reduceMul, Nat.reduceSub, Int.reduceToNat, reduceCtorEq, Int.reduceAdd, Int.reduceEq, Int.reduceLE, Int.reduceLT, Nat.reduceLT, Nat.reduceLeDiff]
      exact fun _ _ k hk => congrArg (Value.int .i64) (hcast k hk).1
end Go.Proofs.Ytmefgachdnlaoaa
