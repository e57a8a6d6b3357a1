/- Contract: Check. -/
import Derived.Test.YtmefgachdnlaoaaTD
set_option maxRecDepth 100000
set_option linter.unusedSimpArgs false
set_option linter.unusedVariables false
namespace Go.Proofs.Ytmefgachdnlaoaa
open Go.RowKit Lp
def xAll (p : Pm) (N : Nat → Int) (D : Nat → Nat) : Bool := decide (∀ t, t < p.m → rowS p N D t ≠ none) && (ofS p.co N D p.n).isSome
def isQ (o : Option (Int × Nat)) (vn : Int) (vd : Nat) : Bool := match o with | some s => (s.1 == vn && (s.2 : Int) == (vd : Int)) | none => true
def feaB (p : Pm) (N : Nat → Int) (D : Nat → Nat) : Bool := nnB p.n N && decide (∀ t, t < p.m → okO (rOk p t) (rowS p N D t) = true)
def belB (p : Pm) (c : Nat → Int) (N : Nat → Int) (D : Nat → Nat) : Bool := decide (∀ j, j < p.n → okO (cOk c j) (colS p N D j) = true)
def chkB (p : Pm) (vn : Int) (vd : Nat) (XN : Nat → Int) (XD : Nat → Nat) (YN : Nat → Int) (YD : Nat → Nat) : Bool :=
  feaB p XN XD && (isQ (ofS p.co XN XD p.n) vn vd && (belB p p.co YN YD && (isQ (ofS p.b YN YD p.m) vn vd && sgB p YN)))
inductive ChkR (p : Pm) (vn vd : Int) (nx : Nat) (XN XD : Nat → Int) (ny : Nat) (YN YD : Nat → Int) : Bool → Int → Prop
  | arg (h : vPm p = false ∨ vF vn vd = false ∨ rgt nx XN XD = false ∨ rgt ny YN YD = false) : ChkR p vn vd nx XN XD ny YN YD false 1
  | size (hv : vPm p = true) (hq : vF vn vd = true) (hx : rgt nx XN XD = true) (hy : rgt ny YN YD = true) (h : nx ≠ p.n ∨ ny ≠ p.m) : ChkR p vn vd nx XN XD ny YN YD false 3
  | ok (hv : vPm p = true) (hq : vF vn vd = true) (hx : rgt nx XN XD = true) (hy : rgt ny YN YD = true) (h1 : nx = p.n) (h2 : ny = p.m) :
    ChkR p vn vd nx XN XD ny YN YD ((xAll p XN (fun k => (XD k).toNat) && yAll p YN fun k => (YD k).toNat) && chkB p vn vd.toNat XN (fun k => (XD k).toNat) YN fun k => (YD k).toNat) (errQ (xAll p XN (fun k => (XD k).toNat) && yAll p YN fun k => (YD k).toNat))
theorem of_two {S : Option (Int × Nat)} {e1 e2 : Int} {r : SV} (hR : OfR S e1 r e2) : ∃ (fn : Int) (fd : Nat), r = frV fn (fd : Nat) ∧ ((S.isSome = true ∧ e2 = e1 ∧ ∀ vn vd, isQ S vn vd = (fn == vn && (fd : Int) == (vd : Int))) ∨ (S.isSome = false ∧ e2 = 5)) := by
  cases S with
  | none => exact ⟨0, 1, hR.1, .inr ⟨rfl, hR.2⟩⟩
  | some s => exact ⟨s.1, s.2, hR.1, .inl ⟨rfl, hR.2.1, fun _ _ => rfl⟩⟩
theorem all_two {S : Nat → Option (Int × Nat)} {ok : Nat → Int × Nat → Bool} {m : Nat} {b0 b : Bool} {e e' : Int} (h : AllR S ok m b0 e b e') :
    (decide (∀ t, t < m → S t ≠ Option.none) = true ∧ e' = e ∧ b = (b0 && decide (∀ t, t < m → okO (ok t) (S t) = true))) ∨ (decide (∀ t, t < m → S t ≠ Option.none) = false ∧ e' = 5) := by
  obtain ⟨h1, h2⟩ := h.res
  by_cases hall : ∀ t, t < m → S t ≠ Option.none
  · exact .inl ⟨decide_eq_true hall, h1 hall⟩
  · exact .inr ⟨decide_eq_false hall, h2 hall⟩
theorem chk_fin {A1 S2 A3 S4 b1 E2 b3 E4 Bs Q2 Q4 C1 B3 : Bool} {e1 e2 e3 e4 : Int} (h1 : (A1 = true ∧ e1 = 0 ∧ b1 = C1) ∨ (A1 = false ∧ e1 = 5)) (h2 : (S2 = true ∧ e2 = e1 ∧ Q2 = E2) ∨ (S2 = false ∧ e2 = 5))
    (h3 : (A3 = true ∧ e3 = e2 ∧ b3 = (true && B3)) ∨ (A3 = false ∧ e3 = 5)) (h4 : (S4 = true ∧ e4 = e3 ∧ Q4 = E4) ∨ (S4 = false ∧ e4 = 5)) :
    errQ ((A1 && S2) && (A3 && S4)) = e4 ∧ (((A1 && S2) && (A3 && S4)) && (C1 && (Q2 && (B3 && (Q4 && Bs))))) = (b1 && (E2 && (b3 && (E4 && (Bs && (e4 == 0)))))) := by
  rcases h1 with ⟨rfl, rfl, rfl⟩ | ⟨rfl, rfl⟩ <;> rcases h2 with ⟨rfl, rfl, rfl⟩ | ⟨rfl, rfl⟩ <;> rcases h3 with ⟨rfl, rfl, rfl⟩ | ⟨rfl, rfl⟩ <;> rcases h4 with ⟨rfl, rfl, rfl⟩ | ⟨rfl, rfl⟩ <;> simp [errQ]
set_option maxHeartbeats 16000000 in
theorem check_sp (p : Pm) (hin : vPm p = true → PmOk p) (hl : ∀ t, t < p.m → p.ln t ≤ 1000000) (hn : p.n ≤ 1000000) (hm : p.m ≤ 1000000) (vn vd : Int) (nx cx : Nat) (XN XD : Nat → Int) (ny cy : Nat) (YN YD : Nat → Int)
    (hnx : nx ≤ 1000000) (hny : ny ≤ 1000000) (hvn : -9223372036854775808 ≤ vn ∧ vn ≤ 9223372036854775807) (hvd : -9223372036854775808 ≤ vd ∧ vd ≤ 9223372036854775807)
    (hbx : ∀ k, k < nx → (-9223372036854775808 ≤ XN k ∧ XN k ≤ 9223372036854775807) ∧ -9223372036854775808 ≤ XD k ∧ XD k ≤ 9223372036854775807)
    (hby : ∀ k, k < ny → (-9223372036854775808 ≤ YN k ∧ YN k ≤ 9223372036854775807) ∧ -9223372036854775808 ≤ YD k ∧ YD k ≤ 9223372036854775807) :
    Sp Try.prog 14 [svP p, .a [.v (.int .i64 vn), .v (.int .i64 vd), .s 3 0 0 nx cx 2, .s 4 0 0 ny cy 2]] (obP p ++ [rFi nx cx XN XD, rFi ny cy YN YD]) (fun r H => ∃ b e, r = .t [.v (.bool b), .v (.int .i64 e)] ∧ ChkR p vn vd nx XN XD ny YN YD b e ∧ H = obP p ++ [rFi nx cx XN XD, rFi ny cy YN YD]) := by
  have hva := valid_pu p hl hn hm
  have hvq := fvalid_pu vn vd hvn hvd
  have hrx := right_pu nx cx XN XD hnx hbx
  have hry := right_pu ny cy YN YD hny hby
  refine sp_weak ?_
  refine sp_of_ex true [(7, .pre [5, 6] [0, 1, 2, 3, 5, 6] (.one 4 (.one 7 (.one 8 (.one 9 (.one 10 (.one 11 .fin))))))), (9, .pre [5, 6] [0, 2, 3, 5, 6] (.one 1 (.one 4 (.one 7 (.one 8 (.one 10 (.alt [(9, .one 11 (.one 12 (.one 13 (.one 14 (.one 15 (.one 16 (.one 17 .fin))))))), (11, .one 9 (.one 12 (.one 13 (.one 14 (.one 15 (.one 16 (.one 17 .fin)))))))])))))))] mixed Try.call14 Try.func14 rfl Try.ntmps14 Try.results14 (by decide +kernel) rfl ?_
  simp only [push_cast, ↓branch_true, ↓branch_false, Nat.reduceBEq, Nat.reduceAdd, Nat.reduceMul, Nat.reduceSub, Int.reduceToNat, reduceCtorEq, Int.reduceAdd, Int.reduceEq, Int.reduceLE, Int.reduceLT, Nat.reduceLT, Nat.reduceLeDiff]
  refine sp_c hva rfl [0, 1, 2] ?_
  simp only [push_cast, ↓branch_true, ↓branch_false, Nat.reduceBEq, Nat.reduceAdd, Nat.reduceMul, Nat.reduceSub, Int.reduceToNat, reduceCtorEq, Int.reduceAdd, Int.reduceEq, Int.reduceLE, Int.reduceLT, Nat.reduceLT, Nat.reduceLeDiff]
  cases hv : vPm p with
  | false =>
    simp only [push_cast, ↓branch_true, ↓branch_false, Nat.reduceBEq, Nat.reduceAdd, Nat.reduceMul, Nat.reduceSub, Int.reduceToNat, reduceCtorEq, Int.reduceAdd, Int.reduceEq, Int.reduceLE, Int.reduceLT, Nat.reduceLT, Nat.reduceLeDiff]
    refine ⟨_, _, [0, 1, 2, 3, 4], ?_, by kernel_rfl, ?_, _, _, rfl, .arg (.inl hv), rfl⟩
    · simp only [push_cast, ↓branch_true, ↓branch_false, Nat.reduceBEq, Nat.reduceAdd, Nat.reduceMul, Nat.reduceSub, Int.reduceToNat, reduceCtorEq, Int.reduceAdd, Int.reduceEq, Int.reduceLE, Int.reduceLT, Nat.reduceLT, Nat.reduceLeDiff]
    · simp only [push_cast, ↓branch_true, ↓branch_false, Nat.reduceBEq, Nat.reduceAdd, Nat.reduceMul, Nat.reduceSub, Int.reduceToNat, reduceCtorEq, Int.reduceAdd, Int.reduceEq, Int.reduceLE, Int.reduceLT, Nat.reduceLT, Nat.reduceLeDiff]
  | true =>
  have hp := hin hv
  simp only [push_cast, ↓branch_true, ↓branch_false, Nat.reduceBEq, Nat.reduceAdd, Nat.reduceMul, Nat.reduceSub, Int.reduceToNat, reduceCtorEq, Int.reduceAdd, Int.reduceEq, Int.reduceLE, Int.reduceLT, Nat.reduceLT, Nat.reduceLeDiff]
  refine sp_c hvq rfl [] ?_
  simp only [push_cast, ↓branch_true, ↓branch_false, Nat.reduceBEq, Nat.reduceAdd, Nat.reduceMul, Nat.reduceSub, Int.reduceToNat, reduceCtorEq, Int.reduceAdd, Int.reduceEq, Int.reduceLE, Int.reduceLT, Nat.reduceLT, Nat.reduceLeDiff]
  cases hq : vF vn vd with
  | false =>
    simp only [push_cast, ↓branch_true, ↓branch_false, Nat.reduceBEq, Nat.reduceAdd, Nat.reduceMul, Nat.reduceSub, Int.reduceToNat, reduceCtorEq, Int.reduceAdd, Int.reduceEq, Int.reduceLE, Int.reduceLT, Nat.reduceLT, Nat.reduceLeDiff]
    refine ⟨_, _, [0, 1, 2, 3, 4], ?_, by kernel_rfl, ?_, _, _, rfl, .arg (.inr (.inl hq)), rfl⟩
    · simp only [push_cast, ↓branch_true, ↓branch_false, Nat.reduceBEq, Nat.reduceAdd, Nat.reduceMul, Nat.reduceSub, Int.reduceToNat, reduceCtorEq, Int.reduceAdd, Int.reduceEq, Int.reduceLE, Int.reduceLT, Nat.reduceLT, Nat.reduceLeDiff]
    · simp only [push_cast, ↓branch_true, ↓branch_false, Nat.reduceBEq, Nat.reduceAdd, Nat.reduceMul, Nat.reduceSub, Int.reduceToNat, reduceCtorEq, Int.reduceAdd, Int.reduceEq, Int.reduceLE, Int.reduceLT, Nat.reduceLT, Nat.reduceLeDiff]
  | true =>
  simp only [push_cast, ↓branch_true, ↓branch_false, Nat.reduceBEq, Nat.reduceAdd, Nat.reduceMul, Nat.reduceSub, Int.reduceToNat, reduceCtorEq, Int.reduceAdd, Int.reduceEq, Int.reduceLE, Int.reduceLT, Nat.reduceLT, Nat.reduceLeDiff]
  refine sp_c hrx rfl [3] ?_
  simp only [push_cast, ↓branch_true, ↓branch_false, Nat.reduceBEq, Nat.reduceAdd, Nat.reduceMul, Nat.reduceSub, Int.reduceToNat, reduceCtorEq, Int.reduceAdd, Int.reduceEq, Int.reduceLE, Int.reduceLT, Nat.reduceLT, Nat.reduceLeDiff]
  cases hx : rgt nx XN XD with
  | false =>
    simp only [push_cast, ↓branch_true, ↓branch_false, Nat.reduceBEq, Nat.reduceAdd, Nat.reduceMul, Nat.reduceSub, Int.reduceToNat, reduceCtorEq, Int.reduceAdd, Int.reduceEq, Int.reduceLE, Int.reduceLT, Nat.reduceLT, Nat.reduceLeDiff]
    refine ⟨_, _, [0, 1, 2, 3, 4], ?_, by kernel_rfl, ?_, _, _, rfl, .arg (.inr (.inr (.inl hx))), rfl⟩
    · simp only [push_cast, ↓branch_true, ↓branch_false, Nat.reduceBEq, Nat.reduceAdd, Nat.reduceMul, Nat.reduceSub, Int.reduceToNat, reduceCtorEq, Int.reduceAdd, Int.reduceEq, Int.reduceLE, Int.reduceLT, Nat.reduceLT, Nat.reduceLeDiff]
    · simp only [push_cast, ↓branch_true, ↓branch_false, Nat.reduceBEq, Nat.reduceAdd, Nat.reduceMul, Nat.reduceSub, Int.reduceToNat, reduceCtorEq, Int.reduceAdd, Int.reduceEq, Int.reduceLE, Int.reduceLT, Nat.reduceLT, Nat.reduceLeDiff]
  | true =>
  simp only [push_cast, ↓branch_true, ↓branch_false, Nat.reduceBEq, Nat.reduceAdd, Nat.reduceMul, Nat.reduceSub, Int.reduceToNat, reduceCtorEq, Int.reduceAdd, Int.reduceEq, Int.reduceLE, Int.reduceLT, Nat.reduceLT, Nat.reduceLeDiff]
  refine sp_c hry rfl [4] ?_
  simp only [push_cast, ↓branch_true, ↓branch_false, Nat.reduceBEq, Nat.reduceAdd, Nat.reduceMul, Nat.reduceSub, Int.reduceToNat, reduceCtorEq, Int.reduceAdd, Int.reduceEq, Int.reduceLE, Int.reduceLT, Nat.reduceLT, Nat.reduceLeDiff]
  cases hy : rgt ny YN YD with
  | false =>
    simp only [push_cast, ↓branch_true, ↓branch_false, Nat.reduceBEq, Nat.reduceAdd, Nat.reduceMul, Nat.reduceSub, Int.reduceToNat, reduceCtorEq, Int.reduceAdd, Int.reduceEq, Int.reduceLE, Int.reduceLT, Nat.reduceLT, Nat.reduceLeDiff]
    refine ⟨_, _, [0, 1, 2, 3, 4], ?_, by kernel_rfl, ?_, _, _, rfl, .arg (.inr (.inr (.inr hy))), rfl⟩
    · simp only [push_cast, ↓branch_true, ↓branch_false, Nat.reduceBEq, Nat.reduceAdd, Nat.reduceMul, Nat.reduceSub, Int.reduceToNat, reduceCtorEq, Int.reduceAdd, Int.reduceEq, Int.reduceLE, Int.reduceLT, Nat.reduceLT, Nat.reduceLeDiff]
    · simp only [push_cast, ↓branch_true, ↓branch_false, Nat.reduceBEq, Nat.reduceAdd, Nat.reduceMul, Nat.reduceSub, Int.reduceToNat, reduceCtorEq, Int.reduceAdd, Int.reduceEq, Int.reduceLE, Int.reduceLT, Nat.reduceLT, Nat.reduceLeDiff]
  | true =>
  simp only [push_cast, ↓branch_true, ↓branch_false, Nat.reduceBEq, Nat.reduceAdd, Nat.reduceMul, Nat.reduceSub, Int.reduceToNat, reduceCtorEq, Int.reduceAdd, Int.reduceEq, Int.reduceLE, Int.reduceLT, Nat.reduceLT, Nat.reduceLeDiff]
  refine ⟨fun h1 => ⟨fun h2 => ?_, fun h2 => ?_⟩, fun h1 => ?_⟩
  rotate_left
  · refine ⟨_, _, [0, 1, 2, 3, 4], ?_, by kernel_rfl, ?_, _, _, rfl, .size hv hq hx hy (.inr (by omega)), rfl⟩
    · simp only [push_cast, ↓branch_true, ↓branch_false, Nat.reduceBEq, Nat.reduceAdd, Nat.reduceMul, Nat.reduceSub, Int.reduceToNat, reduceCtorEq, Int.reduceAdd, Int.reduceEq, Int.reduceLE, Int.reduceLT, Nat.reduceLT, Nat.reduceLeDiff]
    · simp only [push_cast, ↓branch_true, ↓branch_false, Nat.reduceBEq, Nat.reduceAdd, Nat.reduceMul, Nat.reduceSub, Int.reduceToNat, reduceCtorEq, Int.reduceAdd, Int.reduceEq, Int.reduceLE, Int.reduceLT, Nat.reduceLT, Nat.reduceLeDiff]
  · refine ⟨_, _, [0, 1, 2, 3, 4], ?_, by kernel_rfl, ?_, _, _, rfl, .size hv hq hx hy (.inl (by omega)), rfl⟩
    · simp only [push_cast, ↓branch_true, ↓branch_false, Nat.reduceBEq, Nat.reduceAdd, Nat.reduceMul, Nat.reduceSub, Int.reduceToNat, reduceCtorEq, Int.reduceAdd, Int.reduceEq, Int.reduceLE, Int.reduceLT, Nat.reduceLT, Nat.reduceLeDiff]
    · simp only [push_cast, ↓branch_true, ↓branch_false, Nat.reduceBEq, Nat.reduceAdd, Nat.reduceMul, Nat.reduceSub, Int.reduceToNat, reduceCtorEq, Int.reduceAdd, Int.reduceEq, Int.reduceLE, Int.reduceLT, Nat.reduceLT, Nat.reduceLeDiff]
  obtain rfl : nx = p.n := by omega
  obtain rfl : ny = p.m := by omega
  have hcx : ∀ k, k < p.n → XD k = ((XD k).toNat : Nat) ∧ Frc (XN k) (XD k).toNat := fun k hk => vF_cast (by unfold rgt at hx; exact of_decide_eq_true hx k hk)
  have hcy : ∀ k, k < p.m → YD k = ((YD k).toNat : Nat) ∧ Frc (YN k) (YD k).toNat := fun k hk => vF_cast (by unfold rgt at hy; exact of_decide_eq_true hy k hk)
  have hcv := (vF_cast hq).1
  have hk0 := ChkR.ok hv hq hx hy rfl rfl
  obtain ⟨X', hX'⟩ : ∃ D' : Nat → Nat, D' = fun k => (XD k).toNat := ⟨_, rfl⟩
  obtain ⟨Y', hY'⟩ : ∃ D' : Nat → Nat, D' = fun k => (YD k).toNat := ⟨_, rfl⟩
  rw [← hX', ← hY'] at hk0
  have hcx : ∀ k, k < p.n → XD k = (X' k : Nat) ∧ Frc (XN k) (X' k) := by rw [hX']; exact hcx
  have hcy : ∀ k, k < p.m → YD k = (Y' k : Nat) ∧ Frc (YN k) (Y' k) := by rw [hY']; exact hcy
  clear hX' hY'
  have hbb := hp.b
  have hco := hp.co
  refine sp_at (feasible_sp p hp cx XN X' 0 fun k hk => (hcx k hk).2) [0, 1, 2, 7, 3] (by kernel_rfl) ?_ ?_ ?_
  · simp only [push_cast, ↓branch_true, ↓branch_false, Nat.reduceBEq, Nat.reduceAdd, Nat.reduceMul, Nat.reduceSub, Int.reduceToNat, reduceCtorEq, Int.reduceAdd, Int.reduceEq, Int.reduceLE, Int.reduceLT, Nat.reduceLT, Nat.reduceLeDiff]
  · simp only [push_cast, ↓branch_true, ↓branch_false, Nat.reduceBEq, Nat.reduceAdd, Nat.reduceMul, Nat.reduceSub, Int.reduceToNat, reduceCtorEq, Int.reduceAdd, Int.reduceEq, Int.reduceLE, Int.reduceLT, Nat.reduceLT, Nat.reduceLeDiff]
    exact fun _ _ k hk => congrArg (Value.int .i64) (hcx k hk).1.symm
  rintro _ _ ⟨b1, e1, rfl, hA1, rfl⟩
  have hA1 := all_two hA1
  simp only [push_cast, ↓branch_true, ↓branch_false, Nat.reduceBEq, Nat.reduceAdd, Nat.reduceMul, Nat.reduceSub, Int.reduceToNat, reduceCtorEq, Int.reduceAdd, Int.reduceEq, Int.reduceLE, Int.reduceLT, Nat.reduceLT, Nat.reduceLeDiff]
  refine sp_at (of_sp 1 0 (fun _ => p.n) (fun _ => p.nc) (fun _ => p.co) p.n cx XN X' e1 (by decide) (by show p.n ≤ p.n; omega) (by omega) (fun t ht => by have := hco t ht; omega) fun k hk => (hcx k hk).2) [7, 0, 3] (by kernel_rfl) ?_ ?_ ?_
  · simp only [push_cast, ↓branch_true, ↓branch_false, Nat.reduceBEq, Nat.reduceAdd, Nat.reduceMul, Nat.reduceSub, Int.reduceToNat, reduceCtorEq, Int.reduceAdd, Int.reduceEq, Int.reduceLE, Int.reduceLT, Nat.reduceLT, Nat.reduceLeDiff]
  · simp only [push_cast, ↓branch_true, ↓branch_false, Nat.reduceBEq, Nat.reduceAdd, Nat.reduceMul, Nat.reduceSub, Int.reduceToNat, reduceCtorEq, Int.reduceAdd, Int.reduceEq, Int.reduceLE, Int.reduceLT, Nat.reduceLT, Nat.reduceLeDiff]
  rintro r0 _ ⟨e2, hR, rfl⟩
  obtain ⟨fn, fd, rfl, hA2⟩ := of_two hR
  clear hR
  simp only [push_cast, ↓branch_true, ↓branch_false, Nat.reduceBEq, Nat.reduceAdd, Nat.reduceMul, Nat.reduceSub, Int.reduceToNat, reduceCtorEq, Int.reduceAdd, Int.reduceEq, Int.reduceLE, Int.reduceLT, Nat.reduceLT, Nat.reduceLeDiff]
  refine ⟨agg27 _ _ _ _, ?_⟩
  obtain ⟨Q2, hQ2⟩ : ∃ Q, Q = isQ (ofS p.co XN X' p.n) vn vd.toNat := ⟨_, rfl⟩
  have hA2 : ((ofS p.co XN X' p.n).isSome = true ∧ e2 = e1 ∧ Q2 = (fn == vn && ((fd : Nat) : Int) == vd)) ∨ ((ofS p.co XN X' p.n).isSome = false ∧ e2 = 5) := by
    rcases hA2 with ⟨q1, q2, q3⟩ | q
    · exact .inl ⟨q1, q2, by rw [hQ2, q3, ← hcv]⟩
    · exact .inr q
  generalize (fn == vn && ((fd : Nat) : Int) == vd) = E2 at *
  simp only [branch]
  have hk1 := hA1
  refine ⟨fun h4 => ?_, fun h4 => ?_⟩
  all_goals
    refine sp_at (below1_sp p hp cy YN Y' e2 (fun k hk => (hcy k hk).2) p.co (fun j hj => by have := hco j hj; omega) (fun _ => rfl)) [0, 1, 2, 7, 4, 5] (by kernel_rfl) ?_ ?_ ?_
    · simp only [push_cast, ↓branch_true, ↓branch_false, Nat.reduceBEq, Nat.reduceAdd, Nat.reduceMul, Nat.reduceSub, Int.reduceToNat, reduceCtorEq, Int.reduceAdd, Int.reduceEq, Int.reduceLE, Int.reduceLT, Nat.reduceLT, Nat.reduceLeDiff]
    · simp only [push_cast, ↓branch_true, ↓branch_false, Nat.reduceBEq, Nat.reduceAdd, Nat.reduceMul, Nat.reduceSub, Int.reduceToNat, reduceCtorEq, Int.reduceAdd, Int.reduceEq, Int.reduceLE, Int.reduceLT, Nat.reduceLT, Nat.reduceLeDiff]
      exact fun _ _ k hk => congrArg (Value.int .i64) (hcy k hk).1.symm
    rintro _ _ ⟨b3, e3, rfl, hA3, rfl⟩
    have hA3 := all_two hA3
    simp only [push_cast, ↓branch_true, ↓branch_false, Nat.reduceBEq, Nat.reduceAdd, Nat.reduceMul, Nat.reduceSub, Int.reduceToNat, reduceCtorEq, Int.reduceAdd, Int.reduceEq, Int.reduceLE, Int.reduceLT, Nat.reduceLT, Nat.reduceLeDiff]
    simp only [branch]
    refine ⟨fun h5 => ?_, fun h5 => ?_⟩
    all_goals
      refine sp_at (rights_sp p (by omega) (by omega)) [0, 1, 2] (by kernel_rfl) ?_ ?_ ?_
      · simp only [push_cast, ↓branch_true, ↓branch_false, Nat.reduceBEq, Nat.reduceAdd, Nat.reduceMul, Nat.reduceSub, Int.reduceToNat, reduceCtorEq, Int.reduceAdd, Int.reduceEq, Int.reduceLE, Int.reduceLT, Nat.reduceLT, Nat.reduceLeDiff]
      · simp only [push_cast, ↓branch_true, ↓branch_false, Nat.reduceBEq, Nat.reduceAdd, Nat.reduceMul, Nat.reduceSub, Int.reduceToNat, reduceCtorEq, Int.reduceAdd, Int.reduceEq, Int.reduceLE, Int.reduceLT, Nat.reduceLT, Nat.reduceLeDiff]
      rintro _ _ ⟨cb, hcb, rfl, rfl⟩
      simp only [push_cast, ↓branch_true, ↓branch_false, Nat.reduceBEq, Nat.reduceAdd, Nat.reduceMul, Nat.reduceSub, Int.reduceToNat, reduceCtorEq, Int.reduceAdd, Int.reduceEq, Int.reduceLE, Int.reduceLT, Nat.reduceLT, Nat.reduceLeDiff]
      refine sp_at (of_sp 1 0 (fun _ => p.m) (fun _ => cb) (fun _ => p.b) p.m cy YN Y' e3 (by decide) (by show p.m ≤ p.m; omega) (by omega) (fun t ht => by have := hbb t ht; omega) fun k hk => (hcy k hk).2) [7, 8, 4] (by kernel_rfl) ?_ ?_ ?_
      · simp only [push_cast, ↓branch_true, ↓branch_false, Nat.reduceBEq, Nat.reduceAdd, Nat.reduceMul, Nat.reduceSub, Int.reduceToNat, reduceCtorEq, Int.reduceAdd, Int.reduceEq, Int.reduceLE, Int.reduceLT, Nat.reduceLT, Nat.reduceLeDiff]
      · simp only [push_cast, ↓branch_true, ↓branch_false, Nat.reduceBEq, Nat.reduceAdd, Nat.reduceMul, Nat.reduceSub, Int.reduceToNat, reduceCtorEq, Int.reduceAdd, Int.reduceEq, Int.reduceLE, Int.reduceLT, Nat.reduceLT, Nat.reduceLeDiff]
      rintro r0 _ ⟨e4, hR, rfl⟩
      obtain ⟨gn, gd, rfl, hA4⟩ := of_two hR
      clear hR
      have hsg := signed2_pu p cy YN Y' (by omega)
      simp only [push_cast, ↓branch_true, ↓branch_false, Nat.reduceBEq, Nat.reduceAdd, Nat.reduceMul, Nat.reduceSub, Int.reduceToNat, reduceCtorEq, Int.reduceAdd, Int.reduceEq, Int.reduceLE, Int.reduceLT, Nat.reduceLT, Nat.reduceLeDiff]
      refine ⟨agg27 _ _ _ _, ?_⟩
      obtain ⟨Q4, hQ4⟩ : ∃ Q, Q = isQ (ofS p.b YN Y' p.m) vn vd.toNat := ⟨_, rfl⟩
      have hA4 : ((ofS p.b YN Y' p.m).isSome = true ∧ e4 = e3 ∧ Q4 = (gn == vn && ((gd : Nat) : Int) == vd)) ∨ ((ofS p.b YN Y' p.m).isSome = false ∧ e4 = 5) := by
        rcases hA4 with ⟨q1, q2, q3⟩ | q
        · exact .inl ⟨q1, q2, by rw [hQ4, q3, ← hcv]⟩
        · exact .inr q
      have hfin := chk_fin (Bs := sgB p YN) hA1 hA2 hA3 hA4
      rw [hQ2, hQ4] at hfin
      obtain ⟨f1, f2⟩ : errQ (xAll p XN X' && yAll p YN Y') = e4 ∧ ((xAll p XN X' && yAll p YN Y') && chkB p vn vd.toNat XN X' YN Y') = (b1 && (E2 && (b3 && ((gn == vn && ((gd : Nat) : Int) == vd) && (sgB p YN && (e4 == 0)))))) := hfin
      rw [f1, f2] at hk0
      clear f1 f2 hQ4 hA4
      generalize (gn == vn && ((gd : Nat) : Int) == vd) = E4 at *
      generalize sgB p YN = Bs at *
      simp only [branch]
      repeat' (first
        | (with_reducible apply And.intro)
        | (with_reducible intro _)
        | exact td_ne
        | (refine sp_c hsg rfl [0, 1, 2, 4] ?_
           simp only [push_cast, ↓branch_true, ↓branch_false, Nat.reduceBEq, Nat.reduceAdd, Nat.reduceMul, Nat.reduceSub, Int.reduceToNat, reduceCtorEq, Int.reduceAdd, Int.reduceEq, Int.reduceLE, Int.reduceLT, Nat.reduceLT, Nat.reduceLeDiff]
           try simp only [branch]
           ))
      all_goals
        refine ⟨_, _, [0, 1, 2, 3, 4], ?_, by kernel_rfl, ?_, _, _, rfl, hk0, rfl⟩
        · simp only [push_cast, ↓branch_true, ↓branch_false, Nat.reduceBEq, Nat.reduceAdd, Nat.reduceMul, Nat.reduceSub, Int.reduceToNat, reduceCtorEq, Int.reduceAdd, Int.reduceEq, Int.reduceLE, Int.reduceLT, Nat.reduceLT, Nat.reduceLeDiff]
          exact congrArg Value.bool (by simp only [*, Bool.true_and, Bool.false_and, Bool.and_false])
        · simp only [push_cast, ↓branch_true, ↓branch_false, Nat.reduceBEq, Nat.reduceAdd, Nat.reduceMul, Nat.reduceSub, Int.reduceToNat, reduceCtorEq, Int.reduceAdd, Int.reduceEq, Int.reduceLE, Int.reduceLT, Nat.reduceLT, Nat.reduceLeDiff]
          exact ⟨fun _ _ k hk => congrArg (Value.int .i64) (hcx k hk).1, fun _ _ k hk => congrArg (Value.int .i64) (hcy k hk).1⟩
end Go.Proofs.Ytmefgachdnlaoaa
