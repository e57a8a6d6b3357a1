/- Contracts: below. -/
import Derived.Test.YtmefgachdnlaoaaTB
set_option maxRecDepth 100000
set_option linter.unusedSimpArgs false
set_option linter.unusedVariables false
namespace Go.Proofs.Ytmefgachdnlaoaa
open Go.RowKit Lp
/-- The sum of a column. -/
def colS (p : Pm) (N : Nat → Int) (D : Nat → Nat) (j : Nat) : Option (Int × Nat) := ofS (fun t => p.a t j) N D p.m
def cOk (most : Nat → Int) (j : Nat) (s : Int × Nat) : Bool := decide (s.1 ≤ most j * (s.2 : Nat))
theorem cOk_cmp (most : Nat → Int) (j : Nat) (s : Int × Nat) (c : Int) (h : c = cmpS s.1 (most j * (s.2 : Nat))) : cOk most j s = decide (c ≤ 0) := by
  unfold cOk
  rw [h, decide_eq_decide]
  unfold cmpS
  (repeat' split) <;> omega
theorem most50_pu (p : Pm) (j : Nat) (hj : j < p.n) : Pu Try.prog 50 [.v (.int .i64 (j : Nat)), .p 3 0 0] (obP p ++ [rBx p]) (.v (.int .i64 (p.co j))) := by
  refine pu_of_ex true [] mixed Try.call50 Try.func50 rfl Try.ntmps50 Try.results50 (by decide +kernel) rfl rfl rfl ?_
  simp only [push_cast, ↓branch_true, ↓branch_false, Nat.reduceBEq, Nat.reduceAdd, Nat.reduceMul, Nat.reduceSub, Int.reduceToNat, reduceCtorEq, Int.reduceAdd, Int.reduceEq, Int.reduceLE, Int.reduceLT, Nat.reduceLT, Nat.reduceLeDiff]
  repeat (with_reducible refine And.intro (by omega) ?_)
  omega
theorem most53_pu (j : Nat) : Pu Try.prog 53 [.v (.int .i64 (j : Nat))] [] (.v (.int .i64 0)) := by
  refine pu_of_ex true [] mixed Try.call53 Try.func53 rfl Try.ntmps53 Try.results53 (by decide +kernel) rfl rfl rfl ?_
  simp only [push_cast, ↓branch_true, ↓branch_false, Nat.reduceBEq, Nat.reduceAdd, Nat.reduceMul, Nat.reduceSub, Int.reduceToNat, reduceCtorEq, Int.reduceAdd, Int.reduceEq, Int.reduceLE, Int.reduceLT, Nat.reduceLT, Nat.reduceLeDiff]
set_option maxHeartbeats 8000000 in
theorem below0_sp (p : Pm) (hp : PmOk p) (cap : Nat) (N : Nat → Int) (D : Nat → Nat) (e : Int) (hf : ∀ k, k < p.m → Frc (N k) (D k)) (most : Nat → Int) (hmo : ∀ j, j < p.n → (most j).natAbs ≤ 1152921504606846976)
    (hz : ∀ j, most j = 0) :
    Sp Try.prog 49 [.p 3 0 0, svP p, .s 4 0 0 p.m cap 2, .f (.func 53) [] []] (obP p ++ [oEr e, rFx p.m cap N D]) (fun r H => ∃ b e', r = .v (.bool b) ∧ AllR (colS p N D) (cOk most) p.n true e b e' ∧ H = obP p ++ [oEr e', rFx p.m cap N D]) := by
  have hn := hp.n
  have hm := hp.m
  have hmc := hp.mc
  refine sp_weak ?_
  refine sp_of_ex true [] mixed Try.call49 Try.func49 rfl Try.ntmps49 Try.results49 (by decide +kernel) rfl ?_
  simp only [push_cast, ↓branch_true, ↓branch_false, Nat.reduceBEq, Nat.reduceAdd, Nat.reduceMul, Nat.reduceSub, Int.reduceToNat, reduceCtorEq, Int.reduceAdd, Int.reduceEq, Int.reduceLE, Int.reduceLT, Nat.reduceLT, Nat.reduceLeDiff]
  refine tr_loop mixed (by kernel_rfl) (fun (x : Nat × Bool × Int) => [(14, .v (.int .i64 x.1)), (13, .v (.int .i64 p.n)), (9, .v (.bool x.2.1)), (5, .p 5 0 0), (3, .f (.func 53) [] []), (2, .s 4 0 0 p.m cap 2), (0, .p 3 0 0)])
    (fun x => obP p ++ [oEr x.2.2, rFx p.m cap N D] ++ [oBx p]) (fun x => x.1 ≤ p.n ∧ AllR (colS p N D) (cOk most) x.1 true e x.2.1 x.2.2) (fun x => p.n - x.1) (0, true, e) ⟨Nat.zero_le _, AllR.zero _ _ _ _⟩ (Mt.wk (rl := [0, 1, 2, 3, 4, 5]) ⟨by kernel_rfl, ?_, ?_⟩) ?_
  · simp only [push_cast, ↓branch_true, ↓branch_false, Nat.reduceBEq, Nat.reduceAdd, Nat.reduceMul, Nat.reduceSub, Int.reduceToNat, reduceCtorEq, Int.reduceAdd, Int.reduceEq, Int.reduceLE, Int.reduceLT, Nat.reduceLT, Nat.reduceLeDiff]
    try trivial
  · simp only [push_cast, ↓branch_true, ↓branch_false, Nat.reduceBEq, Nat.reduceAdd, Nat.reduceMul, Nat.reduceSub, Int.reduceToNat, reduceCtorEq, Int.reduceAdd, Int.reduceEq, Int.reduceLE, Int.reduceLT, Nat.reduceLT, Nat.reduceLeDiff]
  rintro ⟨j, b, e1⟩ ⟨h1, h2⟩
  simp only at h1 h2
  simp only [push_cast, ↓branch_true, ↓branch_false, Nat.reduceBEq, Nat.reduceAdd, Nat.reduceMul, Nat.reduceSub, Int.reduceToNat, reduceCtorEq, Int.reduceAdd, Int.reduceEq, Int.reduceLE, Int.reduceLT, Nat.reduceLT, Nat.reduceLeDiff]
  refine ⟨fun h3 => ?_, fun h3 => ?_⟩
  · have hjn : j < p.n := by omega
    repeat (with_reducible refine And.intro (by omega) ?_)
    refine sp_at (column_sp p j hjn hp.ln (by omega) (by omega)) [0, 1, 2] (by kernel_rfl) ?_ ?_ ?_
    · simp only [push_cast, ↓branch_true, ↓branch_false, Nat.reduceBEq, Nat.reduceAdd, Nat.reduceMul, Nat.reduceSub, Int.reduceToNat, reduceCtorEq, Int.reduceAdd, Int.reduceEq, Int.reduceLE, Int.reduceLT, Nat.reduceLT, Nat.reduceLeDiff]
    · simp only [push_cast, ↓branch_true, ↓branch_false, Nat.reduceBEq, Nat.reduceAdd, Nat.reduceMul, Nat.reduceSub, Int.reduceToNat, reduceCtorEq, Int.reduceAdd, Int.reduceEq, Int.reduceLE, Int.reduceLT, Nat.reduceLT, Nat.reduceLeDiff]
    rintro _ _ ⟨cc, hcc, rfl, rfl⟩
    simp only [push_cast, ↓branch_true, ↓branch_false, Nat.reduceBEq, Nat.reduceAdd, Nat.reduceMul, Nat.reduceSub, Int.reduceToNat, reduceCtorEq, Int.reduceAdd, Int.reduceEq, Int.reduceLE, Int.reduceLT, Nat.reduceLT, Nat.reduceLeDiff]
    have hof := of_sp 1 0 (fun _ => p.m) (fun _ => cc) (fun _ t => p.a t j) p.m cap N D e1 (by decide) (by show p.m ≤ p.m; omega) (by omega) (fun t ht => by have := hp.a t j ht hjn; omega) hf
    refine sp_at hof [3, 6, 4] (by kernel_rfl) ?_ ?_ ?_
    · simp only [push_cast, ↓branch_true, ↓branch_false, Nat.reduceBEq, Nat.reduceAdd, Nat.reduceMul, Nat.reduceSub, Int.reduceToNat, reduceCtorEq, Int.reduceAdd, Int.reduceEq, Int.reduceLE, Int.reduceLT, Nat.reduceLT, Nat.reduceLeDiff]
    · simp only [push_cast, ↓branch_true, ↓branch_false, Nat.reduceBEq, Nat.reduceAdd, Nat.reduceMul, Nat.reduceSub, Int.reduceToNat, reduceCtorEq, Int.reduceAdd, Int.reduceEq, Int.reduceLE, Int.reduceLT, Nat.reduceLT, Nat.reduceLeDiff]
    rintro r _ ⟨e2, hR, rfl⟩
    obtain ⟨fn, fd, hfr, rfl, hst⟩ := of_step h2 hR
    have hmj := hmo j hjn
    have hcm := cmpN_pu (most j) hfr hmj
    have hck := cOk_cmp most j (fn, fd) _ rfl
    change cOk most j (fn, fd) = decide (cmpS fn (most j * (fd : Nat)) ≤ 0) at hck
    generalize cmpS fn (most j * (fd : Nat)) = c at *
    generalize cOk most j (fn, fd) = R at *
    simp only [push_cast, ↓branch_true, ↓branch_false, Nat.reduceBEq, Nat.reduceAdd, Nat.reduceMul, Nat.reduceSub, Int.reduceToNat, reduceCtorEq, Int.reduceAdd, Int.reduceEq, Int.reduceLE, Int.reduceLT, Nat.reduceLT, Nat.reduceLeDiff]
    refine sp_c (most53_pu j) rfl [] ?_
    simp only [push_cast, ↓branch_true, ↓branch_false, Nat.reduceBEq, Nat.reduceAdd, Nat.reduceMul, Nat.reduceSub, Int.reduceToNat, reduceCtorEq, Int.reduceAdd, Int.reduceEq, Int.reduceLE, Int.reduceLT, Nat.reduceLT, Nat.reduceLeDiff]
    rw [hz j] at hcm
    refine sp_c hcm rfl [] ?_
    simp only [push_cast, ↓branch_true, ↓branch_false, Nat.reduceBEq, Nat.reduceAdd, Nat.reduceMul, Nat.reduceSub, Int.reduceToNat, reduceCtorEq, Int.reduceAdd, Int.reduceEq, Int.reduceLE, Int.reduceLT, Nat.reduceLT, Nat.reduceLeDiff]
    refine ⟨fun h4 => ?_, fun h4 => ?_⟩
    · rw [decide_eq_true h4] at hck
      repeat (with_reducible refine And.intro (by omega) ?_)
      refine lpK_normal (j + 1, b, e2) [0, 1, 2, 3, 4, 5] ⟨by simp only; omega, hst _ (by rw [hck, Bool.and_true])⟩ (by simp only; omega) (by kernel_rfl) ?_ ?_
      · simp only [push_cast, ↓branch_true, ↓branch_false, Nat.reduceBEq, Nat.reduceAdd, Nat.reduceMul, Nat.reduceSub, Int.reduceToNat, reduceCtorEq, Int.reduceAdd, Int.reduceEq, Int.reduceLE, Int.reduceLT, Nat.reduceLT, Nat.reduceLeDiff]
      · simp only [push_cast, ↓branch_true, ↓branch_false, Nat.reduceBEq, Nat.reduceAdd, Nat.reduceMul, Nat.reduceSub, Int.reduceToNat, reduceCtorEq, Int.reduceAdd, Int.reduceEq, Int.reduceLE, Int.reduceLT, Nat.reduceLT, Nat.reduceLeDiff]
    · rw [decide_eq_false h4] at hck
      repeat (with_reducible refine And.intro (by omega) ?_)
      refine lpK_normal (j + 1, false, e2) [0, 1, 2, 3, 4, 5] ⟨by simp only; omega, hst _ (by rw [hck, Bool.and_false])⟩ (by simp only; omega) (by kernel_rfl) ?_ ?_
      · simp only [push_cast, ↓branch_true, ↓branch_false, Nat.reduceBEq, Nat.reduceAdd, Nat.reduceMul, Nat.reduceSub, Int.reduceToNat, reduceCtorEq, Int.reduceAdd, Int.reduceEq, Int.reduceLE, Int.reduceLT, Nat.reduceLT, Nat.reduceLeDiff]
      · simp only [push_cast, ↓branch_true, ↓branch_false, Nat.reduceBEq, Nat.reduceAdd, Nat.reduceMul, Nat.reduceSub, Int.reduceToNat, reduceCtorEq, Int.reduceAdd, Int.reduceEq, Int.reduceLE, Int.reduceLT, Nat.reduceLT, Nat.reduceLeDiff]
  · obtain rfl : j = p.n := by omega
    repeat (with_reducible refine And.intro (by omega) ?_)
    refine ⟨_, _, [0, 1, 2, 3, 4], ?_, by kernel_rfl, ?_, b, e1, rfl, h2, rfl⟩
    · simp only [push_cast, ↓branch_true, ↓branch_false, Nat.reduceBEq, Nat.reduceAdd, Nat.reduceMul, Nat.reduceSub, Int.reduceToNat, reduceCtorEq, Int.reduceAdd, Int.reduceEq, Int.reduceLE, Int.reduceLT, Nat.reduceLT, Nat.reduceLeDiff]
    · simp only [push_cast, ↓branch_true, ↓branch_false, Nat.reduceBEq, Nat.reduceAdd, Nat.reduceMul, Nat.reduceSub, Int.reduceToNat, reduceCtorEq, Int.reduceAdd, Int.reduceEq, Int.reduceLE, Int.reduceLT, Nat.reduceLT, Nat.reduceLeDiff]
set_option maxHeartbeats 8000000 in
theorem below1_sp (p : Pm) (hp : PmOk p) (cap : Nat) (N : Nat → Int) (D : Nat → Nat) (e : Int) (hf : ∀ k, k < p.m → Frc (N k) (D k)) (most : Nat → Int) (hmo : ∀ j, j < p.n → (most j).natAbs ≤ 1152921504606846976)
    (hz : ∀ j, most j = p.co j) :
    Sp Try.prog 49 [.p 3 0 0, svP p, .s 4 0 0 p.m cap 2, .f (.func 50) [] [.p 5 0 0]] (obP p ++ [oEr e, rFx p.m cap N D, rBx p]) (fun r H => ∃ b e', r = .v (.bool b) ∧ AllR (colS p N D) (cOk most) p.n true e b e' ∧ H = obP p ++ [oEr e', rFx p.m cap N D, rBx p]) := by
  have hn := hp.n
  have hm := hp.m
  have hmc := hp.mc
  refine sp_weak ?_
  refine sp_of_ex true [] mixed Try.call49 Try.func49 rfl Try.ntmps49 Try.results49 (by decide +kernel) rfl ?_
  simp only [push_cast, ↓branch_true, ↓branch_false, Nat.reduceBEq, Nat.reduceAdd, Nat.reduceMul, Nat.reduceSub, Int.reduceToNat, reduceCtorEq, Int.reduceAdd, Int.reduceEq, Int.reduceLE, Int.reduceLT, Nat.reduceLT, Nat.reduceLeDiff]
  refine tr_loop mixed (by kernel_rfl) (fun (x : Nat × Bool × Int) => [(14, .v (.int .i64 x.1)), (13, .v (.int .i64 p.n)), (9, .v (.bool x.2.1)), (5, .p 6 0 0), (3, .f (.func 50) [] [.p 5 0 0]), (2, .s 4 0 0 p.m cap 2), (0, .p 3 0 0)])
    (fun x => obP p ++ [oEr x.2.2, rFx p.m cap N D, rBx p] ++ [oBx p]) (fun x => x.1 ≤ p.n ∧ AllR (colS p N D) (cOk most) x.1 true e x.2.1 x.2.2) (fun x => p.n - x.1) (0, true, e) ⟨Nat.zero_le _, AllR.zero _ _ _ _⟩ (Mt.wk (rl := [0, 1, 2, 3, 4, 5, 6]) ⟨by kernel_rfl, ?_, ?_⟩) ?_
  · simp only [push_cast, ↓branch_true, ↓branch_false, Nat.reduceBEq, Nat.reduceAdd, Nat.reduceMul, Nat.reduceSub, Int.reduceToNat, reduceCtorEq, Int.reduceAdd, Int.reduceEq, Int.reduceLE, Int.reduceLT, Nat.reduceLT, Nat.reduceLeDiff]
    try trivial
  · simp only [push_cast, ↓branch_true, ↓branch_false, Nat.reduceBEq, Nat.reduceAdd, Nat.reduceMul, Nat.reduceSub, Int.reduceToNat, reduceCtorEq, Int.reduceAdd, Int.reduceEq, Int.reduceLE, Int.reduceLT, Nat.reduceLT, Nat.reduceLeDiff]
  rintro ⟨j, b, e1⟩ ⟨h1, h2⟩
  simp only at h1 h2
  simp only [push_cast, ↓branch_true, ↓branch_false, Nat.reduceBEq, Nat.reduceAdd, Nat.reduceMul, Nat.reduceSub, Int.reduceToNat, reduceCtorEq, Int.reduceAdd, Int.reduceEq, Int.reduceLE, Int.reduceLT, Nat.reduceLT, Nat.reduceLeDiff]
  refine ⟨fun h3 => ?_, fun h3 => ?_⟩
  · have hjn : j < p.n := by omega
    repeat (with_reducible refine And.intro (by omega) ?_)
    refine sp_at (column_sp p j hjn hp.ln (by omega) (by omega)) [0, 1, 2] (by kernel_rfl) ?_ ?_ ?_
    · simp only [push_cast, ↓branch_true, ↓branch_false, Nat.reduceBEq, Nat.reduceAdd, Nat.reduceMul, Nat.reduceSub, Int.reduceToNat, reduceCtorEq, Int.reduceAdd, Int.reduceEq, Int.reduceLE, Int.reduceLT, Nat.reduceLT, Nat.reduceLeDiff]
    · simp only [push_cast, ↓branch_true, ↓branch_false, Nat.reduceBEq, Nat.reduceAdd, Nat.reduceMul, Nat.reduceSub, Int.reduceToNat, reduceCtorEq, Int.reduceAdd, Int.reduceEq, Int.reduceLE, Int.reduceLT, Nat.reduceLT, Nat.reduceLeDiff]
    rintro _ _ ⟨cc, hcc, rfl, rfl⟩
    simp only [push_cast, ↓branch_true, ↓branch_false, Nat.reduceBEq, Nat.reduceAdd, Nat.reduceMul, Nat.reduceSub, Int.reduceToNat, reduceCtorEq, Int.reduceAdd, Int.reduceEq, Int.reduceLE, Int.reduceLT, Nat.reduceLT, Nat.reduceLeDiff]
    have hof := of_sp 1 0 (fun _ => p.m) (fun _ => cc) (fun _ t => p.a t j) p.m cap N D e1 (by decide) (by show p.m ≤ p.m; omega) (by omega) (fun t ht => by have := hp.a t j ht hjn; omega) hf
    refine sp_at hof [3, 7, 4] (by kernel_rfl) ?_ ?_ ?_
    · simp only [push_cast, ↓branch_true, ↓branch_false, Nat.reduceBEq, Nat.reduceAdd, Nat.reduceMul, Nat.reduceSub, Int.reduceToNat, reduceCtorEq, Int.reduceAdd, Int.reduceEq, Int.reduceLE, Int.reduceLT, Nat.reduceLT, Nat.reduceLeDiff]
    · simp only [push_cast, ↓branch_true, ↓branch_false, Nat.reduceBEq, Nat.reduceAdd, Nat.reduceMul, Nat.reduceSub, Int.reduceToNat, reduceCtorEq, Int.reduceAdd, Int.reduceEq, Int.reduceLE, Int.reduceLT, Nat.reduceLT, Nat.reduceLeDiff]
    rintro r _ ⟨e2, hR, rfl⟩
    obtain ⟨fn, fd, hfr, rfl, hst⟩ := of_step h2 hR
    have hmj := hmo j hjn
    have hcm := cmpN_pu (most j) hfr hmj
    have hck := cOk_cmp most j (fn, fd) _ rfl
    change cOk most j (fn, fd) = decide (cmpS fn (most j * (fd : Nat)) ≤ 0) at hck
    generalize cmpS fn (most j * (fd : Nat)) = c at *
    generalize cOk most j (fn, fd) = R at *
    simp only [push_cast, ↓branch_true, ↓branch_false, Nat.reduceBEq, Nat.reduceAdd, Nat.reduceMul, Nat.reduceSub, Int.reduceToNat, reduceCtorEq, Int.reduceAdd, Int.reduceEq, Int.reduceLE, Int.reduceLT, Nat.reduceLT, Nat.reduceLeDiff]
    refine sp_c (most50_pu p j hjn) rfl [0, 1, 2, 5] ?_
    simp only [push_cast, ↓branch_true, ↓branch_false, Nat.reduceBEq, Nat.reduceAdd, Nat.reduceMul, Nat.reduceSub, Int.reduceToNat, reduceCtorEq, Int.reduceAdd, Int.reduceEq, Int.reduceLE, Int.reduceLT, Nat.reduceLT, Nat.reduceLeDiff]
    rw [hz j] at hcm
    refine sp_c hcm rfl [] ?_
    simp only [push_cast, ↓branch_true, ↓branch_false, Nat.reduceBEq, Nat.reduceAdd, Nat.reduceMul, Nat.reduceSub, Int.reduceToNat, reduceCtorEq, Int.reduceAdd, Int.reduceEq, Int.reduceLE, Int.reduceLT, Nat.reduceLT, Nat.reduceLeDiff]
    refine ⟨fun h4 => ?_, fun h4 => ?_⟩
    · rw [decide_eq_true h4] at hck
      repeat (with_reducible refine And.intro (by omega) ?_)
      refine lpK_normal (j + 1, b, e2) [0, 1, 2, 3, 4, 5, 6] ⟨by simp only; omega, hst _ (by rw [hck, Bool.and_true])⟩ (by simp only; omega) (by kernel_rfl) ?_ ?_
      · simp only [push_cast, ↓branch_true, ↓branch_false, Nat.reduceBEq, Nat.reduceAdd, Nat.reduceMul, Nat.reduceSub, Int.reduceToNat, reduceCtorEq, Int.reduceAdd, Int.reduceEq, Int.reduceLE, Int.reduceLT, Nat.reduceLT, Nat.reduceLeDiff]
      · simp only [push_cast, ↓branch_true, ↓branch_false, Nat.reduceBEq, Nat.reduceAdd, Nat.reduceMul, Nat.reduceSub, Int.reduceToNat, reduceCtorEq, Int.reduceAdd, Int.reduceEq, Int.reduceLE, Int.reduceLT, Nat.reduceLT, Nat.reduceLeDiff]
    · rw [decide_eq_false h4] at hck
      repeat (with_reducible refine And.intro (by omega) ?_)
      refine lpK_normal (j + 1, false, e2) [0, 1, 2, 3, 4, 5, 6] ⟨by simp only; omega, hst _ (by rw [hck, Bool.and_false])⟩ (by simp only; omega) (by kernel_rfl) ?_ ?_
      · simp only [push_cast, ↓branch_true, ↓branch_false, Nat.reduceBEq, Nat.reduceAdd, Nat.reduceMul, Nat.reduceSub, Int.reduceToNat, reduceCtorEq, Int.reduceAdd, Int.reduceEq, Int.reduceLE, Int.reduceLT, Nat.reduceLT, Nat.reduceLeDiff]
      · simp only [push_cast, ↓branch_true, ↓branch_false, Nat.reduceBEq, Nat.reduceAdd, Nat.reduceMul, Nat.reduceSub, Int.reduceToNat, reduceCtorEq, Int.reduceAdd, Int.reduceEq, Int.reduceLE, Int.reduceLT, Nat.reduceLT, Nat.reduceLeDiff]
  · obtain rfl : j = p.n := by omega
    repeat (with_reducible refine And.intro (by omega) ?_)
    refine ⟨_, _, [0, 1, 2, 3, 4, 5], ?_, by kernel_rfl, ?_, b, e1, rfl, h2, rfl⟩
    · simp only [push_cast, ↓branch_true, ↓branch_false, Nat.reduceBEq, Nat.reduceAdd, Nat.reduceMul, Nat.reduceSub, Int.reduceToNat, reduceCtorEq, Int.reduceAdd, Int.reduceEq, Int.reduceLE, Int.reduceLT, Nat.reduceLT, Nat.reduceLeDiff]
    · simp only [push_cast, ↓branch_true, ↓branch_false, Nat.reduceBEq, Nat.reduceAdd, Nat.reduceMul, Nat.reduceSub, Int.reduceToNat, reduceCtorEq, Int.reduceAdd, Int.reduceEq, Int.reduceLE, Int.reduceLT, Nat.reduceLT, Nat.reduceLeDiff]
end Go.Proofs.Ytmefgachdnlaoaa
