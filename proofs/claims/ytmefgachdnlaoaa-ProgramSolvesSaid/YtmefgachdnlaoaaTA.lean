/- Contracts: right, cmp, column, rights, signed. -/
import Derived.Test.YtmefgachdnlaoaaT
set_option maxRecDepth 100000
set_option linter.unusedSimpArgs false
set_option linter.unusedVariables false
namespace Go.Proofs.Ytmefgachdnlaoaa
open Go.RowKit Lp
/-- Fractions, as they come. -/
def rFi (n cap : Nat) (N D : Nat → Int) : Ob := ⟨27, true, .row 2 1 (fun _ => n) (fun _ => cap) (fun _ k => [.v (.int .i64 (N k)), .v (.int .i64 (D k))])⟩
attribute [push_cast] rFi
theorem indexQ_pu (n cap : Nat) (N D : Nat → Int) (g : FuncId) (fs cs : List SV) (H : List Ob) (q : Nat → Bool) (hro : roB H = true) (hN : n ≤ 9223372036854775806)
    (hp : ∀ k, k < n → Pu Try.prog g (fs ++ [.a [.v (.int .i64 (N k)), .v (.int .i64 (D k))]] ++ cs) (rFi n cap N D :: H) (.v (.bool (q k)))) :
    Pu Try.prog 122 [.s 0 0 0 n cap 2, .f (.func g) fs cs] (rFi n cap N D :: H) (.v (.int .i64 (ent q n))) := by
  refine pu_of_ex true [] mixed Try.call122 Try.func122 rfl Try.ntmps122 Try.results122 (by decide +kernel) rfl (by simp [roB, hro, rFi]) rfl ?_
  simp only [push_cast, ↓branch_true, ↓branch_false, Nat.reduceBEq, Nat.reduceAdd, Nat.reduceMul, Nat.reduceSub, Int.reduceToNat, reduceCtorEq, Int.reduceAdd, Int.reduceEq, Int.reduceLE, Int.reduceLT, Nat.reduceLT, Nat.reduceLeDiff]
  refine tr_loop0 mixed (by kernel_rfl) (fun (k : Nat) => [(8, .v (.int .i64 k)), (7, .v (.int .i64 n)), (0, .s 0 0 0 n cap 2), (1, .f (.func g) fs cs)]) (fun k => k ≤ n ∧ ∀ j, j < k → q j = false) (fun k => n - k) 0 ⟨Nat.zero_le _, fun j h => by omega⟩ ?_ ?_
  · simp only [push_cast, ↓branch_true, ↓branch_false, Nat.reduceBEq, Nat.reduceAdd, Nat.reduceMul, Nat.reduceSub, Int.reduceToNat, reduceCtorEq, Int.reduceAdd, Int.reduceEq, Int.reduceLE, Int.reduceLT, Nat.reduceLT, Nat.reduceLeDiff]
  · rintro k ⟨hk, hn⟩
    simp only [push_cast, ↓branch_true, ↓branch_false, Nat.reduceBEq, Nat.reduceAdd, Nat.reduceMul, Nat.reduceSub, Int.reduceToNat, reduceCtorEq, Int.reduceAdd, Int.reduceEq, Int.reduceLE, Int.reduceLT, Nat.reduceLT, Nat.reduceLeDiff]
    refine ⟨fun h1 => ?_, fun h1 => ?_⟩
    · repeat (with_reducible refine And.intro (by omega) ?_)
      have hp1 := hp k (by omega)
      refine sp_pu (by simpa only [push_cast] using hp1) ?_
      simp only [push_cast, ↓branch_true, ↓branch_false, Nat.reduceBEq, Nat.reduceAdd, Nat.reduceMul, Nat.reduceSub, Int.reduceToNat, reduceCtorEq, Int.reduceAdd, Int.reduceEq, Int.reduceLE, Int.reduceLT, Nat.reduceLT, Nat.reduceLeDiff]
      simp only [branch]
      refine ⟨fun h2 => ?_, fun h2 => ?_⟩
      · rw [ent_is (by omega) h2 hn]
      · repeat (with_reducible refine And.intro (by omega) ?_)
        refine lp0_normal (k + 1) ⟨by omega, fun j hj => ?_⟩ (by omega) ?_
        · by_cases e : j = k
          · rw [e]; exact h2
          · exact hn j (by omega)
        · simp only [push_cast, ↓branch_true, ↓branch_false, Nat.reduceBEq, Nat.reduceAdd, Nat.reduceMul, Nat.reduceSub, Int.reduceToNat, reduceCtorEq, Int.reduceAdd, Int.reduceEq, Int.reduceLE, Int.reduceLT, Nat.reduceLT, Nat.reduceLeDiff]
    · rw [ent_no fun j hj => hn j (by omega)]
theorem containsQ_pu (n cap : Nat) (N D : Nat → Int) (g : FuncId) (fs cs : List SV) (H : List Ob) (q : Nat → Bool) (hro : roB H = true) (hN : n ≤ 9223372036854775806)
    (hp : ∀ k, k < n → Pu Try.prog g (fs ++ [.a [.v (.int .i64 (N k)), .v (.int .i64 (D k))]] ++ cs) (rFi n cap N D :: H) (.v (.bool (q k)))) :
    Pu Try.prog 95 [.s 0 0 0 n cap 2, .f (.func g) fs cs] (rFi n cap N D :: H) (.v (.bool (decide (0 ≤ ent q n)))) := by
  refine pu_of_ex true [] mixed Try.call95 Try.func95 rfl Try.ntmps95 Try.results95 (by decide +kernel) rfl (by simp [roB, hro, rFi]) rfl ?_
  simp only [push_cast, ↓branch_true, ↓branch_false, Nat.reduceBEq, Nat.reduceAdd, Nat.reduceMul, Nat.reduceSub, Int.reduceToNat, reduceCtorEq, Int.reduceAdd, Int.reduceEq, Int.reduceLE, Int.reduceLT, Nat.reduceLT, Nat.reduceLeDiff]
  refine sp_pu (by simpa only [push_cast] using indexQ_pu n cap N D g fs cs H q hro hN hp) ?_
  simp only [push_cast, ↓branch_true, ↓branch_false, Nat.reduceBEq, Nat.reduceAdd, Nat.reduceMul, Nat.reduceSub, Int.reduceToNat, reduceCtorEq, Int.reduceAdd, Int.reduceEq, Int.reduceLE, Int.reduceLT, Nat.reduceLT, Nat.reduceLeDiff]
theorem ent_all (q : Nat → Bool) (n : Nat) : decide (0 ≤ ent q n) = !decide (∀ k, k < n → q k = false) := by
  rcases ent_spec (p := q) (F := n) with ⟨h1, h2⟩ | ⟨e, h1, h2, h3, _⟩
  · rw [h1, decide_eq_true h2]; rfl
  · have e1 : ¬ ∀ k, k < n → q k = false := fun h => by rw [h e h1] at h3; cases h3
    rw [h2, decide_eq_false e1, decide_eq_true (show (0 : Int) ≤ (e : Nat) by omega)]; rfl
/-- All are valid. -/
def rgt (n : Nat) (N D : Nat → Int) : Bool := decide (∀ k, k < n → vF (N k) (D k) = true)
theorem bad_pu (n d : Int) (hn : -9223372036854775808 ≤ n ∧ n ≤ 9223372036854775807) (hd : -9223372036854775808 ≤ d ∧ d ≤ 9223372036854775807) : Pu Try.prog 96 [.a [.v (.int .i64 n), .v (.int .i64 d)]] [] (.v (.bool (!vF n d))) := by
  have hv := fvalid_pu n d hn hd
  generalize vF n d = b at *
  refine pu_of_ex true [] mixed Try.call96 Try.func96 rfl Try.ntmps96 Try.results96 (by decide +kernel) rfl rfl rfl ?_
  simp only [push_cast, ↓branch_true, ↓branch_false, Nat.reduceBEq, Nat.reduceAdd, Nat.reduceMul, Nat.reduceSub, Int.reduceToNat, reduceCtorEq, Int.reduceAdd, Int.reduceEq, Int.reduceLE, Int.reduceLT, Nat.reduceLT, Nat.reduceLeDiff]
  refine sp_c (hv) rfl [] ?_
  simp only [push_cast, ↓branch_true, ↓branch_false, Nat.reduceBEq, Nat.reduceAdd, Nat.reduceMul, Nat.reduceSub, Int.reduceToNat, reduceCtorEq, Int.reduceAdd, Int.reduceEq, Int.reduceLE, Int.reduceLT, Nat.reduceLT, Nat.reduceLeDiff]
theorem right_pu (n cap : Nat) (N D : Nat → Int) (hn : n ≤ 1000000) (hb : ∀ k, k < n → (-9223372036854775808 ≤ N k ∧ N k ≤ 9223372036854775807) ∧ -9223372036854775808 ≤ D k ∧ D k ≤ 9223372036854775807) : Pu Try.prog 46 [.s 0 0 0 n cap 2] [rFi n cap N D] (.v (.bool (rgt n N D))) := by
  have hc := containsQ_pu n cap N D 96 [] [] [] (fun k => !vF (N k) (D k)) rfl (by omega) fun k hk => pu_at (bad_pu (N k) (D k) (hb k hk).1 (hb k hk).2) rfl [] rfl (by (simp only [push_cast, ↓branch_true, ↓branch_false, Nat.reduceBEq, Nat.reduceAdd, Nat.reduceMul, Nat.reduceSub, Int.reduceToNat, reduceCtorEq, Int.reduceAdd, Int.reduceEq, Int.reduceLE, Int.reduceLT, Nat.reduceLT, Nat.reduceLeDiff])) (by (simp only [push_cast, ↓branch_true, ↓branch_false, Nat.reduceBEq, Nat.reduceAdd, Nat.reduceMul, Nat.reduceSub, Int.reduceToNat, reduceCtorEq, Int.reduceAdd, Int.reduceEq, Int.reduceLE, Int.reduceLT, Nat.reduceLT, Nat.reduceLeDiff]))
  have he : rgt n N D = !decide (0 ≤ ent (fun k => !vF (N k) (D k)) n) := by
    rw [ent_all, Bool.not_not]
    unfold rgt
    rw [decide_eq_decide]
    exact ⟨fun h k hk => by rw [h k hk]; rfl, fun h k hk => by have := h k hk; simpa using this⟩
  generalize ent (fun k => !vF (N k) (D k)) n = E at *
  refine pu_of_ex true [] mixed Try.call46 Try.func46 rfl Try.ntmps46 Try.results46 (by decide +kernel) rfl rfl rfl ?_
  simp only [push_cast, ↓branch_true, ↓branch_false, Nat.reduceBEq, Nat.reduceAdd, Nat.reduceMul, Nat.reduceSub, Int.reduceToNat, reduceCtorEq, Int.reduceAdd, Int.reduceEq, Int.reduceLE, Int.reduceLT, Nat.reduceLT, Nat.reduceLeDiff]
  refine sp_c (hc) rfl [0] ?_
  simp only [push_cast, ↓branch_true, ↓branch_false, Nat.reduceBEq, Nat.reduceAdd, Nat.reduceMul, Nat.reduceSub, Int.reduceToNat, reduceCtorEq, Int.reduceAdd, Int.reduceEq, Int.reduceLE, Int.reduceLT, Nat.reduceLT, Nat.reduceLeDiff]
  exact vb he.symm
theorem neg_pu (n d : Int) : Pu Try.prog 97 [.a [.v (.int .i64 n), .v (.int .i64 d)]] [] (.v (.bool (decide (n < 0)))) := by
  refine pu_of_ex true [] mixed Try.call97 Try.func97 rfl Try.ntmps97 Try.results97 (by decide +kernel) rfl rfl rfl ?_
  simp only [push_cast, ↓branch_true, ↓branch_false, Nat.reduceBEq, Nat.reduceAdd, Nat.reduceMul, Nat.reduceSub, Int.reduceToNat, reduceCtorEq, Int.reduceAdd, Int.reduceEq, Int.reduceLE, Int.reduceLT, Nat.reduceLT, Nat.reduceLeDiff]
theorem cmpN_pu {n : Int} {d : Nat} (r : Int) (h : Frc n d) (hr : r.natAbs ≤ 1152921504606846976) : Pu Try.prog 98 [.a [.v (.int .i64 n), .v (.int .i64 (d : Nat))], .v (.int .i64 r)] [] (.v (.int .i64 (cmpS n (r * (d : Nat))))) := by
  have hc := fcmp_pu h (frc_one hr)
  rw [show ((1 : Nat) : Int) = 1 from rfl, Int.mul_one] at hc
  generalize cmpS n (r * (d : Nat)) = c at *
  refine pu_of_ex true [] mixed Try.call98 Try.func98 rfl Try.ntmps98 Try.results98 (by decide +kernel) rfl rfl rfl ?_
  simp only [push_cast, ↓branch_true, ↓branch_false, Nat.reduceBEq, Nat.reduceAdd, Nat.reduceMul, Nat.reduceSub, Int.reduceToNat, reduceCtorEq, Int.reduceAdd, Int.reduceEq, Int.reduceLE, Int.reduceLT, Nat.reduceLT, Nat.reduceLeDiff]
  refine sp_c (hc) rfl [] ?_
  simp only [push_cast, ↓branch_true, ↓branch_false, Nat.reduceBEq, Nat.reduceAdd, Nat.reduceMul, Nat.reduceSub, Int.reduceToNat, reduceCtorEq, Int.reduceAdd, Int.reduceEq, Int.reduceLE, Int.reduceLT, Nat.reduceLT, Nat.reduceLeDiff]
theorem column_sp (p : Pm) (j : Nat) (hj : j < p.n) (hl : ∀ t, t < p.m → p.ln t = p.n) (hm : p.m ≤ 1000000) (hn : p.n ≤ 1000000) : Sp Try.prog 100 [svP p, .v (.int .i64 (j : Nat))] (obP p) (fun r H => ∃ cap, p.m ≤ cap ∧ r = .s 3 0 0 p.m cap 1 ∧ H = obP p ++ [oI p.m cap (fun t => p.a t j)]) := by
  refine sp_weak ?_
  refine sp_of_ex true [] mixed Try.call100 Try.func100 rfl Try.ntmps100 Try.results100 (by decide +kernel) rfl ?_
  simp only [push_cast, ↓branch_true, ↓branch_false, Nat.reduceBEq, Nat.reduceAdd, Nat.reduceMul, Nat.reduceSub, Int.reduceToNat, reduceCtorEq, Int.reduceAdd, Int.reduceEq, Int.reduceLE, Int.reduceLT, Nat.reduceLT, Nat.reduceLeDiff]
  refine tr_loop mixed (by kernel_rfl) (fun (x : Nat × Nat) => [(11, .v (.int .i64 x.1)), (10, .v (.int .i64 p.m)), (9, .s 1 0 0 p.m p.mc 3), (5, .s 4 0 0 x.1 x.2 1), (1, .v (.int .i64 j))])
    (fun x => obP p ++ [oBx p, oI x.1 x.2 (fun t => p.a t j)]) (fun x => x.1 ≤ p.m ∧ x.1 ≤ x.2) (fun x => p.m - x.1) (0, 0) ⟨Nat.zero_le _, Nat.le_refl _⟩ (Mt.wk (rl := [0, 1, 2, 3, 1000]) ⟨by kernel_rfl, ?_, ?_⟩) ?_
  · simp only [push_cast, ↓branch_true, ↓branch_false, Nat.reduceBEq, Nat.reduceAdd, Nat.reduceMul, Nat.reduceSub, Int.reduceToNat, reduceCtorEq, Int.reduceAdd, Int.reduceEq, Int.reduceLE, Int.reduceLT, Nat.reduceLT, Nat.reduceLeDiff]
    try trivial
  · simp only [push_cast, ↓branch_true, ↓branch_false, Nat.reduceBEq, Nat.reduceAdd, Nat.reduceMul, Nat.reduceSub, Int.reduceToNat, reduceCtorEq, Int.reduceAdd, Int.reduceEq, Int.reduceLE, Int.reduceLT, Nat.reduceLT, Nat.reduceLeDiff]
  rintro ⟨t, cap⟩ ⟨h1, h2⟩
  simp only at h1 h2
  simp only [push_cast, ↓branch_true, ↓branch_false, Nat.reduceBEq, Nat.reduceAdd, Nat.reduceMul, Nat.reduceSub, Int.reduceToNat, reduceCtorEq, Int.reduceAdd, Int.reduceEq, Int.reduceLE, Int.reduceLT, Nat.reduceLT, Nat.reduceLeDiff]
  refine ⟨fun h3 => ?_, fun h3 => ?_⟩
  · have htm : t < p.m := by omega
    have hlt := hl t htm
    have hfz := p.fzm
    repeat (with_reducible refine And.intro (by omega) ?_)
    refine Or.inr ⟨by omega, by omega, fun c2 hc2 => ?_⟩
    repeat (with_reducible refine And.intro (by omega) ?_)
    refine lpK_normal (t + 1, c2) [0, 1, 2, 3, 7] ⟨by simp only; omega, by simp only; omega⟩ (by simp only; omega) (by kernel_rfl) ?_ ?_
    · simp only [push_cast, ↓branch_true, ↓branch_false, Nat.reduceBEq, Nat.reduceAdd, Nat.reduceMul, Nat.reduceSub, Int.reduceToNat, reduceCtorEq, Int.reduceAdd, Int.reduceEq, Int.reduceLE, Int.reduceLT, Nat.reduceLT, Nat.reduceLeDiff]
    · simp only [push_cast, ↓branch_true, ↓branch_false, Nat.reduceBEq, Nat.reduceAdd, Nat.reduceMul, Nat.reduceSub, Int.reduceToNat, reduceCtorEq, Int.reduceAdd, Int.reduceEq, Int.reduceLE, Int.reduceLT, Nat.reduceLT, Nat.reduceLeDiff]
      exact lf3 (fun t => p.a t j)
  · obtain rfl : t = p.m := by omega
    repeat (with_reducible refine And.intro (by omega) ?_)
    refine ⟨_, _, [0, 1, 2, 4], ?_, by kernel_rfl, ?_, cap, h2, rfl, rfl⟩
    · simp only [push_cast, ↓branch_true, ↓branch_false, Nat.reduceBEq, Nat.reduceAdd, Nat.reduceMul, Nat.reduceSub, Int.reduceToNat, reduceCtorEq, Int.reduceAdd, Int.reduceEq, Int.reduceLE, Int.reduceLT, Nat.reduceLT, Nat.reduceLeDiff]
    · simp only [push_cast, ↓branch_true, ↓branch_false, Nat.reduceBEq, Nat.reduceAdd, Nat.reduceMul, Nat.reduceSub, Int.reduceToNat, reduceCtorEq, Int.reduceAdd, Int.reduceEq, Int.reduceLE, Int.reduceLT, Nat.reduceLT, Nat.reduceLeDiff]
theorem rights_sp (p : Pm) (hm : p.m ≤ 1000000) (hn : p.n ≤ 1000000) : Sp Try.prog 51 [svP p] (obP p) (fun r H => ∃ cap, p.m ≤ cap ∧ r = .s 3 0 0 p.m cap 1 ∧ H = obP p ++ [oI p.m cap p.b]) := by
  refine sp_weak ?_
  refine sp_of_ex true [] mixed Try.call51 Try.func51 rfl Try.ntmps51 Try.results51 (by decide +kernel) rfl ?_
  simp only [push_cast, ↓branch_true, ↓branch_false, Nat.reduceBEq, Nat.reduceAdd, Nat.reduceMul, Nat.reduceSub, Int.reduceToNat, reduceCtorEq, Int.reduceAdd, Int.reduceEq, Int.reduceLE, Int.reduceLT, Nat.reduceLT, Nat.reduceLeDiff]
  refine tr_loop mixed (by kernel_rfl) (fun (x : Nat × Nat) => [(9, .v (.int .i64 x.1)), (8, .v (.int .i64 p.m)), (7, .s 1 0 0 p.m p.mc 3), (3, .s 4 0 0 x.1 x.2 1)])
    (fun x => obP p ++ [oBx p, oI x.1 x.2 p.b]) (fun x => x.1 ≤ p.m ∧ x.1 ≤ x.2) (fun x => p.m - x.1) (0, 0) ⟨Nat.zero_le _, Nat.le_refl _⟩ (Mt.wk (rl := [0, 1, 2, 3, 1000]) ⟨by kernel_rfl, ?_, ?_⟩) ?_
  · simp only [push_cast, ↓branch_true, ↓branch_false, Nat.reduceBEq, Nat.reduceAdd, Nat.reduceMul, Nat.reduceSub, Int.reduceToNat, reduceCtorEq, Int.reduceAdd, Int.reduceEq, Int.reduceLE, Int.reduceLT, Nat.reduceLT, Nat.reduceLeDiff]
    try trivial
  · simp only [push_cast, ↓branch_true, ↓branch_false, Nat.reduceBEq, Nat.reduceAdd, Nat.reduceMul, Nat.reduceSub, Int.reduceToNat, reduceCtorEq, Int.reduceAdd, Int.reduceEq, Int.reduceLE, Int.reduceLT, Nat.reduceLT, Nat.reduceLeDiff]
  rintro ⟨t, cap⟩ ⟨h1, h2⟩
  simp only at h1 h2
  simp only [push_cast, ↓branch_true, ↓branch_false, Nat.reduceBEq, Nat.reduceAdd, Nat.reduceMul, Nat.reduceSub, Int.reduceToNat, reduceCtorEq, Int.reduceAdd, Int.reduceEq, Int.reduceLE, Int.reduceLT, Nat.reduceLT, Nat.reduceLeDiff]
  refine ⟨fun h3 => ?_, fun h3 => ?_⟩
  · have htm : t < p.m := by omega
    repeat (with_reducible refine And.intro (by omega) ?_)
    refine Or.inr ⟨by omega, by omega, fun c2 hc2 => ?_⟩
    repeat (with_reducible refine And.intro (by omega) ?_)
    refine lpK_normal (t + 1, c2) [0, 1, 2, 3, 7] ⟨by simp only; omega, by simp only; omega⟩ (by simp only; omega) (by kernel_rfl) ?_ ?_
    · simp only [push_cast, ↓branch_true, ↓branch_false, Nat.reduceBEq, Nat.reduceAdd, Nat.reduceMul, Nat.reduceSub, Int.reduceToNat, reduceCtorEq, Int.reduceAdd, Int.reduceEq, Int.reduceLE, Int.reduceLT, Nat.reduceLT, Nat.reduceLeDiff]
    · simp only [push_cast, ↓branch_true, ↓branch_false, Nat.reduceBEq, Nat.reduceAdd, Nat.reduceMul, Nat.reduceSub, Int.reduceToNat, reduceCtorEq, Int.reduceAdd, Int.reduceEq, Int.reduceLE, Int.reduceLT, Nat.reduceLT, Nat.reduceLeDiff]
      exact lf3 p.b
  · obtain rfl : t = p.m := by omega
    repeat (with_reducible refine And.intro (by omega) ?_)
    refine ⟨_, _, [0, 1, 2, 4], ?_, by kernel_rfl, ?_, cap, h2, rfl, rfl⟩
    · simp only [push_cast, ↓branch_true, ↓branch_false, Nat.reduceBEq, Nat.reduceAdd, Nat.reduceMul, Nat.reduceSub, Int.reduceToNat, reduceCtorEq, Int.reduceAdd, Int.reduceEq, Int.reduceLE, Int.reduceLT, Nat.reduceLT, Nat.reduceLeDiff]
    · simp only [push_cast, ↓branch_true, ↓branch_false, Nat.reduceBEq, Nat.reduceAdd, Nat.reduceMul, Nat.reduceSub, Int.reduceToNat, reduceCtorEq, Int.reduceAdd, Int.reduceEq, Int.reduceLE, Int.reduceLT, Nat.reduceLT, Nat.reduceLeDiff]
/-- The multipliers' signs are right. -/
def sgOk (p : Pm) (N : Nat → Int) (t : Nat) : Bool := !((p.kd t == 1 && decide (0 < N t)) || (p.kd t == 2 && decide (N t < 0)))
def sgB (p : Pm) (N : Nat → Int) : Bool := decide (∀ t, t < p.m → sgOk p N t = true)
theorem signed2_pu (p : Pm) (cap : Nat) (N : Nat → Int) (D : Nat → Nat) (hm : p.m ≤ 1000000) : Pu Try.prog 52 [svP p, .s 3 0 0 p.m cap 2] (obP p ++ [rFx p.m cap N D]) (.v (.bool (sgB p N))) := by
  refine pu_of_ex true [] mixed Try.call52 Try.func52 rfl Try.ntmps52 Try.results52 (by decide +kernel) rfl rfl rfl ?_
  simp only [push_cast, ↓branch_true, ↓branch_false, Nat.reduceBEq, Nat.reduceAdd, Nat.reduceMul, Nat.reduceSub, Int.reduceToNat, reduceCtorEq, Int.reduceAdd, Int.reduceEq, Int.reduceLE, Int.reduceLT, Nat.reduceLT, Nat.reduceLeDiff]
  refine tr_loop mixed (by kernel_rfl) (fun (t : Nat) => [(10, .v (.int .i64 t)), (9, .v (.int .i64 p.m)), (8, .s 1 0 0 p.m p.mc 3), (1, .s 3 0 0 p.m cap 2)])
    (fun t => obP p ++ [rFx p.m cap N D, oBx p]) (fun t => t ≤ p.m ∧ ∀ u, u < t → sgOk p N u = true) (fun t => p.m - t) 0 ⟨Nat.zero_le _, fun u hu => absurd hu (Nat.not_lt_zero _)⟩ (Mt.wk (rl := [0, 1, 2, 3, 4]) ⟨by kernel_rfl, ?_, ?_⟩) ?_
  · simp only [push_cast, ↓branch_true, ↓branch_false, Nat.reduceBEq, Nat.reduceAdd, Nat.reduceMul, Nat.reduceSub, Int.reduceToNat, reduceCtorEq, Int.reduceAdd, Int.reduceEq, Int.reduceLE, Int.reduceLT, Nat.reduceLT, Nat.reduceLeDiff]
    try trivial
  · simp only [push_cast, ↓branch_true, ↓branch_false, Nat.reduceBEq, Nat.reduceAdd, Nat.reduceMul, Nat.reduceSub, Int.reduceToNat, reduceCtorEq, Int.reduceAdd, Int.reduceEq, Int.reduceLE, Int.reduceLT, Nat.reduceLT, Nat.reduceLeDiff]
  rintro t ⟨h1, h2⟩
  simp only [push_cast, ↓branch_true, ↓branch_false, Nat.reduceBEq, Nat.reduceAdd, Nat.reduceMul, Nat.reduceSub, Int.reduceToNat, reduceCtorEq, Int.reduceAdd, Int.reduceEq, Int.reduceLE, Int.reduceLT, Nat.reduceLT, Nat.reduceLeDiff]
  refine ⟨fun h3 => ?_, fun h3 => ?_⟩
  · have htm : t < p.m := by omega
    have hno : sgOk p N t = false → sgB p N = false := fun h => decide_eq_false fun h4 => by rw [h4 t htm] at h; cases h
    have hso : sgOk p N t = !((p.kd t == 1 && decide (0 < N t)) || (p.kd t == 2 && decide (N t < 0))) := rfl
    repeat (with_reducible refine And.intro (by omega) ?_)
    repeat' (first
      | (with_reducible apply And.intro)
      | (with_reducible intro _)
      | omega)
    all_goals first
      | (refine vb (hno ?_).symm
         rw [hso]
         simp [*]
         done)
      | (refine lpK_normal (t + 1) [0, 1, 2, 3, 4] ⟨by omega, fun u hu => ?_⟩ (by omega) (by kernel_rfl) ?_ ?_
         · by_cases e : u = t
           · rw [e, hso]
             simp [*]
             done
           · exact h2 u (by omega)
         · simp only [push_cast, ↓branch_true, ↓branch_false, Nat.reduceBEq, Nat.reduceAdd, Nat.reduceMul, Nat.reduceSub, Int.reduceToNat, reduceCtorEq, Int.reduceAdd, Int.reduceEq, Int.reduceLE, Int.reduceLT, Nat.reduceLT, Nat.reduceLeDiff]
         · simp only [push_cast, ↓branch_true, ↓branch_false, Nat.reduceBEq, Nat.reduceAdd, Nat.reduceMul, Nat.reduceSub, Int.reduceToNat, reduceCtorEq, Int.reduceAdd, Int.reduceEq, Int.reduceLE, Int.reduceLT, Nat.reduceLT, Nat.reduceLeDiff]
         )
  · obtain rfl : t = p.m := by omega
    refine vb ?_
    exact (decide_eq_true h2).symm
end Go.Proofs.Ytmefgachdnlaoaa
