/- Contract: sums of numbers times fractions. -/
import Derived.Test.YtmefgachdnlaoaaOD
set_option maxRecDepth 100000
set_option linter.unusedSimpArgs false
set_option linter.unusedVariables false
namespace Go.Proofs.Ytmefgachdnlaoaa
open Go.RowKit Lp
/-- A fraction that is not too large. -/
def OkQ (N : Int) (D : Nat) : Prop := (rn N D).natAbs ≤ 1152921504606846976 ∧ rd N D ≤ 1152921504606846976
instance (N : Int) (D : Nat) : Decidable (OkQ N D) := by unfold OkQ; exact inferInstance
theorem rsQ_ok {N : Int} {D : Nat} (hD : 0 < D) (h : OkQ N D) : rsQ N D = .t [frV (rn N D) (rd N D : Nat), .v (.int .i64 0)] := by
  have h1 := rn_neg N hD
  unfold rsQ sgR sgN sgD sgE
  rw [if_pos (show _ ∧ _ from h), if_pos (show _ ∧ _ from h), if_pos (show _ ∧ _ from h)]
  by_cases h2 : N < 0
  · rw [decide_eq_true h2, cond_true, show -((rn N D).natAbs : Int) = rn N D by have := h1.2 h2; omega]
  · rw [decide_eq_false h2, cond_false, show ((rn N D).natAbs : Int) = rn N D by have : ¬ rn N D < 0 := fun h => h2 (h1.1 h); omega]
theorem rsQ_no {N : Int} {D : Nat} (h : ¬ OkQ N D) : rsQ N D = .t [frV 0 0, .v (.int .i64 5)] := sgR_big h
theorem frc_of {N : Int} {D : Nat} (hD : 0 < D) (h : OkQ N D) : Frc (rn N D) (rd N D) := ⟨rd_pos N hD, h.2, h.1, r_cop N hD⟩
theorem frc_one {n : Int} (h : n.natAbs ≤ 1152921504606846976) : Frc n 1 := ⟨by decide, by decide, h, Nat.gcd_one_right _⟩
/-- The sums, one after the other; none if one is too large. -/
def ofS (f N : Nat → Int) (D : Nat → Nat) : Nat → Option (Int × Nat)
  | 0 => some (0, 1)
  | k + 1 => (ofS f N D k).bind fun s =>
    if OkQ (f k * N k) (D k) ∧ OkQ (s.1 * (rd (f k * N k) (D k) : Nat) + rn (f k * N k) (D k) * (s.2 : Nat)) (s.2 * rd (f k * N k) (D k)) then
      some (rn (s.1 * (rd (f k * N k) (D k) : Nat) + rn (f k * N k) (D k) * (s.2 : Nat)) (s.2 * rd (f k * N k) (D k)), rd (s.1 * (rd (f k * N k) (D k) : Nat) + rn (f k * N k) (D k) * (s.2 : Nat)) (s.2 * rd (f k * N k) (D k))) else none
theorem ofS_none {f N : Nat → Int} {D : Nat → Nat} {k : Nat} (h : ofS f N D k = none) : ∀ {n : Nat}, k ≤ n → ofS f N D n = none
  | 0, hn => by obtain rfl : k = 0 := by omega
                exact h
  | n + 1, hn => by
    by_cases e : k = n + 1
    · rw [← e]; exact h
    · rw [ofS, ofS_none h (by omega)]; rfl
def rFx (n cap : Nat) (N : Nat → Int) (D : Nat → Nat) : Ob := ⟨27, true, .row 2 1 (fun _ => n) (fun _ => cap) (fun _ k => [.v (.int .i64 (N k)), .v (.int .i64 (D k : Nat))])⟩
def oEr (e : Int) : Ob := ⟨75, false, .st [.v (.int .i64 e)]⟩
attribute [push_cast] rFx oEr
/-- What a sum returns, and its error. -/
def OfR (s : Option (Int × Nat)) (e : Int) (r : SV) (e' : Int) : Prop := match s with
  | some s => r = frV s.1 (s.2 : Nat) ∧ e' = e ∧ Frc s.1 s.2
  | none => r = frV 0 1 ∧ e' = 5
set_option maxHeartbeats 8000000 in
theorem of_sp (M i : Nat) (ln cp : Nat → Nat) (a : Nat → Nat → Int) (m cap : Nat) (N : Nat → Int) (D : Nat → Nat) (e : Int) (hi : i < M) (hl : ln i ≤ m) (hm : m ≤ 1000000) (ha : ∀ k, k < ln i → (a i k).natAbs ≤ 1152921504606846976) (hf : ∀ k, k < m → Frc (N k) (D k)) :
    Sp Try.prog 48 [.p 0 0 0, .s 1 i 0 (ln i) (cp i) 1, .s 2 0 0 m cap 2] [oEr e, rFm M ln cp a, rFx m cap N D] (fun r H => ∃ e', OfR (ofS (a i) N D (ln i)) e r e' ∧ H = [oEr e', rFm M ln cp a, rFx m cap N D]) := by
  refine sp_weak ?_
  refine sp_of_ex true [] mixed Try.call48 Try.func48 rfl Try.ntmps48 Try.results48 (by decide +kernel) rfl ?_
  simp only [push_cast, ↓branch_true, ↓branch_false, Nat.reduceBEq, Nat.reduceAdd, Nat.reduceMul, Nat.reduceSub, Int.reduceToNat, reduceCtorEq, Int.reduceAdd, Int.reduceEq, Int.reduceLE, Int.reduceLT, Nat.reduceLT, Nat.reduceLeDiff]
  refine tr_loop mixed (by kernel_rfl) (fun (x : Nat × Int × Nat) => [(15, .v (.int .i64 x.1)), (14, .v (.int .i64 (ln i))), (13, .s 1 i 0 (ln i) (cp i) 1), (2, .s 2 0 0 m cap 2), (0, .p 0 0 0), (6, .p 3 0 0), (7, .p 4 0 0)])
    (fun x => [oEr e, rFm M ln cp a, rFx m cap N D, oF false 0 0, oF false x.2.1 (x.2.2 : Nat)]) (fun x => x.1 ≤ ln i ∧ ofS (a i) N D x.1 = some x.2 ∧ Frc x.2.1 x.2.2) (fun x => ln i - x.1) (0, 0, 1) ⟨Nat.zero_le _, rfl, frc_one (by decide)⟩ (Mt.wk (rl := [0, 1, 2, 3, 4]) ⟨by kernel_rfl, ?_, ?_⟩) ?_
  · simp only [push_cast, ↓branch_true, ↓branch_false, Nat.reduceBEq, Nat.reduceAdd, Nat.reduceMul, Nat.reduceSub, Int.reduceToNat, reduceCtorEq, Int.reduceAdd, Int.reduceEq, Int.reduceLE, Int.reduceLT, Nat.reduceLT, Nat.reduceLeDiff]
    try trivial
  · simp only [push_cast, ↓branch_true, ↓branch_false, Nat.reduceBEq, Nat.reduceAdd, Nat.reduceMul, Nat.reduceSub, Int.reduceToNat, reduceCtorEq, Int.reduceAdd, Int.reduceEq, Int.reduceLE, Int.reduceLT, Nat.reduceLT, Nat.reduceLeDiff]
  rintro ⟨k, sn, sd⟩ ⟨h1, h2, h3⟩
  simp only at h1 h2 h3
  simp only [push_cast, ↓branch_true, ↓branch_false, Nat.reduceBEq, Nat.reduceAdd, Nat.reduceMul, Nat.reduceSub, Int.reduceToNat, reduceCtorEq, Int.reduceAdd, Int.reduceEq, Int.reduceLE, Int.reduceLT, Nat.reduceLT, Nat.reduceLeDiff]
  refine ⟨fun h4 => ?_, fun h4 => ?_⟩
  · have hk : k < ln i := by omega
    have hfk := hf k (by omega)
    have hmu := mul_pu (frc_one (ha k hk)) hfk
    rw [Nat.one_mul, show ((1 : Nat) : Int) = 1 from rfl] at hmu
    have hst : ofS (a i) N D (k + 1) = if OkQ (a i k * N k) (D k) ∧ OkQ (sn * (rd (a i k * N k) (D k) : Nat) + rn (a i k * N k) (D k) * (sd : Nat)) (sd * rd (a i k * N k) (D k)) then
      some (rn (sn * (rd (a i k * N k) (D k) : Nat) + rn (a i k * N k) (D k) * (sd : Nat)) (sd * rd (a i k * N k) (D k)), rd (sn * (rd (a i k * N k) (D k) : Nat) + rn (a i k * N k) (D k) * (sd : Nat)) (sd * rd (a i k * N k) (D k))) else none := by
        rw [ofS, h2]; rfl
    by_cases c1 : OkQ (a i k * N k) (D k)
    · rw [rsQ_ok hfk.d0 c1] at hmu
      have hfm := frc_of hfk.d0 c1
      have had := add_pu h3 hfm
      generalize rn (a i k * N k) (D k) = mn at *
      generalize rd (a i k * N k) (D k) = md at *
      have hd0 : 0 < sd * md := Nat.mul_pos h3.d0 hfm.d0
      by_cases c2 : OkQ (sn * (md : Nat) + mn * (sd : Nat)) (sd * md)
      · rw [rsQ_ok hd0 c2] at had
        rw [if_pos ⟨c1, c2⟩] at hst
        have hfs := frc_of hd0 c2
        generalize rn (sn * (md : Nat) + mn * (sd : Nat)) (sd * md) = tn at *
        generalize rd (sn * (md : Nat) + mn * (sd : Nat)) (sd * md) = td at *
        repeat (with_reducible refine And.intro (by omega) ?_)
        refine sp_c hmu rfl [] ?_
        simp only [push_cast, ↓branch_true, ↓branch_false, Nat.reduceBEq, Nat.reduceAdd, Nat.reduceMul, Nat.reduceSub, Int.reduceToNat, reduceCtorEq, Int.reduceAdd, Int.reduceEq, Int.reduceLE, Int.reduceLT, Nat.reduceLT, Nat.reduceLeDiff]
        refine sp_c had rfl [] ?_
        simp only [push_cast, ↓branch_true, ↓branch_false, Nat.reduceBEq, Nat.reduceAdd, Nat.reduceMul, Nat.reduceSub, Int.reduceToNat, reduceCtorEq, Int.reduceAdd, Int.reduceEq, Int.reduceLE, Int.reduceLT, Nat.reduceLT, Nat.reduceLeDiff]
        repeat (with_reducible refine And.intro (by omega) ?_)
        refine lpK_normal (k + 1, tn, td) [0, 1, 2, 3, 4] ⟨by simp only; omega, hst, hfs⟩ (by simp only; omega) (by kernel_rfl) ?_ ?_
        · simp only [push_cast, ↓branch_true, ↓branch_false, Nat.reduceBEq, Nat.reduceAdd, Nat.reduceMul, Nat.reduceSub, Int.reduceToNat, reduceCtorEq, Int.reduceAdd, Int.reduceEq, Int.reduceLE, Int.reduceLT, Nat.reduceLT, Nat.reduceLeDiff]
          try trivial
        · simp only [push_cast, ↓branch_true, ↓branch_false, Nat.reduceBEq, Nat.reduceAdd, Nat.reduceMul, Nat.reduceSub, Int.reduceToNat, reduceCtorEq, Int.reduceAdd, Int.reduceEq, Int.reduceLE, Int.reduceLT, Nat.reduceLT, Nat.reduceLeDiff]
      · rw [rsQ_no c2] at had
        rw [if_neg (fun h => c2 h.2)] at hst
        have hno := ofS_none hst (show k + 1 ≤ ln i by omega)
        repeat (with_reducible refine And.intro (by omega) ?_)
        refine sp_c hmu rfl [] ?_
        simp only [push_cast, ↓branch_true, ↓branch_false, Nat.reduceBEq, Nat.reduceAdd, Nat.reduceMul, Nat.reduceSub, Int.reduceToNat, reduceCtorEq, Int.reduceAdd, Int.reduceEq, Int.reduceLE, Int.reduceLT, Nat.reduceLT, Nat.reduceLeDiff]
        refine sp_c had rfl [] ?_
        simp only [push_cast, ↓branch_true, ↓branch_false, Nat.reduceBEq, Nat.reduceAdd, Nat.reduceMul, Nat.reduceSub, Int.reduceToNat, reduceCtorEq, Int.reduceAdd, Int.reduceEq, Int.reduceLE, Int.reduceLT, Nat.reduceLT, Nat.reduceLeDiff]
        refine ⟨_, _, [0, 1, 2], ?_, by kernel_rfl, ?_, 5, by rw [hno]; exact ⟨rfl, rfl⟩, rfl⟩
        · simp only [push_cast, ↓branch_true, ↓branch_false, Nat.reduceBEq, Nat.reduceAdd, Nat.reduceMul, Nat.reduceSub, Int.reduceToNat, reduceCtorEq, Int.reduceAdd, Int.reduceEq, Int.reduceLE, Int.reduceLT, Nat.reduceLT, Nat.reduceLeDiff]
        · simp only [push_cast, ↓branch_true, ↓branch_false, Nat.reduceBEq, Nat.reduceAdd, Nat.reduceMul, Nat.reduceSub, Int.reduceToNat, reduceCtorEq, Int.reduceAdd, Int.reduceEq, Int.reduceLE, Int.reduceLT, Nat.reduceLT, Nat.reduceLeDiff]
    · rw [rsQ_no c1] at hmu
      rw [if_neg (fun h => c1 h.1)] at hst
      have hno := ofS_none hst (show k + 1 ≤ ln i by omega)
      repeat (with_reducible refine And.intro (by omega) ?_)
      refine sp_c hmu rfl [] ?_
      simp only [push_cast, ↓branch_true, ↓branch_false, Nat.reduceBEq, Nat.reduceAdd, Nat.reduceMul, Nat.reduceSub, Int.reduceToNat, reduceCtorEq, Int.reduceAdd, Int.reduceEq, Int.reduceLE, Int.reduceLT, Nat.reduceLT, Nat.reduceLeDiff]
      refine ⟨_, _, [0, 1, 2], ?_, by kernel_rfl, ?_, 5, by rw [hno]; exact ⟨rfl, rfl⟩, rfl⟩
      · simp only [push_cast, ↓branch_true, ↓branch_false, Nat.reduceBEq, Nat.reduceAdd, Nat.reduceMul, Nat.reduceSub, Int.reduceToNat, reduceCtorEq, Int.reduceAdd, Int.reduceEq, Int.reduceLE, Int.reduceLT, Nat.reduceLT, Nat.reduceLeDiff]
      · simp only [push_cast, ↓branch_true, ↓branch_false, Nat.reduceBEq, Nat.reduceAdd, Nat.reduceMul, Nat.reduceSub, Int.reduceToNat, reduceCtorEq, Int.reduceAdd, Int.reduceEq, Int.reduceLE, Int.reduceLT, Nat.reduceLT, Nat.reduceLeDiff]
  · obtain rfl : k = ln i := by omega
    repeat (with_reducible refine And.intro (by omega) ?_)
    refine ⟨_, _, [0, 1, 2], ?_, by kernel_rfl, ?_, e, by rw [h2]; exact ⟨rfl, rfl, h3⟩, rfl⟩
    · simp only [push_cast, ↓branch_true, ↓branch_false, Nat.reduceBEq, Nat.reduceAdd, Nat.reduceMul, Nat.reduceSub, Int.reduceToNat, reduceCtorEq, Int.reduceAdd, Int.reduceEq, Int.reduceLE, Int.reduceLT, Nat.reduceLT, Nat.reduceLeDiff]
    · simp only [push_cast, ↓branch_true, ↓branch_false, Nat.reduceBEq, Nat.reduceAdd, Nat.reduceMul, Nat.reduceSub, Int.reduceToNat, reduceCtorEq, Int.reduceAdd, Int.reduceEq, Int.reduceLE, Int.reduceLT, Nat.reduceLT, Nat.reduceLeDiff]
end Go.Proofs.Ytmefgachdnlaoaa
