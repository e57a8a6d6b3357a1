/- Contract: Solve. -/
import Derived.Test.YtdeaaonppokgkaaSA
import Derived.Test.YtdeaaonppokgkaaLA
import Derived.Test.YtdeaaonppokgkaaQA
set_option maxRecDepth 100000
set_option linter.unusedSimpArgs false
set_option linter.unusedVariables false
namespace Go.Proofs.Ytdeaaonppokgkaa
open Go.RowKit Lp
/-- The values of the variables, after some rows of a table. -/
def xvF (R : Nat) (s : Tabl) : Nat → Nat → Int
  | 0, _ => 0
  | k + 1, j => if s.b k = j then s.T k R else xvF R s k j
theorem xvF_le {R : Nat} {s : Tabl} {m B : Nat} (h : ∀ k, k < m → (s.T k R).natAbs ≤ B) : ∀ {k : Nat}, k ≤ m → ∀ j, (xvF R s k j).natAbs ≤ B
  | 0, _, j => by rw [xvF]; omega
  | k + 1, hk, j => by
    rw [xvF]
    split
    · exact h k (by omega)
    · exact xvF_le h (by omega) j
theorem xvF_set (R : Nat) (s : Tabl) (k j : Nat) : (bif 0 == 0 && j == s.b k then s.T k R else xvF R s k j) = xvF R s (k + 1) j := by
  rw [xvF]
  by_cases h : j = s.b k
  · subst h; simp
  · rw [beq_eq_false_iff_ne.2 h, if_neg (fun e => h e.symm)]; simp
theorem xvF_skip {R : Nat} {s : Tabl} {k j n : Nat} (h : n ≤ s.b k) (hj : j < n) : xvF R s (k + 1) j = xvF R s k j := by
  rw [xvF, if_neg (by omega)]
theorem lf4 {rl : List Nat} {t : Nat} (f g : Nat → Int) : ∀ i, i < 1 → ∀ k, k < t + 1 → Value.int .i64 (f k) = Value.int .i64 (bif decide (k < t) then f k else f t) ∧ Value.int .i64 (g k) = Value.int .i64 (bif decide (k < t) then g k else g t) ∧ mtL rl [] (bif decide (k < t) then [] else []) := fun i hi k hk =>
  ⟨(lf3 (rl := rl) f i hi k hk).1, (lf3 (rl := rl) g i hi k hk).1, (lf3 (rl := rl) g i hi k hk).2⟩
/-- A row of fractions. -/
def oFr (n cap : Nat) (N : Nat → Int) (d : Nat) : Ob := ⟨34, false, .row 2 1 (fun _ => n) (fun _ => cap) (fun _ k => [.v (.int .i64 (rn (N k) d)), .v (.int .i64 (rd (N k) d : Nat))])⟩
def oAn (vn vd : Int) (x y : SV) : Ob := ⟨80, false, .st [.v (.int .i64 vn), .v (.int .i64 vd), x, y]⟩
attribute [push_cast] oFr oAn
theorem part_rn (q : Fm) (s : Tabl) (n : Int) (hn : n.natAbs ≤ 1152921504606846976) (hS : Sml q s) : Pu Try.prog 75 [.p 0 0 0, .v (.int .i64 n)] (tbR q s.d s.T s.b) (frV (rn n s.d.toNat) (rd n s.d.toNat : Nat)) := by
  have hd := hS.d
  have h := part_pu q s n hn hS
  have h1 := Nat.div_le_self n.natAbs (Nat.gcd n.natAbs s.d.toNat)
  have h2 := Nat.div_le_self s.d.toNat (Nat.gcd n.natAbs s.d.toNat)
  have e : sgN (decide (n < 0)) (n.natAbs / Nat.gcd n.natAbs s.d.toNat) (s.d.toNat / Nat.gcd n.natAbs s.d.toNat) = rn n s.d.toNat := by
    unfold sgN rn
    rw [if_pos (by omega)]
    by_cases h0 : n < 0
    · rw [decide_eq_true h0, if_pos h0]; rfl
    · rw [decide_eq_false h0, if_neg h0]; rfl
  have e2 : sgD (n.natAbs / Nat.gcd n.natAbs s.d.toNat) (s.d.toNat / Nat.gcd n.natAbs s.d.toNat) = (rd n s.d.toNat : Nat) := by
    unfold sgD rd
    rw [if_pos (by omega)]
  rw [e, e2] at h
  exact h
section
variable (p : Pm) (cc bc sc nc : Nat)
@[push_cast] theorem qF_m : (qF p cc bc sc nc).m = p.m := rfl
@[push_cast] theorem qF_n : (qF p cc bc sc nc).n = p.n := rfl
@[push_cast] theorem qF_F : (qF p cc bc sc nc).F = p.F := rfl
@[push_cast] theorem qF_cc : (qF p cc bc sc nc).cc = cc := rfl
@[push_cast] theorem qF_bc : (qF p cc bc sc nc).bc = bc := rfl
@[push_cast] theorem qF_sc : (qF p cc bc sc nc).sc = sc := rfl
@[push_cast] theorem qF_nc : (qF p cc bc sc nc).nc = nc := rfl
@[push_cast] theorem qF_sg : (qF p cc bc sc nc).sg = sgn p := rfl
@[push_cast] theorem qF_co : (qF p cc bc sc nc).co = p.co := rfl
@[push_cast] theorem qF_R : (qF p cc bc sc nc).R = p.R := rfl
@[push_cast] theorem fm_R : Fm.R ⟨p.m, p.n, p.F, cc, bc, sc, nc, sgn p, p.co⟩ = p.R := rfl
@[push_cast] theorem first_d (A : Nat → Nat → Int) (F : Nat) : (firstT A F).d = 1 := rfl
@[push_cast] theorem first_T (A : Nat → Nat → Int) (F : Nat) : (firstT A F).T = A := rfl
@[push_cast] theorem first_b (A : Nat → Nat → Int) (F : Nat) (k : Nat) : (firstT A F).b k = F + k := rfl
end
theorem start_sp2 (q : Fm) (s0 : Tabl) (K : Nat) (hK : StartOk q s0 K) : Sp Try.prog 72 [.p 0 0 0] (tb q s0)
    (fun r H => (sm q.m (artF q (S1 q s0 K) q.R) ≤ 0 ∧ r = .v (.bool true) ∧ H = tb q (drS q.F (S1 q s0 K) q.m)) ∨ (¬ sm q.m (artF q (S1 q s0 K) q.R) ≤ 0 ∧ r = .v (.bool false) ∧ H = tb q (S1 q s0 K))) := by
  refine sp_mono (start_sp q s0 K hK) ?_
  rintro _ _ ⟨rfl, rfl⟩
  by_cases h : sm q.m (artF q (S1 q s0 K) q.R) ≤ 0
  · rw [if_pos h, decide_eq_true h]; exact .inl ⟨h, rfl, rfl⟩
  · rw [if_neg h, decide_eq_false h]; exact .inr ⟨h, rfl, rfl⟩
theorem improve_sp2 (q : Fm) (s0 : Tabl) (K : Nat) (hK : ImpOk q s0 K) : Sp Try.prog 73 [.p 0 0 0] (tb q s0)
    (fun r H => (phE q.m q.F (cqo q) (S2 q s0 K) < 0 ∧ r = .v (.bool true) ∧ H = tb q (S2 q s0 K)) ∨ (¬ phE q.m q.F (cqo q) (S2 q s0 K) < 0 ∧ r = .v (.bool false) ∧ H = tb q (S2 q s0 K))) := by
  refine sp_mono (improve_sp q s0 K hK) ?_
  rintro _ _ ⟨rfl, rfl⟩
  by_cases h : phE q.m q.F (cqo q) (S2 q s0 K) < 0
  · rw [decide_eq_true h]; exact .inl ⟨h, rfl, rfl⟩
  · rw [decide_eq_false h]; exact .inr ⟨h, rfl, rfl⟩
inductive SolR (p : Pm) : SV → List Ob → Prop
  | ok (s : Tabl) (cx cy : Nat) (hv : vPm p = true) (hf : fitB p = true) (h : Last p s) (hx : p.n ≤ cx) (hy : p.m ≤ cy) (hz : (valP p s).natAbs ≤ 1152921504606846976 ∧ s.d ≤ 144115188075855872) : SolR p (.t [.a [.v (.int .i64 (rn (valP p s) s.d.toNat)), .v (.int .i64 (rd (valP p s) s.d.toNat : Nat)), .s 3 0 0 p.n cx 2, .s 4 0 0 p.m cy 2], .v (.int .i64 0)])
      (obP p ++ [oFr p.n cx (xvF p.R s p.m) s.d.toNat, oFr p.m cy (mulP p s) s.d.toNat])
  | bad (e : Int) (h : (vPm p = false ∧ e = 1) ∨ (vPm p = true ∧ fitB p = false ∧ e = 5) ∨ (vPm p = true ∧ fitB p = true ∧ ((e = 22 ∧ ∃ Y, Gap p Y) ∨ (e = 21 ∧ Free p)))) : SolR p (.t [.a [.v (.int .i64 0), .v (.int .i64 0), .v (.slice none 0 0), .v (.slice none 0 0)], .v (.int .i64 e)]) (obP p)
set_option maxHeartbeats 16000000 in
theorem solve_sp (p : Pm) (hin : vPm p = true → PmOk p) (hl : ∀ t, t < p.m → p.ln t ≤ 1000000) (hn : p.n ≤ 1000000) (hm : p.m ≤ 1000000) : Sp Try.prog 44 [svP p] (obP p) (SolR p) := by
  have hva := valid_pu p hl hn hm
  refine sp_weak ?_
  refine sp_of_ex true [(24, .one 0 (.one 2 (.one 3 (.alt [(1, .one 4 (.one 5 (.one 6 (.one 7 (.one 8 .fin))))), (4, .alt [(1, .one 5 (.one 6 (.one 7 (.one 8 .fin)))), (5, .one 1 (.one 6 (.one 7 (.one 8 .fin))))])])))), (35, .one 0 (.one 2 (.one 3 (.one 4 (.one 5 (.one 7 (.one 10 (.alt [(1, .one 6 (.one 8 (.one 9 (.one 11 (.one 12 (.one 13 (.one 14 (.one 15 (.one 16 .fin))))))))), (6, .one 8 (.alt [(1, .one 9 (.one 11 (.one 12 (.one 13 (.one 14 (.one 15 (.one 16 .fin))))))), (9, .one 11 (.alt [(1, .one 12 (.one 13 (.one 14 (.one 15 (.one 16 .fin))))), (12, .alt [(1, .one 13 (.one 14 (.one 15 (.one 16 .fin)))), (13, .one 1 (.one 14 (.one 15 (.one 16 .fin))))])]))]))]))))))))] mixed Try.call44 Try.func44 rfl Try.ntmps44 Try.results44 (by decide +kernel) rfl ?_
  simp only [push_cast, ↓branch_true, ↓branch_false, Nat.reduceBEq, Nat.reduceAdd, Nat.reduceMul, Nat.reduceSub, Int.reduceToNat, reduceCtorEq, Int.reduceAdd, Int.reduceEq, Int.reduceLE, Int.reduceLT, Nat.reduceLT, Nat.reduceLeDiff]
  refine sp_c hva rfl [0, 1, 2] ?_
  simp only [push_cast, ↓branch_true, ↓branch_false, Nat.reduceBEq, Nat.reduceAdd, Nat.reduceMul, Nat.reduceSub, Int.reduceToNat, reduceCtorEq, Int.reduceAdd, Int.reduceEq, Int.reduceLE, Int.reduceLT, Nat.reduceLT, Nat.reduceLeDiff]
  simp only [branch]
  cases hv : vPm p with
  | false =>
    simp only [push_cast, ↓branch_true, ↓branch_false, Nat.reduceBEq, Nat.reduceAdd, Nat.reduceMul, Nat.reduceSub, Int.reduceToNat, reduceCtorEq, Int.reduceAdd, Int.reduceEq, Int.reduceLE, Int.reduceLT, Nat.reduceLT, Nat.reduceLeDiff]
    refine ⟨_, _, [0, 1, 2], ?_, by kernel_rfl, ?_, .bad 1 (.inl ⟨hv, rfl⟩)⟩
    · simp only [push_cast, ↓branch_true, ↓branch_false, Nat.reduceBEq, Nat.reduceAdd, Nat.reduceMul, Nat.reduceSub, Int.reduceToNat, reduceCtorEq, Int.reduceAdd, Int.reduceEq, Int.reduceLE, Int.reduceLT, Nat.reduceLT, Nat.reduceLeDiff]
    · simp only [push_cast, ↓branch_true, ↓branch_false, Nat.reduceBEq, Nat.reduceAdd, Nat.reduceMul, Nat.reduceSub, Int.reduceToNat, reduceCtorEq, Int.reduceAdd, Int.reduceEq, Int.reduceLE, Int.reduceLT, Nat.reduceLT, Nat.reduceLeDiff]
  | true =>
  have hp := hin hv
  have hfp := fits_pu p hp
  simp only [push_cast, ↓branch_true, ↓branch_false, Nat.reduceBEq, Nat.reduceAdd, Nat.reduceMul, Nat.reduceSub, Int.reduceToNat, reduceCtorEq, Int.reduceAdd, Int.reduceEq, Int.reduceLE, Int.reduceLT, Nat.reduceLT, Nat.reduceLeDiff]
  refine sp_c hfp rfl [0, 1, 2] ?_
  simp only [push_cast, ↓branch_true, ↓branch_false, Nat.reduceBEq, Nat.reduceAdd, Nat.reduceMul, Nat.reduceSub, Int.reduceToNat, reduceCtorEq, Int.reduceAdd, Int.reduceEq, Int.reduceLE, Int.reduceLT, Nat.reduceLT, Nat.reduceLeDiff]
  cases hf : fitB p with
  | false =>
    simp only [push_cast, ↓branch_true, ↓branch_false, Nat.reduceBEq, Nat.reduceAdd, Nat.reduceMul, Nat.reduceSub, Int.reduceToNat, reduceCtorEq, Int.reduceAdd, Int.reduceEq, Int.reduceLE, Int.reduceLT, Nat.reduceLT, Nat.reduceLeDiff]
    refine ⟨_, _, [0, 1, 2], ?_, by kernel_rfl, ?_, .bad 5 (.inr (.inl ⟨hv, hf, rfl⟩))⟩
    · simp only [push_cast, ↓branch_true, ↓branch_false, Nat.reduceBEq, Nat.reduceAdd, Nat.reduceMul, Nat.reduceSub, Int.reduceToNat, reduceCtorEq, Int.reduceAdd, Int.reduceEq, Int.reduceLE, Int.reduceLT, Nat.reduceLT, Nat.reduceLeDiff]
    · simp only [push_cast, ↓branch_true, ↓branch_false, Nat.reduceBEq, Nat.reduceAdd, Nat.reduceMul, Nat.reduceSub, Int.reduceToNat, reduceCtorEq, Int.reduceAdd, Int.reduceEq, Int.reduceLE, Int.reduceLT, Nat.reduceLT, Nat.reduceLeDiff]
  | true =>
  have hfit := fit_of hf
  simp only [push_cast, ↓branch_true, ↓branch_false, Nat.reduceBEq, Nat.reduceAdd, Nat.reduceMul, Nat.reduceSub, Int.reduceToNat, reduceCtorEq, Int.reduceAdd, Int.reduceEq, Int.reduceLE, Int.reduceLT, Nat.reduceLT, Nat.reduceLeDiff]
  refine sp_at (newTable_sp p hp) [0, 1, 2] (by kernel_rfl) ?_ ?_ ?_
  · simp only [push_cast, ↓branch_true, ↓branch_false, Nat.reduceBEq, Nat.reduceAdd, Nat.reduceMul, Nat.reduceSub, Int.reduceToNat, reduceCtorEq, Int.reduceAdd, Int.reduceEq, Int.reduceLE, Int.reduceLT, Nat.reduceLT, Nat.reduceLeDiff]
  · simp only [push_cast, ↓branch_true, ↓branch_false, Nat.reduceBEq, Nat.reduceAdd, Nat.reduceMul, Nat.reduceSub, Int.reduceToNat, reduceCtorEq, Int.reduceAdd, Int.reduceEq, Int.reduceLE, Int.reduceLT, Nat.reduceLT, Nat.reduceLeDiff]
  rintro _ _ ⟨cc, bc, sc, nc, rfl, rfl⟩
  simp only [push_cast, ↓branch_true, ↓branch_false, Nat.reduceBEq, Nat.reduceAdd, Nat.reduceMul, Nat.reduceSub, Int.reduceToNat, reduceCtorEq, Int.reduceAdd, Int.reduceEq, Int.reduceLE, Int.reduceLT, Nat.reduceLT, Nat.reduceLeDiff]
  obtain ⟨K, hK, hKf⟩ := start_ok (cc := cc) (bc := bc) (sc := sc) (nc := nc) hp hfit
  have hRF : p.R = p.F + p.m := rfl
  refine sp_at (start_sp2 _ _ K hK) [5, 6, 7, 8, 9, 10] (by kernel_rfl) ?_ ?_ ?_
  · simp only [push_cast, ↓branch_true, ↓branch_false, Nat.reduceBEq, Nat.reduceAdd, Nat.reduceMul, Nat.reduceSub, Int.reduceToNat, reduceCtorEq, Int.reduceAdd, Int.reduceEq, Int.reduceLE, Int.reduceLT, Nat.reduceLT, Nat.reduceLeDiff]
  · simp only [push_cast, ↓branch_true, ↓branch_false, Nat.reduceBEq, Nat.reduceAdd, Nat.reduceMul, Nat.reduceSub, Int.reduceToNat, reduceCtorEq, Int.reduceAdd, Int.reduceEq, Int.reduceLE, Int.reduceLT, Nat.reduceLT, Nat.reduceLeDiff]
  rintro _ _ (⟨hsm, rfl, rfl⟩ | ⟨hsm, rfl, rfl⟩)
  · have hdr := start_driven hp hKf hsm
    change Driven (tA p) p.m p.F (drS (qF p cc bc sc nc).F (S1 (qF p cc bc sc nc) (firstT (tA p) p.F) K) (qF p cc bc sc nc).m) p.m at hdr
    generalize drS (qF p cc bc sc nc).F (S1 (qF p cc bc sc nc) (firstT (tA p) p.F) K) (qF p cc bc sc nc).m = s2 at *
    clear hK hKf hsm
    simp only [push_cast, ↓branch_true, ↓branch_false, Nat.reduceBEq, Nat.reduceAdd, Nat.reduceMul, Nat.reduceSub, Int.reduceToNat, reduceCtorEq, Int.reduceAdd, Int.reduceEq, Int.reduceLE, Int.reduceLT, Nat.reduceLT, Nat.reduceLeDiff]
    obtain ⟨K2, hI, hD⟩ := imp_ok (cc := cc) (bc := bc) (sc := sc) (nc := nc) hp hfit hdr
    refine sp_at (improve_sp2 _ _ K2 hI) [5, 6, 7, 8, 9, 10] (by kernel_rfl) ?_ ?_ ?_
    · simp only [push_cast, ↓branch_true, ↓branch_false, Nat.reduceBEq, Nat.reduceAdd, Nat.reduceMul, Nat.reduceSub, Int.reduceToNat, reduceCtorEq, Int.reduceAdd, Int.reduceEq, Int.reduceLE, Int.reduceLT, Nat.reduceLT, Nat.reduceLeDiff]
    · simp only [push_cast, ↓branch_true, ↓branch_false, Nat.reduceBEq, Nat.reduceAdd, Nat.reduceMul, Nat.reduceSub, Int.reduceToNat, reduceCtorEq, Int.reduceAdd, Int.reduceEq, Int.reduceLE, Int.reduceLT, Nat.reduceLT, Nat.reduceLeDiff]
    have hN := hI.N
    rintro _ _ (⟨hph, rfl, rfl⟩ | ⟨hph, rfl, rfl⟩)
    · generalize S2 (qF p cc bc sc nc) s2 K2 = s at *
      have hLa : Last p s := last_of hD hph
      have hSm : Sml (qF p cc bc sc nc) s := sml_of hp hfit hD.feas
      clear hI hdr hN hph
      have hnp := hp.n
      have hmp := hp.m
      have hRb := hSm.R
      have hbR := hSm.b
      have hTb := hSm.T
      simp only [push_cast] at hRb hbR hTb
      have hcq : cqo (qF p cc bc sc nc) = cqP p := rfl
      have hcT := hSm.cT
      rw [hcq] at hcT
      simp only [push_cast] at hcT
      have hxl := fun k hk j => xvF_le (R := p.R) (s := s) (m := p.m) (B := 144115188075855872) (fun k hk => hTb k p.R hk (by omega)) (k := k) hk j
      have hsm := fun n (hn : n ≤ p.m) j (hj : j < p.R + 1) => sm_small hn hmp (f := fun k => cqP p (s.b k) * s.T k j) fun k hk => hcT k j hk hj
      simp only [push_cast, ↓branch_true, ↓branch_false, Nat.reduceBEq, Nat.reduceAdd, Nat.reduceMul, Nat.reduceSub, Int.reduceToNat, reduceCtorEq, Int.reduceAdd, Int.reduceEq, Int.reduceLE, Int.reduceLT, Nat.reduceLT, Nat.reduceLeDiff]
      repeat (with_reducible refine And.intro (by omega) ?_)
      refine tr_loop mixed (by kernel_rfl) (fun (k : Nat) => [(43, .v (.int .i64 k)), (42, .v (.int .i64 p.m)), (41, .s 8 0 0 p.m bc 1), (6, .v (.int .i64 (sm k fun k => cqP p (s.b k) * s.T k p.R))), (7, .s 12 0 0 p.n p.n 1), (5, .p 11 0 0), (4, .p 5 0 0), (2, .p 4 0 0), (1, .p 3 0 0)])
        (fun k => obP p ++ [oBx p, oAn 0 0 (.v (.slice none 0 0)) (.v (.slice none 0 0))] ++ tbK 5 (qF p cc bc sc nc) s.d s.T s.b ++ [oAn 0 0 (.v (.slice none 0 0)) (.v (.slice none 0 0)), oI p.n p.n (xvF p.R s k)]) (fun k => k ≤ p.m) (fun k => p.m - k) 0 (Nat.zero_le _) (Mt.wk (rl := [0, 1, 2, 3, 4, 5, 6, 7, 8, 9, 10, 11, 12]) ⟨by kernel_rfl, ?_, ?_⟩) ?_
      · simp only [push_cast, ↓branch_true, ↓branch_false, Nat.reduceBEq, Nat.reduceAdd, Nat.reduceMul, Nat.reduceSub, Int.reduceToNat, reduceCtorEq, Int.reduceAdd, Int.reduceEq, Int.reduceLE, Int.reduceLT, Nat.reduceLT, Nat.reduceLeDiff]
        rfl
      · simp only [push_cast, ↓branch_true, ↓branch_false, Nat.reduceBEq, Nat.reduceAdd, Nat.reduceMul, Nat.reduceSub, Int.reduceToNat, reduceCtorEq, Int.reduceAdd, Int.reduceEq, Int.reduceLE, Int.reduceLT, Nat.reduceLT, Nat.reduceLeDiff]
        exact fun _ _ _ _ => rfl
      intro k hk
      simp only [push_cast, ↓branch_true, ↓branch_false, Nat.reduceBEq, Nat.reduceAdd, Nat.reduceMul, Nat.reduceSub, Int.reduceToNat, reduceCtorEq, Int.reduceAdd, Int.reduceEq, Int.reduceLE, Int.reduceLT, Nat.reduceLT, Nat.reduceLeDiff]
      refine ⟨fun h1 => ?_, fun h1 => ?_⟩
      · have hkm : k < p.m := by omega
        have hb1 := hbR k hkm
        have hT1 := hTb k p.R hkm (by omega)
        have hc1 := hcT k p.R hkm (by omega)
        have hs0 := hsm k hk p.R (by omega)
        have hs1 := hsm (k + 1) hkm p.R (by omega)
        rw [sm] at hs1
        have hset := xvF_set p.R s k
        repeat (with_reducible refine And.intro (by omega) ?_)
        have hcp := cost_pu (qF p cc bc sc nc) s (s.b k) (by omega) (by show p.n ≤ _; omega)
        rw [hcq] at hcp
        refine qc_c (hcp) rfl [5, 6, 7, 8, 9, 10] ?_
        simp only [push_cast, ↓branch_true, ↓branch_false, Nat.reduceBEq, Nat.reduceAdd, Nat.reduceMul, Nat.reduceSub, Int.reduceToNat, reduceCtorEq, Int.reduceAdd, Int.reduceEq, Int.reduceLE, Int.reduceLT, Nat.reduceLT, Nat.reduceLeDiff]
        repeat (with_reducible refine And.intro (by omega) ?_)
        refine ⟨fun h2 => ?_, fun h2 => ?_⟩
        · repeat (with_reducible refine And.intro (by omega) ?_)
          refine lpK_normal (k + 1) [0, 1, 2, 3, 4, 5, 6, 7, 8, 9, 10, 11, 12] (by omega) (by omega) (by kernel_rfl) ?_ ?_
          · simp only [push_cast, ↓branch_true, ↓branch_false, Nat.reduceBEq, Nat.reduceAdd, Nat.reduceMul, Nat.reduceSub, Int.reduceToNat, reduceCtorEq, Int.reduceAdd, Int.reduceEq, Int.reduceLE, Int.reduceLT, Nat.reduceLT, Nat.reduceLeDiff]
            rfl
          · simp only [push_cast, ↓branch_true, ↓branch_false, Nat.reduceBEq, Nat.reduceAdd, Nat.reduceMul, Nat.reduceSub, Int.reduceToNat, reduceCtorEq, Int.reduceAdd, Int.reduceEq, Int.reduceLE, Int.reduceLT, Nat.reduceLT, Nat.reduceLeDiff]
            intro i hi j _
            obtain rfl : i = 0 := by omega
            exact ⟨congrArg (Value.int .i64) (hset j).symm, mt_cond⟩
        · repeat (with_reducible refine And.intro (by omega) ?_)
          refine lpK_normal (k + 1) [0, 1, 2, 3, 4, 5, 6, 7, 8, 9, 10, 11, 12] (by omega) (by omega) (by kernel_rfl) ?_ ?_
          · simp only [push_cast, ↓branch_true, ↓branch_false, Nat.reduceBEq, Nat.reduceAdd, Nat.reduceMul, Nat.reduceSub, Int.reduceToNat, reduceCtorEq, Int.reduceAdd, Int.reduceEq, Int.reduceLE, Int.reduceLT, Nat.reduceLT, Nat.reduceLeDiff]
            rfl
          · simp only [push_cast, ↓branch_true, ↓branch_false, Nat.reduceBEq, Nat.reduceAdd, Nat.reduceMul, Nat.reduceSub, Int.reduceToNat, reduceCtorEq, Int.reduceAdd, Int.reduceEq, Int.reduceLE, Int.reduceLT, Nat.reduceLT, Nat.reduceLeDiff]
            exact fun _ _ j hj => congrArg (Value.int .i64) (xvF_skip (by omega) hj)
      · obtain rfl : k = p.m := by omega
        have hVb : (valP p s).natAbs ≤ 1152921504606846976 ∧ s.d ≤ 144115188075855872 := ⟨hsm p.m (Nat.le_refl _) p.R (by omega), hSm.d.2⟩
        have hV := part_rn (qF p cc bc sc nc) s (valP p s) (hsm p.m (Nat.le_refl _) p.R (by omega)) hSm
        have hVe : (sm p.m fun k => cqP p (s.b k) * s.T k p.R) = valP p s := rfl
        rw [hVe]
        clear hVe
        generalize hVV : valP p s = V at *
        refine sp_c hV rfl [5, 6, 7, 8, 9, 10] ?_
        simp only [push_cast, ↓branch_true, ↓branch_false, Nat.reduceBEq, Nat.reduceAdd, Nat.reduceMul, Nat.reduceSub, Int.reduceToNat, reduceCtorEq, Int.reduceAdd, Int.reduceEq, Int.reduceLE, Int.reduceLT, Nat.reduceLT, Nat.reduceLeDiff]
        refine tr_loop mixed (by kernel_rfl) (fun (x : Nat × Nat) => [(94, .v (.int .i64 x.1)), (93, .v (.int .i64 p.n)), (92, .s 12 0 0 p.n p.n 1), (5, .p 11 0 0), (4, .p 5 0 0), (2, .p 4 0 0), (1, .p 3 0 0)])
          (fun x => obP p ++ [oBx p, oAn 0 0 (.v (.slice none 0 0)) (.v (.slice none 0 0))] ++ tbK 5 (qF p cc bc sc nc) s.d s.T s.b ++ [oAn (rn V s.d.toNat) (rd V s.d.toNat : Nat) (.s 13 0 0 x.1 x.2 2) (.v (.slice none 0 0)), oI p.n p.n (xvF p.R s p.m), oFr x.1 x.2 (xvF p.R s p.m) s.d.toNat]) (fun x => x.1 ≤ p.n ∧ x.1 ≤ x.2) (fun x => p.n - x.1) (0, 0) ⟨Nat.zero_le _, Nat.le_refl _⟩ (Mt.wk (rl := [0, 1, 2, 3, 4, 5, 6, 7, 8, 9, 10, 11, 12, 1000]) ⟨by kernel_rfl, ?_, ?_⟩) ?_
        · simp only [push_cast, ↓branch_true, ↓branch_false, Nat.reduceBEq, Nat.reduceAdd, Nat.reduceMul, Nat.reduceSub, Int.reduceToNat, reduceCtorEq, Int.reduceAdd, Int.reduceEq, Int.reduceLE, Int.reduceLT, Nat.reduceLT, Nat.reduceLeDiff]
          try trivial
        · simp only [push_cast, ↓branch_true, ↓branch_false, Nat.reduceBEq, Nat.reduceAdd, Nat.reduceMul, Nat.reduceSub, Int.reduceToNat, reduceCtorEq, Int.reduceAdd, Int.reduceEq, Int.reduceLE, Int.reduceLT, Nat.reduceLT, Nat.reduceLeDiff]
        rintro ⟨j, cx⟩ ⟨g1, g2⟩
        simp only at g1 g2
        simp only [push_cast, ↓branch_true, ↓branch_false, Nat.reduceBEq, Nat.reduceAdd, Nat.reduceMul, Nat.reduceSub, Int.reduceToNat, reduceCtorEq, Int.reduceAdd, Int.reduceEq, Int.reduceLE, Int.reduceLT, Nat.reduceLT, Nat.reduceLeDiff]
        refine ⟨fun h2 => ?_, fun h2 => ?_⟩
        · have hjn : j < p.n := by omega
          have hpt := part_rn (qF p cc bc sc nc) s (xvF p.R s p.m j) (by have := hxl p.m (Nat.le_refl _) j; omega) hSm
          repeat (with_reducible refine And.intro (by omega) ?_)
          repeat' (first
            | (with_reducible apply And.intro)
            | (with_reducible intro _)
            | omega
            | (refine sp_c hpt rfl [5, 6, 7, 8, 9, 10] ?_
               simp only [push_cast, ↓branch_true, ↓branch_false, Nat.reduceBEq, Nat.reduceAdd, Nat.reduceMul, Nat.reduceSub, Int.reduceToNat, reduceCtorEq, Int.reduceAdd, Int.reduceEq, Int.reduceLE, Int.reduceLT, Nat.reduceLT, Nat.reduceLeDiff]
               )
            | (refine Or.inr ⟨by omega, by omega, fun c2 hc2 => ?_⟩
               ))
          all_goals
            refine lpK_normal (j + 1, c2) [0, 1, 2, 3, 4, 5, 6, 7, 8, 9, 10, 11, 12, 15] ⟨by simp only; omega, by simp only; omega⟩ (by simp only; omega) (by kernel_rfl) ?_ ?_
            · simp only [push_cast, ↓branch_true, ↓branch_false, Nat.reduceBEq, Nat.reduceAdd, Nat.reduceMul, Nat.reduceSub, Int.reduceToNat, reduceCtorEq, Int.reduceAdd, Int.reduceEq, Int.reduceLE, Int.reduceLT, Nat.reduceLT, Nat.reduceLeDiff]
              try trivial
            · simp only [push_cast, ↓branch_true, ↓branch_false, Nat.reduceBEq, Nat.reduceAdd, Nat.reduceMul, Nat.reduceSub, Int.reduceToNat, reduceCtorEq, Int.reduceAdd, Int.reduceEq, Int.reduceLE, Int.reduceLT, Nat.reduceLT, Nat.reduceLeDiff]
              exact lf4 (fun k => rn (xvF p.R s p.m k) s.d.toNat) (fun k => (rd (xvF p.R s p.m k) s.d.toNat : Nat))
        · obtain rfl : j = p.n := by omega
          repeat (with_reducible refine And.intro (by omega) ?_)
          refine tr_loop mixed (by kernel_rfl) (fun (x : Nat × Nat) => [(110, .v (.int .i64 x.1)), (109, .v (.int .i64 p.m)), (5, .p 11 0 0), (4, .p 5 0 0), (2, .p 4 0 0), (1, .p 3 0 0)])
            (fun x => obP p ++ [oBx p, oAn 0 0 (.v (.slice none 0 0)) (.v (.slice none 0 0))] ++ tbK 5 (qF p cc bc sc nc) s.d s.T s.b ++ [oAn (rn V s.d.toNat) (rd V s.d.toNat : Nat) (.s 13 0 0 p.n cx 2) (.s 14 0 0 x.1 x.2 2), oI p.n p.n (xvF p.R s p.m), oFr p.n cx (xvF p.R s p.m) s.d.toNat, oFr x.1 x.2 (mulP p s) s.d.toNat]) (fun x => x.1 ≤ p.m ∧ x.1 ≤ x.2) (fun x => p.m - x.1) (0, 0) ⟨Nat.zero_le _, Nat.le_refl _⟩ (Mt.wk (rl := [0, 1, 2, 3, 4, 5, 6, 7, 8, 9, 10, 11, 12, 13, 1000]) ⟨by kernel_rfl, ?_, ?_⟩) ?_
          · simp only [push_cast, ↓branch_true, ↓branch_false, Nat.reduceBEq, Nat.reduceAdd, Nat.reduceMul, Nat.reduceSub, Int.reduceToNat, reduceCtorEq, Int.reduceAdd, Int.reduceEq, Int.reduceLE, Int.reduceLT, Nat.reduceLT, Nat.reduceLeDiff]
            try trivial
          · simp only [push_cast, ↓branch_true, ↓branch_false, Nat.reduceBEq, Nat.reduceAdd, Nat.reduceMul, Nat.reduceSub, Int.reduceToNat, reduceCtorEq, Int.reduceAdd, Int.reduceEq, Int.reduceLE, Int.reduceLT, Nat.reduceLT, Nat.reduceLeDiff]
          rintro ⟨k, cy⟩ ⟨g3, g4⟩
          simp only at g3 g4
          simp only [push_cast, ↓branch_true, ↓branch_false, Nat.reduceBEq, Nat.reduceAdd, Nat.reduceMul, Nat.reduceSub, Int.reduceToNat, reduceCtorEq, Int.reduceAdd, Int.reduceEq, Int.reduceLE, Int.reduceLT, Nat.reduceLT, Nat.reduceLeDiff]
          refine ⟨fun h3 => ?_, fun h3 => ?_⟩
          · have hkm : k < p.m := by omega
            have hFk : ((p.F : Int) + (k : Nat)).toNat = p.F + k := by omega
            repeat (with_reducible refine And.intro (by omega) ?_)
            refine tr_loop0 mixed (by kernel_rfl) (fun (i : Nat) => [(118, .v (.int .i64 i)), (117, .v (.int .i64 p.m)), (116, .s 8 0 0 p.m bc 1), (13, .v (.int .i64 (sm i fun i => cqP p (s.b i) * s.T i (p.F + k)))), (12, .v (.int .i64 k)), (110, .v (.int .i64 k)), (109, .v (.int .i64 p.m)), (5, .p 11 0 0), (4, .p 5 0 0), (2, .p 4 0 0), (1, .p 3 0 0)]) (fun i => i ≤ p.m) (fun i => p.m - i) 0 (Nat.zero_le _) ?_ ?_
            · simp only [push_cast, ↓branch_true, ↓branch_false, Nat.reduceBEq, Nat.reduceAdd, Nat.reduceMul, Nat.reduceSub, Int.reduceToNat, reduceCtorEq, Int.reduceAdd, Int.reduceEq, Int.reduceLE, Int.reduceLT, Nat.reduceLT, Nat.reduceLeDiff]
              rfl
            intro i hi
            simp only [push_cast, ↓branch_true, ↓branch_false, Nat.reduceBEq, Nat.reduceAdd, Nat.reduceMul, Nat.reduceSub, Int.reduceToNat, reduceCtorEq, Int.reduceAdd, Int.reduceEq, Int.reduceLE, Int.reduceLT, Nat.reduceLT, Nat.reduceLeDiff]
            refine ⟨fun h4 => ?_, fun h4 => ?_⟩
            · have him : i < p.m := by omega
              have hb1 := hbR i him
              have hT1 := hTb i (p.F + k) him (by omega)
              have hc1 := hcT i (p.F + k) him (by omega)
              have hs0 := hsm i hi (p.F + k) (by omega)
              have hs1 := hsm (i + 1) him (p.F + k) (by omega)
              have hse : (sm (i + 1) fun i => cqP p (s.b i) * s.T i (p.F + k)) = (sm i fun i => cqP p (s.b i) * s.T i (p.F + k)) + cqP p (s.b i) * s.T i (p.F + k) := rfl
              repeat (with_reducible refine And.intro (by omega) ?_)
              have hcp := cost_pu (qF p cc bc sc nc) s (s.b i) (by omega) (by show p.n ≤ _; omega)
              rw [hcq] at hcp
              refine qc_c (hcp) rfl [5, 6, 7, 8, 9, 10] ?_
              simp only [push_cast, ↓branch_true, ↓branch_false, Nat.reduceBEq, Nat.reduceAdd, Nat.reduceMul, Nat.reduceSub, Int.reduceToNat, reduceCtorEq, Int.reduceAdd, Int.reduceEq, Int.reduceLE, Int.reduceLT, Nat.reduceLT, Nat.reduceLeDiff]
              simp only [push_cast, ↓branch_true, ↓branch_false, Nat.reduceBEq, Nat.reduceAdd, Nat.reduceMul, Nat.reduceSub, Int.reduceToNat, reduceCtorEq, Int.reduceAdd, Int.reduceEq, Int.reduceLE, Int.reduceLT, Nat.reduceLT, Nat.reduceLeDiff, hFk]
              repeat (with_reducible refine And.intro (by omega) ?_)
              refine lp0_normal (i + 1) (by omega) (by omega) ?_
              simp only [push_cast, ↓branch_true, ↓branch_false, Nat.reduceBEq, Nat.reduceAdd, Nat.reduceMul, Nat.reduceSub, Int.reduceToNat, reduceCtorEq, Int.reduceAdd, Int.reduceEq, Int.reduceLE, Int.reduceLT, Nat.reduceLT, Nat.reduceLeDiff, hse]
            · obtain rfl : i = p.m := by omega
              have hmu : sgn p k * (sm p.m fun i => cqP p (s.b i) * s.T i (p.F + k)) = mulP p s k := rfl
              have hmb : (mulP p s k).natAbs ≤ 1152921504606846976 := by
                have := hsm p.m (Nat.le_refl _) (p.F + k) (by omega)
                rw [← hmu]
                unfold sgn
                split <;> omega
              have hpt := part_rn (qF p cc bc sc nc) s (mulP p s k) hmb hSm
              simp only [push_cast, ↓branch_true, ↓branch_false, Nat.reduceBEq, Nat.reduceAdd, Nat.reduceMul, Nat.reduceSub, Int.reduceToNat, reduceCtorEq, Int.reduceAdd, Int.reduceEq, Int.reduceLE, Int.reduceLT, Nat.reduceLT, Nat.reduceLeDiff, hmu]
              repeat' (first
                | (with_reducible apply And.intro)
                | (with_reducible intro _)
                | omega
                | (refine sp_c hpt rfl [5, 6, 7, 8, 9, 10] ?_
                   simp only [push_cast, ↓branch_true, ↓branch_false, Nat.reduceBEq, Nat.reduceAdd, Nat.reduceMul, Nat.reduceSub, Int.reduceToNat, reduceCtorEq, Int.reduceAdd, Int.reduceEq, Int.reduceLE, Int.reduceLT, Nat.reduceLT, Nat.reduceLeDiff, hmu]
                   )
                | (refine Or.inr ⟨by omega, by omega, fun c2 hc2 => ?_⟩
                   ))
              all_goals
                refine lpK_normal (k + 1, c2) [0, 1, 2, 3, 4, 5, 6, 7, 8, 9, 10, 11, 12, 13, 16] ⟨by simp only; omega, by simp only; omega⟩ (by simp only; omega) (by kernel_rfl) ?_ ?_
                · simp only [push_cast, ↓branch_true, ↓branch_false, Nat.reduceBEq, Nat.reduceAdd, Nat.reduceMul, Nat.reduceSub, Int.reduceToNat, reduceCtorEq, Int.reduceAdd, Int.reduceEq, Int.reduceLE, Int.reduceLT, Nat.reduceLT, Nat.reduceLeDiff]
                  try trivial
                · simp only [push_cast, ↓branch_true, ↓branch_false, Nat.reduceBEq, Nat.reduceAdd, Nat.reduceMul, Nat.reduceSub, Int.reduceToNat, reduceCtorEq, Int.reduceAdd, Int.reduceEq, Int.reduceLE, Int.reduceLT, Nat.reduceLT, Nat.reduceLeDiff]
                  exact lf4 (fun k => rn (mulP p s k) s.d.toNat) (fun k => (rd (mulP p s k) s.d.toNat : Nat))
          · obtain rfl : k = p.m := by omega
            repeat (with_reducible refine And.intro (by omega) ?_)
            subst hVV
            refine ⟨_, _, [0, 1, 2, 13, 14], ?_, by kernel_rfl, ?_, .ok s cx cy hv hf hLa g2 g4 hVb⟩
            · simp only [push_cast, ↓branch_true, ↓branch_false, Nat.reduceBEq, Nat.reduceAdd, Nat.reduceMul, Nat.reduceSub, Int.reduceToNat, reduceCtorEq, Int.reduceAdd, Int.reduceEq, Int.reduceLE, Int.reduceLT, Nat.reduceLT, Nat.reduceLeDiff]
            · simp only [push_cast, ↓branch_true, ↓branch_false, Nat.reduceBEq, Nat.reduceAdd, Nat.reduceMul, Nat.reduceSub, Int.reduceToNat, reduceCtorEq, Int.reduceAdd, Int.reduceEq, Int.reduceLE, Int.reduceLT, Nat.reduceLT, Nat.reduceLeDiff]
    · generalize S2 (qF p cc bc sc nc) s2 K2 = s at *
      simp only [push_cast, ↓branch_true, ↓branch_false, Nat.reduceBEq, Nat.reduceAdd, Nat.reduceMul, Nat.reduceSub, Int.reduceToNat, reduceCtorEq, Int.reduceAdd, Int.reduceEq, Int.reduceLE, Int.reduceLT, Nat.reduceLT, Nat.reduceLeDiff]
      refine ⟨_, _, [0, 1, 2], ?_, by kernel_rfl, ?_, .bad 21 (.inr (.inr ⟨hv, hf, .inr ⟨rfl, ?_⟩⟩))⟩
      · simp only [push_cast, ↓branch_true, ↓branch_false, Nat.reduceBEq, Nat.reduceAdd, Nat.reduceMul, Nat.reduceSub, Int.reduceToNat, reduceCtorEq, Int.reduceAdd, Int.reduceEq, Int.reduceLE, Int.reduceLT, Nat.reduceLT, Nat.reduceLeDiff]
      · simp only [push_cast, ↓branch_true, ↓branch_false, Nat.reduceBEq, Nat.reduceAdd, Nat.reduceMul, Nat.reduceSub, Int.reduceToNat, reduceCtorEq, Int.reduceAdd, Int.reduceEq, Int.reduceLE, Int.reduceLT, Nat.reduceLT, Nat.reduceLeDiff]
      · exact free_of hp hD hph hN
  · simp only [push_cast, ↓branch_true, ↓branch_false, Nat.reduceBEq, Nat.reduceAdd, Nat.reduceMul, Nat.reduceSub, Int.reduceToNat, reduceCtorEq, Int.reduceAdd, Int.reduceEq, Int.reduceLE, Int.reduceLT, Nat.reduceLT, Nat.reduceLeDiff]
    refine ⟨_, _, [0, 1, 2], ?_, by kernel_rfl, ?_, .bad 22 (.inr (.inr ⟨hv, hf, .inl ⟨rfl, ?_⟩⟩))⟩
    · simp only [push_cast, ↓branch_true, ↓branch_false, Nat.reduceBEq, Nat.reduceAdd, Nat.reduceMul, Nat.reduceSub, Int.reduceToNat, reduceCtorEq, Int.reduceAdd, Int.reduceEq, Int.reduceLE, Int.reduceLT, Nat.reduceLT, Nat.reduceLeDiff]
    · simp only [push_cast, ↓branch_true, ↓branch_false, Nat.reduceBEq, Nat.reduceAdd, Nat.reduceMul, Nat.reduceSub, Int.reduceToNat, reduceCtorEq, Int.reduceAdd, Int.reduceEq, Int.reduceLE, Int.reduceLT, Nat.reduceLT, Nat.reduceLeDiff]
    · exact ⟨_, gap_of hp hK.E hKf hsm⟩
end Go.Proofs.Ytdeaaonppokgkaa
