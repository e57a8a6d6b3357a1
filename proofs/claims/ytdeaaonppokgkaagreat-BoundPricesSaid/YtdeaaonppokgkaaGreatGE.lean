/- Plain law: fractions in lowest terms. Plain: what the phases' ends say of a program. Contract: Solve. Plain: the least value is one number; which programs are valid. -/
import Derived.Test.YtdeaaonppokgkaaGreatGD
set_option maxRecDepth 100000
set_option linter.unusedSimpArgs false
set_option linter.unusedVariables false
namespace Go.Proofs.YtdeaaonppokgkaaGreat.Lp
/-- Lowest terms are unique. -/
theorem nu {n d N D : Nat} (hd : 0 < d) (hD : 0 < D) (hc : Nat.gcd n d = 1) (h : n * D = N * d) : n = N / Nat.gcd N D ∧ d = D / Nat.gcd N D := by
  have h1 : d ∣ n * D := ⟨N, by rw [h, Nat.mul_comm]⟩
  have h2 : d ∣ D := Nat.Coprime.dvd_of_dvd_mul_left (Nat.Coprime.symm hc) h1
  obtain ⟨k, rfl⟩ := h2
  have hk : 0 < k := Nat.pos_of_mul_pos_left hD
  have h3 : N = n * k := by
    refine Nat.eq_of_mul_eq_mul_right hd ?_
    rw [← h, Nat.mul_assoc, Nat.mul_comm k d]
  subst h3
  have h4 : Nat.gcd (n * k) (d * k) = k := by rw [Nat.gcd_mul_right, hc, Nat.one_mul]
  rw [h4, Nat.mul_div_cancel _ hk, Nat.mul_div_cancel _ hk]
  exact ⟨rfl, rfl⟩
theorem gdd {i j : Nat} (h : 0 < Nat.gcd i j) : Nat.gcd (i / Nat.gcd i j) (j / Nat.gcd i j) = 1 := by
  rw [Nat.gcd_div (Nat.gcd_dvd_left i j) (Nat.gcd_dvd_right i j), Nat.div_self h]
/-- The fraction N/D in lowest terms. -/
def rn (N : Int) (D : Nat) : Int := if N < 0 then -((N.natAbs / Nat.gcd N.natAbs D : Nat) : Int) else ((N.natAbs / Nat.gcd N.natAbs D : Nat) : Int)
def rd (N : Int) (D : Nat) : Nat := D / Nat.gcd N.natAbs D
theorem rn_abs (N : Int) (D : Nat) : (rn N D).natAbs = N.natAbs / Nat.gcd N.natAbs D := by
  unfold rn
  generalize N.natAbs / Nat.gcd N.natAbs D = q
  split <;> omega
theorem rd_pos (N : Int) {D : Nat} (h : 0 < D) : 0 < rd N D := Nat.div_pos (Nat.gcd_le_right _ h) (Nat.gcd_pos_of_pos_right _ h)
theorem rd_le (N : Int) (D : Nat) : rd N D ≤ D := Nat.div_le_self _ _
theorem rn_le (N : Int) (D : Nat) : (rn N D).natAbs ≤ N.natAbs := by rw [rn_abs]; exact Nat.div_le_self _ _
theorem r_cop (N : Int) {D : Nat} (h : 0 < D) : Nat.gcd (rn N D).natAbs (rd N D) = 1 := by
  rw [rn_abs]
  exact gdd (Nat.gcd_pos_of_pos_right _ h)
theorem rn_mul (N : Int) (D : Nat) : rn N D * (Nat.gcd N.natAbs D : Nat) = N := by
  have h := Nat.div_mul_cancel (Nat.gcd_dvd_left N.natAbs D)
  unfold rn
  generalize N.natAbs / Nat.gcd N.natAbs D = q at *
  generalize Nat.gcd N.natAbs D = g at *
  have h2 : (q : Int) * (g : Int) = (N.natAbs : Nat) := by rw [← h]; exact (Int.natCast_mul q g).symm
  split
  · rw [Int.neg_mul, h2]; omega
  · rw [h2]; omega
theorem rd_mul (N : Int) (D : Nat) : rd N D * Nat.gcd N.natAbs D = D := Nat.div_mul_cancel (Nat.gcd_dvd_right _ _)
theorem r_val (N : Int) (D : Nat) : rn N D * (D : Nat) = N * (rd N D : Nat) := by
  have h1 := rn_mul N D
  have h2 := rd_mul N D
  generalize Nat.gcd N.natAbs D = g at *
  have h3 : ((rd N D : Nat) : Int) * (g : Int) = (D : Nat) := by rw [← Int.natCast_mul, h2]
  rw [← h3]
  calc rn N D * ((rd N D : Nat) * (g : Int)) = rn N D * (g : Int) * (rd N D : Nat) := by rw [Int.mul_assoc, Int.mul_comm (g : Int)]
    _ = _ := by rw [h1]
theorem rn_neg (N : Int) {D : Nat} (hD : 0 < D) : rn N D < 0 ↔ N < 0 := by
  have h := rn_mul N D
  have hg : 0 < Nat.gcd N.natAbs D := Nat.gcd_pos_of_pos_right _ hD
  constructor
  · intro h2
    rw [← h]
    exact Int.mul_neg_of_neg_of_pos h2 (by omega)
  · intro h2
    refine Int.lt_of_not_ge fun h3 => ?_
    have := Int.mul_nonneg h3 (show (0 : Int) ≤ (Nat.gcd N.natAbs D : Nat) by omega)
    omega
theorem r_uniq {n N : Int} {d D : Nat} (hd : 0 < d) (hD : 0 < D) (hc : Nat.gcd n.natAbs d = 1) (h : n * (D : Nat) = N * (d : Nat)) : n = rn N D ∧ d = rd N D := by
  have h1 : n.natAbs * D = N.natAbs * d := by
    have := congrArg Int.natAbs h
    rwa [Int.natAbs_mul, Int.natAbs_mul] at this
  obtain ⟨e1, e2⟩ := nu hd hD hc h1
  refine ⟨?_, e2⟩
  have hs : n < 0 ↔ N < 0 := by
    constructor
    · intro h2
      refine Int.lt_of_not_ge fun h3 => ?_
      have q1 := Int.mul_nonneg h3 (show (0 : Int) ≤ (d : Nat) by omega)
      have q2 := Int.mul_neg_of_neg_of_pos h2 (show (0 : Int) < (D : Nat) by omega)
      omega
    · intro h2
      refine Int.lt_of_not_ge fun h3 => ?_
      have q1 := Int.mul_nonneg h3 (show (0 : Int) ≤ (D : Nat) by omega)
      have q2 := Int.mul_neg_of_neg_of_pos h2 (show (0 : Int) < (d : Nat) by omega)
      omega
  unfold rn
  rw [← e1]
  split <;> omega
/-- One value, one fraction. -/
theorem r_same {N N' : Int} {D D' : Nat} (hD : 0 < D) (hD' : 0 < D') (h : N * (D' : Nat) = N' * (D : Nat)) : rn N D = rn N' D' ∧ rd N D = rd N' D' := by
  refine r_uniq (rd_pos N hD) hD' (r_cop N hD) ?_
  have h1 := r_val N D
  have h0 : (D : Int) ≠ 0 := by omega
  refine Int.eq_of_mul_eq_mul_right h0 ?_
  calc rn N D * (D' : Int) * (D : Int) = rn N D * (D : Int) * (D' : Int) := by rw [Int.mul_assoc, Int.mul_comm (D' : Int), ← Int.mul_assoc]
    _ = N * (D' : Int) * (rd N D : Nat) := by rw [h1, Int.mul_assoc, Int.mul_comm ((rd N D : Nat) : Int), ← Int.mul_assoc]
    _ = N' * (D : Int) * (rd N D : Nat) := by rw [h]
    _ = _ := by rw [Int.mul_assoc, Int.mul_comm (D : Int), ← Int.mul_assoc]
/- ===== a product ===== -/
/- ===== a sum ===== -/
end Go.Proofs.YtdeaaonppokgkaaGreat.Lp
namespace Go.Proofs.YtdeaaonppokgkaaGreat
open Go.RowKit Lp
/-- What a last table says. -/
structure Last (p : Pm) (s : Tabl) : Prop where
  feas : Feas (tA p) p.m p.R s
  noart : NoArt p.m p.F p.R s
  rc : ∀ j, j < p.F → 0 ≤ rc p.m (cqP p) s j
def valP (p : Pm) (s : Tabl) : Int := wsum p.m (cqP p) s p.R
def mulP (p : Pm) (s : Tabl) (k : Nat) : Int := mult (sgn p) p.F p.m (cqP p) s k
/-- A program that has no least value. -/
def Free (p : Pm) : Prop := (∃ X d, Prim (lpP p) X d) ∧ ∃ W, Ray (lpP p) W
/-- Multipliers that refute. -/
def Gap (p : Pm) (Y : Nat → Int) : Prop := Dual (lpP p) (fun _ => 0) Y ∧ 0 < dval (lpP p) Y
def gapY (p : Pm) (s : Tabl) (k : Nat) : Int := mult (sgn p) p.F p.m (artC p.F p.m) s k
theorem phE_neg {m F : Nat} {c : Nat → Int} {s : Tabl} (h : phE m F c s < 0) : ∀ j, j < F → 0 ≤ rc m c s j := fun j hj => by
  rcases ent_spec (p := fun j => decide (rc m c s j < 0)) (F := F) with ⟨_, q⟩ | ⟨e, _, q, _⟩
  · have := q j hj
    simpa using this
  · unfold phE at h
    omega
section
variable {p : Pm}
theorem gap_of (hp : PmOk p) {s : Tabl} (hE : phE p.m p.F (artC p.F p.m) s < 0) (hf : Feas (tA p) p.m p.R s) (hs : ¬ sm p.m (fun k => if p.F ≤ s.b k then s.T k p.R else 0) ≤ 0) : Gap p (gapY p s) := by
  obtain ⟨g, ht⟩ := hf.tab
  have hF : p.n ≤ p.F := (form hp).nF
  have hz : ∀ j, j < p.F → artC p.F p.m j = 0 := fun j hj => by unfold artC; rw [if_neg (by omega)]
  obtain ⟨h1, h2⟩ := (form hp).dual ht (artC p.F p.m) (fun j _ hj => hz j hj) (phE_neg hE)
  refine ⟨⟨fun j hj => ?_, h1.sgn⟩, ?_⟩
  · have h3 := h1.col j hj
    have hj' : j < p.n := hj
    rw [hz j (by omega), Int.zero_mul] at h3
    exact h3
  · have h4 : dval (lpP p) (gapY p s) = wsum p.m (artC p.F p.m) s p.R := h2
    rw [h4, art_sum hf.bas]
    exact Int.not_le.1 hs
theorem cq_hi (hp : PmOk p) : ∀ j, p.n ≤ j → cqP p j = 0 := fun j hj => by unfold cqP; rw [if_neg (by omega)]
theorem cq_lo : ∀ j, j < p.n → cqP p j = p.co j := fun j hj => by unfold cqP; rw [if_pos hj]
theorem free_of (hp : PmOk p) {s : Tabl} (hD : Driven (tA p) p.m p.F s p.m) (hE : ¬ phE p.m p.F (cqP p) s < 0) (hN : ¬ Goes p.m p.R p.F (cqP p) s) : Free p := by
  obtain ⟨g, ht⟩ := hD.feas.tab
  rcases ent_spec (p := fun j => decide (rc p.m (cqP p) s j < 0)) (F := p.F) with ⟨q1, _⟩ | ⟨e, q1, q2, q3, _⟩
  · unfold phE at hE; omega
  have hee : (phE p.m p.F (cqP p) s).toNat = e := by unfold phE; rw [q2]; rfl
  have hno : ∀ k, k < p.m → s.T k e ≤ 0 := by
    rcases lv_spec (R := p.R) (s := s) (e := e) (q := p.m) fun i k hi hk => ht.inj hi hk with ⟨_, q6⟩ | ⟨r, _, q6, _⟩
    · exact q6
    · refine absurd ⟨by omega, ?_⟩ hN
      unfold phR
      rw [hee, q6]
      omega
  exact ⟨⟨_, _, (form hp).prim hD.feas hD.noart⟩, _, (form hp).ray hD.feas (fun k hk hb j hj => hD.stuck k hk hk hb j hj) (fun j hj => cq_lo j hj) (fun j hj _ => cq_hi hp j hj) q1 (show rc p.m (cqP p) s e < 0 by simpa using q3) hno⟩
theorem last_of {s : Tabl} (hD : Driven (tA p) p.m p.F s p.m) (hE : phE p.m p.F (cqP p) s < 0) : Last p s := ⟨hD.feas, hD.noart, phE_neg hE⟩
end
end Go.Proofs.YtdeaaonppokgkaaGreat
namespace Go.Proofs.YtdeaaonppokgkaaGreat
open Go.RowKit Lp
/-- The values of the variables, after some rows of a table. -/
def xvF (R : Nat) (s : Tabl) : Nat → Nat → Int
  | 0, _ => 0
  | k + 1, j => if s.b k = j then s.T k R else xvF R s k j
theorem xvF_le {R : Nat} {s : Tabl} {m B : Nat} (h : ∀ k, k < m → (s.T k R).natAbs ≤ B) : ∀ {k : Nat}, k ≤ m → ∀ j, (xvF R s k j).natAbs ≤ B
  | 0, _, j => by rw [xvF]; omega
  | k + 1, hk, j => by
    rw [xvF]
    split
    · exact h k (by omega)
    · exact xvF_le h (by omega) j
theorem xvF_set (R : Nat) (s : Tabl) (k j : Nat) : (bif 0 == 0 && j == s.b k then s.T k R else xvF R s k j) = xvF R s (k + 1) j := by
  rw [xvF]
  by_cases h : j = s.b k
  · subst h; simp
  · rw [beq_eq_false_iff_ne.2 h, if_neg (fun e => h e.symm)]; simp
theorem xvF_skip {R : Nat} {s : Tabl} {k j n : Nat} (h : n ≤ s.b k) (hj : j < n) : xvF R s (k + 1) j = xvF R s k j := by
  rw [xvF, if_neg (by omega)]
theorem lf4 {rl : List Nat} {t : Nat} (f g : Nat → Int) : ∀ i, i < 1 → ∀ k, k < t + 1 → Value.int .i64 (f k) = Value.int .i64 (bif decide (k < t) then f k else f t) ∧ Value.int .i64 (g k) = Value.int .i64 (bif decide (k < t) then g k else g t) ∧ mtL rl [] (bif decide (k < t) then [] else []) := fun i hi k hk =>
  ⟨(lf3 (rl := rl) f i hi k hk).1, (lf3 (rl := rl) g i hi k hk).1, (lf3 (rl := rl) g i hi k hk).2⟩
/-- A row of fractions. -/
def oFr (n cap : Nat) (N : Nat → Int) (d : Nat) : Ob := ⟨27, false, .row 2 1 (fun _ => n) (fun _ => cap) (fun _ k => [.v (.int .i64 (rn (N k) d)), .v (.int .i64 (rd (N k) d : Nat))])⟩
def oAn (vn vd : Int) (x y : SV) : Ob := ⟨60, false, .st [.v (.int .i64 vn), .v (.int .i64 vd), x, y]⟩
attribute [push_cast] oFr oAn
theorem part_rn (q : Fm) (s : Tabl) (n : Int) (hn : n.natAbs ≤ 1152921504606846976) (hS : Sml q s) : Pu Tryz.prog 59 [.p 0 0 0, .v (.int .i64 n)] (tbR q s.d s.T s.b) (frV (rn n s.d.toNat) (rd n s.d.toNat : Nat)) := by
  have hd := hS.d
  have h := part_pu q s n hn hS
  have h1 := Nat.div_le_self n.natAbs (Nat.gcd n.natAbs s.d.toNat)
  have h2 := Nat.div_le_self s.d.toNat (Nat.gcd n.natAbs s.d.toNat)
  have e : sgN (decide (n < 0)) (n.natAbs / Nat.gcd n.natAbs s.d.toNat) (s.d.toNat / Nat.gcd n.natAbs s.d.toNat) = rn n s.d.toNat := by
    unfold sgN rn
    rw [if_pos (by omega)]
    by_cases h0 : n < 0
    · rw [decide_eq_true h0, if_pos h0]; rfl
    · rw [decide_eq_false h0, if_neg h0]; rfl
  have e2 : sgD (n.natAbs / Nat.gcd n.natAbs s.d.toNat) (s.d.toNat / Nat.gcd n.natAbs s.d.toNat) = (rd n s.d.toNat : Nat) := by
    unfold sgD rd
    rw [if_pos (by omega)]
  rw [e, e2] at h
  exact h
section
variable (p : Pm) (cc bc sc nc : Nat)
@[push_cast] theorem qF_m : (qF p cc bc sc nc).m = p.m := rfl
@[push_cast] theorem qF_n : (qF p cc bc sc nc).n = p.n := rfl
@[push_cast] theorem qF_F : (qF p cc bc sc nc).F = p.F := rfl
@[push_cast] theorem qF_cc : (qF p cc bc sc nc).cc = cc := rfl
@[push_cast] theorem qF_bc : (qF p cc bc sc nc).bc = bc := rfl
@[push_cast] theorem qF_sc : (qF p cc bc sc nc).sc = sc := rfl
@[push_cast] theorem qF_nc : (qF p cc bc sc nc).nc = nc := rfl
@[push_cast] theorem qF_sg : (qF p cc bc sc nc).sg = sgn p := rfl
@[push_cast] theorem qF_co : (qF p cc bc sc nc).co = p.co := rfl
@[push_cast] theorem qF_R : (qF p cc bc sc nc).R = p.R := rfl
@[push_cast] theorem fm_R : Fm.R ⟨p.m, p.n, p.F, cc, bc, sc, nc, sgn p, p.co⟩ = p.R := rfl
@[push_cast] theorem first_d (A : Nat → Nat → Int) (F : Nat) : (firstT A F).d = 1 := rfl
@[push_cast] theorem first_T (A : Nat → Nat → Int) (F : Nat) : (firstT A F).T = A := rfl
@[push_cast] theorem first_b (A : Nat → Nat → Int) (F : Nat) (k : Nat) : (firstT A F).b k = F + k := rfl
end
theorem start_sp2 (q : Fm) (s0 : Tabl) (K : Nat) (hK : StartOk q s0 K) : Sp Tryz.prog 56 [.p 0 0 0] (tb q s0)
    (fun r H => (sm q.m (artF q (S1 q s0 K) q.R) ≤ 0 ∧ r = .v (.bool true) ∧ H = tb q (drS q.F (S1 q s0 K) q.m)) ∨ (¬ sm q.m (artF q (S1 q s0 K) q.R) ≤ 0 ∧ r = .v (.bool false) ∧ H = tb q (S1 q s0 K))) := by
  refine sp_mono (start_sp q s0 K hK) ?_
  rintro _ _ ⟨rfl, rfl⟩
  by_cases h : sm q.m (artF q (S1 q s0 K) q.R) ≤ 0
  · rw [if_pos h, decide_eq_true h]; exact .inl ⟨h, rfl, rfl⟩
  · rw [if_neg h, decide_eq_false h]; exact .inr ⟨h, rfl, rfl⟩
theorem improve_sp2 (q : Fm) (s0 : Tabl) (K : Nat) (hK : ImpOk q s0 K) : Sp Tryz.prog 57 [.p 0 0 0] (tb q s0)
    (fun r H => (phE q.m q.F (cqo q) (S2 q s0 K) < 0 ∧ r = .v (.bool true) ∧ H = tb q (S2 q s0 K)) ∨ (¬ phE q.m q.F (cqo q) (S2 q s0 K) < 0 ∧ r = .v (.bool false) ∧ H = tb q (S2 q s0 K))) := by
  refine sp_mono (improve_sp q s0 K hK) ?_
  rintro _ _ ⟨rfl, rfl⟩
  by_cases h : phE q.m q.F (cqo q) (S2 q s0 K) < 0
  · rw [decide_eq_true h]; exact .inl ⟨h, rfl, rfl⟩
  · rw [decide_eq_false h]; exact .inr ⟨h, rfl, rfl⟩
inductive SolR (p : Pm) : SV → List Ob → Prop
  | ok (s : Tabl) (cx cy : Nat) (hv : vPm p = true) (hf : fitB p = true) (h : Last p s) (hx : p.n ≤ cx) (hy : p.m ≤ cy) (hz : (valP p s).natAbs ≤ 1152921504606846976 ∧ s.d ≤ 144115188075855872) : SolR p (.t [.a [.v (.int .i64 (rn (valP p s) s.d.toNat)), .v (.int .i64 (rd (valP p s) s.d.toNat : Nat)), .s 3 0 0 p.n cx 2, .s 4 0 0 p.m cy 2], .v (.int .i64 0)])
      (obP p ++ [oFr p.n cx (xvF p.R s p.m) s.d.toNat, oFr p.m cy (mulP p s) s.d.toNat])
  | bad (e : Int) (h : (vPm p = false ∧ e = 1) ∨ (vPm p = true ∧ fitB p = false ∧ e = 5) ∨ (vPm p = true ∧ fitB p = true ∧ ((e = 22 ∧ ∃ Y, Gap p Y) ∨ (e = 21 ∧ Free p)))) : SolR p (.t [.a [.v (.int .i64 0), .v (.int .i64 0), .v (.slice none 0 0), .v (.slice none 0 0)], .v (.int .i64 e)]) (obP p)
set_option maxHeartbeats 16000000 in
theorem solve_sp (p : Pm) (hin : vPm p = true → PmOk p) (hl : ∀ t, t < p.m → p.ln t ≤ 1000000) (hn : p.n ≤ 1000000) (hm : p.m ≤ 1000000) : Sp Tryz.prog 22 [svP p] (obP p) (SolR p) := by
  have hva := valid_pu p hl hn hm
  refine sp_weak ?_
  refine sp_of_ex true [(24, .one 0 (.one 2 (.one 3 (.alt [(1, .one 4 (.one 5 (.one 6 (.one 7 (.one 8 .fin))))), (4, .alt [(1, .one 5 (.one 6 (.one 7 (.one 8 .fin)))), (5, .one 1 (.one 6 (.one 7 (.one 8 .fin))))])])))), (35, .one 0 (.one 2 (.one 3 (.one 4 (.one 5 (.one 7 (.one 10 (.alt [(1, .one 6 (.one 8 (.one 9 (.one 11 (.one 12 (.one 13 (.one 14 (.one 15 (.one 16 .fin))))))))), (6, .one 8 (.alt [(1, .one 9 (.one 11 (.one 12 (.one 13 (.one 14 (.one 15 (.one 16 .fin))))))), (9, .one 11 (.alt [(1, .one 12 (.one 13 (.one 14 (.one 15 (.one 16 .fin))))), (12, .alt [(1, .one 13 (.one 14 (.one 15 (.one 16 .fin)))), (13, .one 1 (.one 14 (.one 15 (.one 16 .fin))))])]))]))]))))))))] mixed Tryz.call22 Tryz.func22 rfl Tryz.ntmps22 Tryz.results22 (by decide +kernel) rfl ?_
  refine sxq ?_
  try with_reducible exact trivial
  refine sp_c hva rfl [0, 1, 2] ?_
  refine sxq ?_
  try with_reducible exact trivial
  simp only [branch]
  cases hv : vPm p with
  | false =>
    refine sxq ?_
    try with_reducible exact trivial
    refine ⟨_, _, [0, 1, 2], ?_, by kernel_rfl, ?_, .bad 1 (.inl ⟨hv, rfl⟩)⟩
    · refine sxq ?_
      try with_reducible exact trivial
    · refine sxq ?_
      try with_reducible exact trivial
  | true =>
  have hp := hin hv
  have hfp := fits_pu p hp
  refine sxq ?_
  try with_reducible exact trivial
  refine sp_c hfp rfl [0, 1, 2] ?_
  refine sxq ?_
  try with_reducible exact trivial
  cases hf : fitB p with
  | false =>
    refine sxq ?_
    try with_reducible exact trivial
    refine ⟨_, _, [0, 1, 2], ?_, by kernel_rfl, ?_, .bad 5 (.inr (.inl ⟨hv, hf, rfl⟩))⟩
    · refine sxq ?_
      try with_reducible exact trivial
    · refine sxq ?_
      try with_reducible exact trivial
  | true =>
  have hfit := fit_of hf
  refine sxq ?_
  try with_reducible exact trivial
  refine sp_at (newTable_sp p hp) [0, 1, 2] (by kernel_rfl) ?_ ?_ ?_
  · refine sxq ?_
    try with_reducible exact trivial
  · refine sxq ?_
    try with_reducible exact trivial
  rintro _ _ ⟨cc, bc, sc, nc, rfl, rfl⟩
  refine sxq ?_
  try with_reducible exact trivial
  obtain ⟨K, hK, hKf⟩ := start_ok (cc := cc) (bc := bc) (sc := sc) (nc := nc) hp hfit
  have hRF : p.R = p.F + p.m := rfl
  refine sp_at (start_sp2 _ _ K hK) [5, 6, 7, 8, 9, 10] (by kernel_rfl) ?_ ?_ ?_
  · refine sxq ?_
    try with_reducible exact trivial
  · refine sxq ?_
    try with_reducible exact trivial
  rintro _ _ (⟨hsm, rfl, rfl⟩ | ⟨hsm, rfl, rfl⟩)
  · have hdr := start_driven hp hKf hsm
    change Driven (tA p) p.m p.F (drS (qF p cc bc sc nc).F (S1 (qF p cc bc sc nc) (firstT (tA p) p.F) K) (qF p cc bc sc nc).m) p.m at hdr
    generalize drS (qF p cc bc sc nc).F (S1 (qF p cc bc sc nc) (firstT (tA p) p.F) K) (qF p cc bc sc nc).m = s2 at *
    clear hK hKf hsm
    refine sxq ?_
    try with_reducible exact trivial
    obtain ⟨K2, hI, hD⟩ := imp_ok (cc := cc) (bc := bc) (sc := sc) (nc := nc) hp hfit hdr
    refine sp_at (improve_sp2 _ _ K2 hI) [5, 6, 7, 8, 9, 10] (by kernel_rfl) ?_ ?_ ?_
    · refine sxq ?_
      try with_reducible exact trivial
    · refine sxq ?_
      try with_reducible exact trivial
    have hN := hI.N
    rintro _ _ (⟨hph, rfl, rfl⟩ | ⟨hph, rfl, rfl⟩)
    · generalize S2 (qF p cc bc sc nc) s2 K2 = s at *
      have hLa : Last p s := last_of hD hph
      have hSm : Sml (qF p cc bc sc nc) s := sml_of hp hfit hD.feas
      clear hI hdr hN hph
      have hnp := hp.n
      have hmp := hp.m
      have hRb := hSm.R
      have hbR := hSm.b
      have hTb := hSm.T
      simp only [push_cast] at hRb hbR hTb
      have hcq : cqo (qF p cc bc sc nc) = cqP p := rfl
      have hcT := hSm.cT
      rw [hcq] at hcT
      simp only [push_cast] at hcT
      have hxl := fun k hk j => xvF_le (R := p.R) (s := s) (m := p.m) (B := 144115188075855872) (fun k hk => hTb k p.R hk (by omega)) (k := k) hk j
      have hsm := fun n (hn : n ≤ p.m) j (hj : j < p.R + 1) => sm_small hn hmp (f := fun k => cqP p (s.b k) * s.T k j) fun k hk => hcT k j hk hj
      refine sxq ?_
      try with_reducible exact trivial
      repeat (with_reducible refine And.intro (by omega) ?_)
      refine tr_loop mixed (by kernel_rfl) (fun (k : Nat) => [(43, .v (.int .i64 k)), (42, .v (.int .i64 p.m)), (41, .s 8 0 0 p.m bc 1), (6, .v (.int .i64 (sm k fun k => cqP p (s.b k) * s.T k p.R))), (7, .s 12 0 0 p.n p.n 1), (5, .p 11 0 0), (4, .p 5 0 0), (2, .p 4 0 0), (1, .p 3 0 0)])
        (fun k => obP p ++ [oBx p, oAn 0 0 (.v (.slice none 0 0)) (.v (.slice none 0 0))] ++ tbK 5 (qF p cc bc sc nc) s.d s.T s.b ++ [oAn 0 0 (.v (.slice none 0 0)) (.v (.slice none 0 0)), oI p.n p.n (xvF p.R s k)]) (fun k => k ≤ p.m) (fun k => p.m - k) 0 (Nat.zero_le _) (Mt.wk (rl := [0, 1, 2, 3, 4, 5, 6, 7, 8, 9, 10, 11, 12]) ⟨by kernel_rfl, ?_, ?_⟩) ?_
      · refine sxq ?_
        try with_reducible exact trivial
        rfl
      · refine sxq ?_
        try with_reducible exact trivial
        exact fun _ _ _ _ => rfl
      intro k hk
      refine sxq ?_
      try with_reducible exact trivial
      refine ⟨fun h1 => ?_, fun h1 => ?_⟩
      · have hkm : k < p.m := by omega
        have hb1 := hbR k hkm
        have hT1 := hTb k p.R hkm (by omega)
        have hc1 := hcT k p.R hkm (by omega)
        have hs0 := hsm k hk p.R (by omega)
        have hs1 := hsm (k + 1) hkm p.R (by omega)
        rw [sm] at hs1
        have hset := xvF_set p.R s k
        repeat (with_reducible refine And.intro (by omega) ?_)
        have hcp := cost_pu (qF p cc bc sc nc) s (s.b k) (by omega) (by show p.n ≤ _; omega)
        rw [hcq] at hcp
        refine qc_c (hcp) rfl [5, 6, 7, 8, 9, 10] ?_
        refine sxq ?_
        try with_reducible exact trivial
        repeat (with_reducible refine And.intro (by omega) ?_)
        refine ⟨fun h2 => ?_, fun h2 => ?_⟩
        · repeat (with_reducible refine And.intro (by omega) ?_)
          refine lpK_normal (k + 1) [0, 1, 2, 3, 4, 5, 6, 7, 8, 9, 10, 11, 12] (by omega) (by omega) (by kernel_rfl) ?_ ?_
          · refine sxq ?_
            try with_reducible exact trivial
            rfl
          · refine sxq ?_
            try with_reducible exact trivial
            intro i hi j _
            obtain rfl : i = 0 := by omega
            exact ⟨congrArg (Value.int .i64) (hset j).symm, mt_cond⟩
        · repeat (with_reducible refine And.intro (by omega) ?_)
          refine lpK_normal (k + 1) [0, 1, 2, 3, 4, 5, 6, 7, 8, 9, 10, 11, 12] (by omega) (by omega) (by kernel_rfl) ?_ ?_
          · refine sxq ?_
            try with_reducible exact trivial
            rfl
          · refine sxq ?_
            try with_reducible exact trivial
            exact fun _ _ j hj => congrArg (Value.int .i64) (xvF_skip (by omega) hj)
      · obtain rfl : k = p.m := by omega
        have hVb : (valP p s).natAbs ≤ 1152921504606846976 ∧ s.d ≤ 144115188075855872 := ⟨hsm p.m (Nat.le_refl _) p.R (by omega), hSm.d.2⟩
        have hV := part_rn (qF p cc bc sc nc) s (valP p s) (hsm p.m (Nat.le_refl _) p.R (by omega)) hSm
        have hVe : (sm p.m fun k => cqP p (s.b k) * s.T k p.R) = valP p s := rfl
        rw [hVe]
        clear hVe
        generalize hVV : valP p s = V at *
        refine sp_c hV rfl [5, 6, 7, 8, 9, 10] ?_
        refine sxq ?_
        try with_reducible exact trivial
        refine tr_loop mixed (by kernel_rfl) (fun (x : Nat × Nat) => [(94, .v (.int .i64 x.1)), (93, .v (.int .i64 p.n)), (92, .s 12 0 0 p.n p.n 1), (5, .p 11 0 0), (4, .p 5 0 0), (2, .p 4 0 0), (1, .p 3 0 0)])
          (fun x => obP p ++ [oBx p, oAn 0 0 (.v (.slice none 0 0)) (.v (.slice none 0 0))] ++ tbK 5 (qF p cc bc sc nc) s.d s.T s.b ++ [oAn (rn V s.d.toNat) (rd V s.d.toNat : Nat) (.s 13 0 0 x.1 x.2 2) (.v (.slice none 0 0)), oI p.n p.n (xvF p.R s p.m), oFr x.1 x.2 (xvF p.R s p.m) s.d.toNat]) (fun x => x.1 ≤ p.n ∧ x.1 ≤ x.2) (fun x => p.n - x.1) (0, 0) ⟨Nat.zero_le _, Nat.le_refl _⟩ (Mt.wk (rl := [0, 1, 2, 3, 4, 5, 6, 7, 8, 9, 10, 11, 12, 1000]) ⟨by kernel_rfl, ?_, ?_⟩) ?_
        · refine sxq ?_
          try with_reducible exact trivial
          try trivial
        · refine sxq ?_
          try with_reducible exact trivial
        rintro ⟨j, cx⟩ ⟨g1, g2⟩
        simp only at g1 g2
        refine sxq ?_
        try with_reducible exact trivial
        refine ⟨fun h2 => ?_, fun h2 => ?_⟩
        · have hjn : j < p.n := by omega
          have hpt := part_rn (qF p cc bc sc nc) s (xvF p.R s p.m j) (by have := hxl p.m (Nat.le_refl _) j; omega) hSm
          repeat (with_reducible refine And.intro (by omega) ?_)
          repeat' (first
            | (with_reducible apply And.intro)
            | (with_reducible intro _)
            | omega
            | (refine sp_c hpt rfl [5, 6, 7, 8, 9, 10] ?_
               refine sxq ?_
               try with_reducible exact trivial
               )
            | (refine Or.inr ⟨by omega, by omega, fun c2 hc2 => ?_⟩
               ))
          all_goals
            refine lpK_normal (j + 1, c2) [0, 1, 2, 3, 4, 5, 6, 7, 8, 9, 10, 11, 12, 15] ⟨by simp only; omega, by simp only; omega⟩ (by simp only; omega) (by kernel_rfl) ?_ ?_
            · refine sxq ?_
              try with_reducible exact trivial
              try trivial
            · refine sxq ?_
              try with_reducible exact trivial
              exact lf4 (fun k => rn (xvF p.R s p.m k) s.d.toNat) (fun k => (rd (xvF p.R s p.m k) s.d.toNat : Nat))
        · obtain rfl : j = p.n := by omega
          repeat (with_reducible refine And.intro (by omega) ?_)
          refine tr_loop mixed (by kernel_rfl) (fun (x : Nat × Nat) => [(110, .v (.int .i64 x.1)), (109, .v (.int .i64 p.m)), (5, .p 11 0 0), (4, .p 5 0 0), (2, .p 4 0 0), (1, .p 3 0 0)])
            (fun x => obP p ++ [oBx p, oAn 0 0 (.v (.slice none 0 0)) (.v (.slice none 0 0))] ++ tbK 5 (qF p cc bc sc nc) s.d s.T s.b ++ [oAn (rn V s.d.toNat) (rd V s.d.toNat : Nat) (.s 13 0 0 p.n cx 2) (.s 14 0 0 x.1 x.2 2), oI p.n p.n (xvF p.R s p.m), oFr p.n cx (xvF p.R s p.m) s.d.toNat, oFr x.1 x.2 (mulP p s) s.d.toNat]) (fun x => x.1 ≤ p.m ∧ x.1 ≤ x.2) (fun x => p.m - x.1) (0, 0) ⟨Nat.zero_le _, Nat.le_refl _⟩ (Mt.wk (rl := [0, 1, 2, 3, 4, 5, 6, 7, 8, 9, 10, 11, 12, 13, 1000]) ⟨by kernel_rfl, ?_, ?_⟩) ?_
          · refine sxq ?_
            try with_reducible exact trivial
            try trivial
          · refine sxq ?_
            try with_reducible exact trivial
          rintro ⟨k, cy⟩ ⟨g3, g4⟩
          simp only at g3 g4
          refine sxq ?_
          try with_reducible exact trivial
          refine ⟨fun h3 => ?_, fun h3 => ?_⟩
          · have hkm : k < p.m := by omega
            have hFk : ((p.F : Int) + (k : Nat)).toNat = p.F + k := by omega
            repeat (with_reducible refine And.intro (by omega) ?_)
            refine tr_loop0 mixed (by kernel_rfl) (fun (i : Nat) => [(118, .v (.int .i64 i)), (117, .v (.int .i64 p.m)), (116, .s 8 0 0 p.m bc 1), (13, .v (.int .i64 (sm i fun i => cqP p (s.b i) * s.T i (p.F + k)))), (12, .v (.int .i64 k)), (110, .v (.int .i64 k)), (109, .v (.int .i64 p.m)), (5, .p 11 0 0), (4, .p 5 0 0), (2, .p 4 0 0), (1, .p 3 0 0)]) (fun i => i ≤ p.m) (fun i => p.m - i) 0 (Nat.zero_le _) ?_ ?_
            · refine sxq ?_
              try with_reducible exact trivial
              rfl
            intro i hi
            refine sxq ?_
            try with_reducible exact trivial
            refine ⟨fun h4 => ?_, fun h4 => ?_⟩
            · have him : i < p.m := by omega
              have hb1 := hbR i him
              have hT1 := hTb i (p.F + k) him (by omega)
              have hc1 := hcT i (p.F + k) him (by omega)
              have hs0 := hsm i hi (p.F + k) (by omega)
              have hs1 := hsm (i + 1) him (p.F + k) (by omega)
              have hse : (sm (i + 1) fun i => cqP p (s.b i) * s.T i (p.F + k)) = (sm i fun i => cqP p (s.b i) * s.T i (p.F + k)) + cqP p (s.b i) * s.T i (p.F + k) := rfl
              repeat (with_reducible refine And.intro (by omega) ?_)
              have hcp := cost_pu (qF p cc bc sc nc) s (s.b i) (by omega) (by show p.n ≤ _; omega)
              rw [hcq] at hcp
              refine qc_c (hcp) rfl [5, 6, 7, 8, 9, 10] ?_
              refine sxq ?_
              try with_reducible exact trivial
              simp only [push_cast, ↓branch_true, ↓branch_false, Nat.reduceBEq, Nat.reduceAdd, Nat.reduceMul, Nat.reduceSub, Int.reduceToNat, reduceCtorEq, Int.reduceAdd, Int.reduceEq, Int.reduceLE, Int.reduceLT, Nat.reduceLT, Nat.reduceLeDiff, hFk]
              repeat (with_reducible refine And.intro (by omega) ?_)
              refine lp0_normal (i + 1) (by omega) (by omega) ?_
              simp only [push_cast, ↓branch_true, ↓branch_false, Nat.reduceBEq, Nat.reduceAdd, Nat.reduceMul, Nat.reduceSub, Int.reduceToNat, reduceCtorEq, Int.reduceAdd, Int.reduceEq, Int.reduceLE, Int.reduceLT, Nat.reduceLT, Nat.reduceLeDiff, hse]
            · obtain rfl : i = p.m := by omega
              have hmu : sgn p k * (sm p.m fun i => cqP p (s.b i) * s.T i (p.F + k)) = mulP p s k := rfl
              have hmb : (mulP p s k).natAbs ≤ 1152921504606846976 := by
                have := hsm p.m (Nat.le_refl _) (p.F + k) (by omega)
                rw [← hmu]
                unfold sgn
                split <;> omega
              have hpt := part_rn (qF p cc bc sc nc) s (mulP p s k) hmb hSm
              simp only [push_cast, ↓branch_true, ↓branch_false, Nat.reduceBEq, Nat.reduceAdd, Nat.reduceMul, Nat.reduceSub, Int.reduceToNat, reduceCtorEq, Int.reduceAdd, Int.reduceEq, Int.reduceLE, Int.reduceLT, Nat.reduceLT, Nat.reduceLeDiff, hmu]
              repeat' (first
                | (with_reducible apply And.intro)
                | (with_reducible intro _)
                | omega
                | (refine sp_c hpt rfl [5, 6, 7, 8, 9, 10] ?_
                   simp only [push_cast, ↓branch_true, ↓branch_false, Nat.reduceBEq, Nat.reduceAdd, Nat.reduceMul, Nat.reduceSub, Int.reduceToNat, reduceCtorEq, Int.reduceAdd, Int.reduceEq, Int.reduceLE, Int.reduceLT, Nat.reduceLT, Nat.reduceLeDiff, hmu]
                   )
                | (refine Or.inr ⟨by omega, by omega, fun c2 hc2 => ?_⟩
                   ))
              all_goals
                refine lpK_normal (k + 1, c2) [0, 1, 2, 3, 4, 5, 6, 7, 8, 9, 10, 11, 12, 13, 16] ⟨by simp only; omega, by simp only; omega⟩ (by simp only; omega) (by kernel_rfl) ?_ ?_
                · refine sxq ?_
                  try with_reducible exact trivial
                  try trivial
                · refine sxq ?_
                  try with_reducible exact trivial
                  exact lf4 (fun k => rn (mulP p s k) s.d.toNat) (fun k => (rd (mulP p s k) s.d.toNat : Nat))
          · obtain rfl : k = p.m := by omega
            repeat (with_reducible refine And.intro (by omega) ?_)
            subst hVV
            refine ⟨_, _, [0, 1, 2, 13, 14], ?_, by kernel_rfl, ?_, .ok s cx cy hv hf hLa g2 g4 hVb⟩
            · refine sxq ?_
              try with_reducible exact trivial
            · refine sxq ?_
              try with_reducible exact trivial
    · generalize S2 (qF p cc bc sc nc) s2 K2 = s at *
      refine sxq ?_
      try with_reducible exact trivial
      refine ⟨_, _, [0, 1, 2], ?_, by kernel_rfl, ?_, .bad 21 (.inr (.inr ⟨hv, hf, .inr ⟨rfl, ?_⟩⟩))⟩
      · refine sxq ?_
        try with_reducible exact trivial
      · refine sxq ?_
        try with_reducible exact trivial
      · exact free_of hp hD hph hN
  · refine sxq ?_
    try with_reducible exact trivial
    refine ⟨_, _, [0, 1, 2], ?_, by kernel_rfl, ?_, .bad 22 (.inr (.inr ⟨hv, hf, .inl ⟨rfl, ?_⟩⟩))⟩
    · refine sxq ?_
      try with_reducible exact trivial
    · refine sxq ?_
      try with_reducible exact trivial
    · exact ⟨_, gap_of hp hK.E hKf hsm⟩
end Go.Proofs.YtdeaaonppokgkaaGreat
namespace Go.Proofs.YtdeaaonppokgkaaGreat
open Go.RowKit Lp
theorem ent_all (q : Nat → Bool) (n : Nat) : decide (0 ≤ ent q n) = !decide (∀ k, k < n → q k = false) := by
  rcases ent_spec (p := q) (F := n) with ⟨h1, h2⟩ | ⟨e, h1, h2, h3, _⟩
  · rw [h1, decide_eq_true h2]; rfl
  · have e1 : ¬ ∀ k, k < n → q k = false := fun h => by rw [h e h1] at h3; cases h3
    rw [h2, decide_eq_false e1, decide_eq_true (show (0 : Int) ≤ (e : Nat) by omega)]; rfl
theorem vPm_iff (p : Pm) : vPm p = true ↔ (1 ≤ p.n ∧ p.n ≤ 12 ∧ p.m ≤ 6 ∧ (∀ j, j < p.n → far 1048576 (p.co j) = false)) ∧ ∀ t, t < p.m → badR p t = false := by
  unfold vPm
  rw [ent_all, ent_all, Bool.not_not, Bool.and_eq_true, decide_eq_true_eq, Bool.not_eq_true', Bool.or_eq_false_iff, Bool.or_eq_false_iff, Bool.or_eq_false_iff, decide_eq_false_iff_not, decide_eq_false_iff_not, decide_eq_false_iff_not, Bool.not_eq_false', decide_eq_true_eq]
  constructor
  · rintro ⟨⟨h1, h2, h3, h4⟩, h5⟩
    exact ⟨⟨by omega, by omega, by omega, h4⟩, h5⟩
  · rintro ⟨⟨h1, h2, h3, h4⟩, h5⟩
    exact ⟨⟨by omega, by omega, by omega, h4⟩, h5⟩
theorem far_iff (most x : Int) : far most x = false ↔ -most ≤ x ∧ x ≤ most := by
  unfold far
  rw [Bool.or_eq_false_iff, decide_eq_false_iff_not, decide_eq_false_iff_not]
  omega
theorem badR_iff (p : Pm) (t : Nat) : badR p t = false ↔ p.ln t = p.n ∧ (∀ k, k < p.ln t → -1048576 ≤ p.a t k ∧ p.a t k ≤ 1048576) ∧ (1 ≤ p.kd t ∧ p.kd t ≤ 3) ∧ -1073741824 ≤ p.b t ∧ p.b t ≤ 1073741824 := by
  unfold badR
  rw [Bool.or_eq_false_iff, Bool.or_eq_false_iff, Bool.or_eq_false_iff, Bool.or_eq_false_iff, ent_all, Bool.not_eq_false', decide_eq_true_eq, decide_eq_false_iff_not, decide_eq_false_iff_not, decide_eq_false_iff_not, far_iff]
  constructor
  · rintro ⟨h1, h2, h3, h4, h5⟩
    exact ⟨by simpa using h1, fun k hk => (far_iff _ _).1 (h2 k hk), by omega, h5⟩
  · rintro ⟨h1, h2, h3, h5⟩
    exact ⟨by simpa using h1, fun k hk => (far_iff _ _).2 (h2 k hk), by omega, by omega, h5⟩
theorem pmok_of {p : Pm} (hnc : p.n ≤ p.nc) (hmc : p.m ≤ p.mc) (h : vPm p = true) : PmOk p := by
  obtain ⟨⟨h1, h2, h3, h4⟩, h5⟩ := (vPm_iff p).1 h
  have h6 := fun t ht => (badR_iff p t).1 (h5 t ht)
  refine ⟨⟨h1, h2⟩, h3, hnc, hmc, fun t ht => (h6 t ht).1, fun t ht => by have := (h6 t ht).2.2.1; omega, fun j hj => by have := (far_iff _ _).1 (h4 j hj); omega, fun t k ht hk => ?_, fun t ht => by have := (h6 t ht).2.2.2; omega⟩
  have h7 := h6 t ht
  have := h7.2.1 k (by rw [h7.1]; exact hk)
  omega
section
variable {p : Pm} {s : Tabl}
theorem last_prim (hp : PmOk p) (hL : Last p s) : Prim (lpP p) (xval p.m p.R s) s.d := (form hp).prim hL.feas hL.noart
theorem last_pval (hp : PmOk p) (hL : Last p s) : pval (lpP p) (xval p.m p.R s) = valP p s := (form hp).pval hL.feas (fun j hj => cq_lo j hj) (fun j hj _ => cq_hi hp j hj)
theorem last_dual (hp : PmOk p) (hL : Last p s) : Dual (lpP p) (fun j => p.co j * s.d) (mulP p s) ∧ dval (lpP p) (mulP p s) = valP p s := by
  obtain ⟨g, ht⟩ := hL.feas.tab
  obtain ⟨h1, h2⟩ := (form hp).dual ht (cqP p) (fun j hj _ => cq_hi hp j hj) hL.rc
  refine ⟨⟨fun j hj => ?_, h1.sgn⟩, h2⟩
  have := h1.col j hj
  have e : cqP p j = p.co j := cq_lo j hj
  rw [e] at this
  exact this
theorem last_pos (hL : Last p s) : 0 < s.d := by
  obtain ⟨g, ht⟩ := hL.feas.tab
  exact ht.pos
/-- A point and multipliers that agree tell the value. -/
theorem val_uniq (hp : PmOk p) (hL : Last p s) {X Y : Nat → Int} {d d' v : Int} (hX : Prim (lpP p) X d) (hd : 0 < d') (hY : Dual (lpP p) (fun j => p.co j * d') Y) (h1 : pval (lpP p) X * d' = v * d) (h2 : dval (lpP p) Y = v) : valP p s * d' = v * s.d := by
  have hd0 := hX.pos
  have hs := last_pos hL
  have w1 := weak_dual hX (last_dual hp hL).1
  have w2 := weak_dual (last_prim hp hL) hY
  rw [(last_dual hp hL).2] at w1
  rw [last_pval hp hL, h2] at w2
  refine Int.le_antisymm ?_ (by rw [Int.mul_comm v]; rw [Int.mul_comm v] at w2; exact w2)
  have w3 := Int.mul_le_mul_of_nonneg_right w1 (Int.le_of_lt hd)
  have e1 : valP p s * d * d' = valP p s * d' * d := by grind
  have e2 : pval (lpP p) X * s.d * d' = v * s.d * d := by
    have : pval (lpP p) X * s.d * d' = pval (lpP p) X * d' * s.d := by grind
    rw [this, h1]; grind
  rw [e1, e2] at w3
  exact Int.le_of_mul_le_mul_right w3 hd0
end
end Go.Proofs.YtdeaaonppokgkaaGreat
