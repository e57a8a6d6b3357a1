/- The ends of the reference's phases; Make; the least value of the reference. -/
import Derived.Test.YtdeaaonppokgkaaGreatZB
import Derived.Test.YtdeaaonppokgkaaGreatZA
import Derived.Test.YtdeaaonppokgkaaGreatZF
import Derived.Test.YtdeaaonppokgkaaGreatRD
set_option maxRecDepth 100000
set_option linter.unusedSimpArgs false
set_option linter.unusedVariables false
namespace Go.Proofs.YtdeaaonppokgkaaGreat
open Go.RowKit Lp
section
variable {p : Pm} {c : Nat → Int} {s : Tabl}
/-- A phase of the reference. -/
theorem run_ok (hp : PmOk p) (hs : Sm p) (cc bc : Nat) (h : RS p c s) (hc : ∀ j, (c j).natAbs ≤ fcs p 0) (hR : c (rR p) = 0) :
    ∃ K, RunOk ⟨p.m, rF p, cc, bc⟩ c s K ∧ (∀ n, n ≤ K → RS p c (phS p.m (rR p) (rF p) c s n)) ∧ (∀ n, n < K → Goes p.m (rR p) (rF p) c (phS p.m (rR p) (rF p) c s n)) ∧ ¬ Goes p.m (rR p) (rF p) c (phS p.m (rR p) (rF p) c s K) := by
  have hF : rF p ≤ rR p := by unfold rF rR; omega
  obtain ⟨K, k1, k2, k3⟩ := phase_ends hF hR h.feas
  have hcr := cr_phase hF k3 k1 h.cr
  have hall : ∀ n, n ≤ K → RS p c (phS p.m (rR p) (rF p) c s n) := fun n hn => ⟨k3 n hn, hcr n hn⟩
  refine ⟨K, ⟨hp.m, by show rF p + p.m ≤ 24; have := hp.m; have := hp.n; unfold rF; omega, fun n hn i j hi hj => (hall n hn).T hs hi hj, fun n hn => phE_cr hF (hcr n hn), k1, k2, fun n hn => ?_⟩, hall, k1, k2⟩
  have ha := hall n (by omega)
  have hb := goes_step hF ha.feas (k1 n hn)
  obtain ⟨g, ht⟩ := ha.feas.tab
  have hd := ha.d hs
  have he2 : (phE p.m (rF p) c (phS p.m (rR p) (rF p) c s n)).toNat < rR p + 1 := by have := hb.lt; omega
  refine ⟨⟨hb.row, he2, hd.1, hd.2, fun i j hi hj => ?_, fun j hj => ha.T hs hb.row hj, fun i j hi hj hir => ?_⟩, hb.pos⟩
  · have hi : i < p.m + 1 := hi
    by_cases e : i = p.m
    · subst e
      exact Nat.le_trans (ha.L hp hs hc hj) (by decide)
    · exact Nat.le_trans (ha.T hs (by omega) hj) (by decide)
  · have hi : i < p.m + 1 := hi
    by_cases e : i = p.m
    · subst e
      exact ⟨_, cr_mul ht ha.cr hb.row he2 hj⟩
    · exact ⟨_, (ht.exact hb.row he2 (by omega) hj hir).symm⟩
theorem artC_le (F m j : Nat) (x : Nat) (hx : 1 ≤ x) : (artC F m j).natAbs ≤ x := by
  unfold artC
  split <;> simp <;> omega
theorem art_R (p : Pm) : artC (rF p) p.m (rR p) = 0 := by
  unfold artC rF rR
  rw [if_neg (by omega)]
theorem cr_R (h : RS p c s) (hR : c (rR p) = 0) : s.T p.m (rR p) = - wsum p.m c s (rR p) := by
  rw [h.cr (rR p) (by omega)]
  unfold rc wsum
  rw [hR]
  omega
/-- The first phase ends at a column that nothing enters. -/
theorem ph1_end (h : RS p (artC (rF p) p.m) s) (hN : ¬ Goes p.m (rR p) (rF p) (artC (rF p) p.m) s) : phE p.m (rF p) (artC (rF p) p.m) s < 0 := by
  refine Classical.byContradiction fun hE => hN ⟨by omega, ?_⟩
  exact phase1_row (F := rF p) h.feas (by omega)
theorem gapR (h : RS p (artC (rF p) p.m) s) (hN : ¬ Goes p.m (rR p) (rF p) (artC (rF p) p.m) s) (hR : s.T p.m (rR p) < 0) : Gap p (mult (sgn p) (rF p) p.m (artC (rF p) p.m) s) := by
  obtain ⟨g, ht⟩ := h.feas.tab
  have hF : p.n ≤ rF p := (rform p).nF
  have hz : ∀ j, j < rF p → artC (rF p) p.m j = 0 := fun j hj => by unfold artC; rw [if_neg (by omega)]
  obtain ⟨h1, h2⟩ := (rform p).dual ht (artC (rF p) p.m) (fun j _ hj => hz j hj) (phE_neg (ph1_end h hN))
  refine ⟨⟨fun j hj => ?_, h1.sgn⟩, ?_⟩
  · have h3 := h1.col j hj
    have hj' : j < p.n := hj
    rw [hz j (by omega), Int.zero_mul] at h3
    exact h3
  · have h4 : dval (lpP p) (mult (sgn p) (rF p) p.m (artC (rF p) p.m) s) = wsum p.m (artC (rF p) p.m) s (rR p) := h2
    have h5 := cr_R h (art_R p)
    rw [h4]
    omega
theorem noartR (h : RS p (artC (rF p) p.m) s) (hR : ¬ s.T p.m (rR p) < 0) : Driven (rA p) p.m (rF p) s 0 := by
  have h5 := cr_R h (art_R p)
  exact ⟨h.feas, noart_of h.feas (by show ¬ 0 < wsum p.m (artC (rF p) p.m) s (rR p); omega), fun k hk => absurd hk (Nat.not_lt_zero _)⟩
/-- The artificial variables leave. -/
theorem out_ok (hp : PmOk p) (hs : Sm p) (cc bc : Nat) (h : RS p (artC (rF p) p.m) s) (hD : Driven (rA p) p.m (rF p) s 0) : OutOk ⟨p.m, rF p, cc, bc⟩ s ∧ ∀ q, q ≤ p.m → RS p (artC (rF p) p.m) (drS (rF p) s q) := by
  have hcr := cr_drive hD h.cr
  have hall : ∀ q, q ≤ p.m → RS p (artC (rF p) p.m) (drS (rF p) s q) := fun q hq => ⟨(drive hD q hq).feas, hcr q hq⟩
  refine ⟨⟨hp.m, by show rF p + p.m ≤ 24; have := hp.m; have := hp.n; unfold rF; omega, fun i hi hb e he => ?_⟩, hall⟩
  have hi : i < p.m := hi
  have ha := hall i (by omega)
  obtain ⟨g, ht⟩ := ha.feas.tab
  have hd := ha.d hs
  rcases ent_spec (p := fun j => decide ((drS (rF p) s i).T i j ≠ 0)) (F := rF p) with ⟨q1, _⟩ | ⟨e', q1, q2, q3, _⟩
  · have he : ent (fun j => decide ((drS (rF p) s i).T i j ≠ 0)) (rF p) = e := he
    omega
  have he : ent (fun j => decide ((drS (rF p) s i).T i j ≠ 0)) (rF p) = e := he
  obtain rfl : e' = e := by omega
  have heR : e' < rR p + 1 := by unfold rF at q1; unfold rR; omega
  have hne : (drS (rF p) s i).T i e' ≠ 0 := by simpa using q3
  refine ⟨⟨hi, heR, hd.1, hd.2, fun a j ha' hj => ?_, fun j hj => ha.T hs hi hj, fun a j ha' hj hai => ?_⟩, hne⟩
  · have ha' : a < p.m + 1 := ha'
    by_cases e : a = p.m
    · subst e
      exact Nat.le_trans (ha.L hp hs (fun j => artC_le _ _ j _ (fcs_pos p 0)) hj) (by decide)
    · exact Nat.le_trans (ha.T hs (by omega) hj) (by decide)
  · have ha' : a < p.m + 1 := ha'
    by_cases e : a = p.m
    · subst e
      exact ⟨_, cr_mul ht ha.cr hi heR hj⟩
    · exact ⟨_, (ht.exact hi heR (by omega) hj hai).symm⟩
/-- The table with the second phase's last row. -/
def s2T (p : Pm) (s : Tabl) : Tabl := ⟨fun i j => if i < p.m then s.T i j else rc p.m (cqP p) s j, s.b, s.d⟩
theorem s2_rs (h : RS p c s) : RS p (cqP p) (s2T p s) := by
  have hT : ∀ i j, i < p.m → j < rR p + 1 → (s2T p s).T i j = s.T i j := fun i j hi _ => if_pos hi
  refine ⟨feas_congr h.feas hT rfl rfl, fun j hj => ?_⟩
  rw [rc_congr hT rfl rfl hj]
  exact if_neg (Nat.lt_irrefl _)
theorem s2_driven (hD : Driven (rA p) p.m (rF p) s p.m) : Driven (rA p) p.m (rF p) (s2T p s) p.m := driven_congr hD (fun i j hi _ => if_pos hi) rfl rfl
theorem cq_R (p : Pm) : cqP p (rR p) = 0 := by
  unfold cqP rR
  rw [if_neg (by omega)]
theorem leR_ok (hp : PmOk p) (h : RS p (cqP p) s) (hD : Driven (rA p) p.m (rF p) s p.m) (hE : phE p.m (rF p) (cqP p) s < 0) : LeR p 0 (rn (0 - s.T p.m (rR p)) s.d.toNat) (rd (0 - s.T p.m (rR p)) s.d.toNat : Nat) := by
  obtain ⟨g, ht⟩ := h.feas.tab
  obtain ⟨y1, y2⟩ := (rform p).dual ht (cqP p) (fun j hj _ => cq_hi hp j hj) (phE_neg hE)
  have x1 := (rform p).prim hD.feas hD.noart
  have x2 := (rform p).pval hD.feas (c := cqP p) (fun j hj => cq_lo j hj) (fun j hj _ => cq_hi hp j hj)
  have hR := cr_R h (cq_R p)
  have hV : 0 - s.T p.m (rR p) = wsum p.m (cqP p) s (rR p) := by omega
  rw [hV]
  refine .ok _ _ _ _ ht.pos x1 ⟨fun j hj => ?_, y1.sgn⟩ x2 y2
  have := y1.col j hj
  have e : cqP p j = p.co j := cq_lo j hj
  rw [e] at this
  exact this
theorem leR_free (hp : PmOk p) (hD : Driven (rA p) p.m (rF p) s p.m) (hE : ¬ phE p.m (rF p) (cqP p) s < 0) (hN : ¬ Goes p.m (rR p) (rF p) (cqP p) s) : LeR p 21 0 0 := by
  refine .free ?_
  obtain ⟨g, ht⟩ := hD.feas.tab
  rcases ent_spec (p := fun j => decide (rc p.m (cqP p) s j < 0)) (F := rF p) with ⟨q1, _⟩ | ⟨e, q1, q2, q3, _⟩
  · unfold phE at hE; omega
  have hee : (phE p.m (rF p) (cqP p) s).toNat = e := by unfold phE; rw [q2]; rfl
  have hno : ∀ k, k < p.m → s.T k e ≤ 0 := by
    rcases lv_spec (R := rR p) (s := s) (e := e) (q := p.m) fun i k hi hk => ht.inj hi hk with ⟨_, q6⟩ | ⟨r, _, q6, _⟩
    · exact q6
    · refine absurd ⟨by omega, ?_⟩ hN
      unfold phR
      rw [hee, q6]
      omega
  exact ⟨⟨_, _, (rform p).prim hD.feas hD.noart⟩, _, (rform p).ray hD.feas (fun k hk hb j hj => hD.stuck k hk hk hb j hj) (fun j hj => cq_lo j hj) (fun j hj _ => cq_hi hp j hj) q1 (show rc p.m (cqP p) s e < 0 by simpa using q3) hno⟩
end
end Go.Proofs.YtdeaaonppokgkaaGreat
namespace Go.Proofs.YtdeaaonppokgkaaGreat
open Go.RowKit Lp
theorem w_smallZ {x : Nat} (h : x < 18446744073709551616) : wV x = .a [.v (.int .u64 0), .v (.int .u64 (x : Nat))] := by
  have h1 : hN x = 0 := Nat.div_eq_of_lt h
  have h2 : lN x = x := Nat.mod_eq_of_lt h
  unfold wV
  rw [h1, h2]
  rfl
theorem rmake_pu (N : Int) (D : Nat) (hN : -9223372036854775808 ≤ N ∧ N ≤ 9223372036854775807) (hD0 : 0 < D) (hD : D ≤ 9223372036854775807) : Pu Tryz.prog 32 [.v (.int .i64 N), .v (.int .i64 (D : Nat))] [] (rsQ N D) := by
  have hm := made_pu N.natAbs D (decide (N < 0) != decide ((D : Int) < 0)) (by omega) (by omega) hD0
  rw [sgR_rsQ (N := N) (D := D) rfl rfl (fun _ => by rw [decide_eq_false (show ¬ (D : Int) < 0 by omega)]; simp)] at hm
  have sa := rsize_pu N (by omega)
  have sc := rsize_pu (D : Int) (by omega)
  rw [Int.natAbs_natCast] at sc
  rw [w_smallZ (show N.natAbs < 18446744073709551616 by omega), w_smallZ (show D < 18446744073709551616 by omega)] at hm
  obtain ⟨rn0, rd0, re0, hR⟩ : ∃ n d e : Int, rsQ N D = .t [frV n d, .v (.int .i64 e)] := ⟨_, _, _, rfl⟩
  rw [hR] at hm ⊢
  refine pu_of_ex true [] mixed Tryz.call32 Tryz.func32 rfl Tryz.ntmps32 Tryz.results32 (by decide +kernel) rfl rfl rfl ?_
  refine sxq ?_
  try with_reducible exact trivial
  refine sp_c sa rfl [] ?_
  refine sxq ?_
  try with_reducible exact trivial
  refine sp_c sc rfl [] ?_
  refine sxq ?_
  try with_reducible exact trivial
  refine sp_call hm rfl [] rfl ?_ ?_ ?_
  · refine sxq ?_
    try with_reducible exact trivial
    try trivial
  · refine sxq ?_
    try with_reducible exact trivial
  refine sxq ?_
  try with_reducible exact trivial
def zF : Ob := ⟨27, false, .st [.v (.int .i64 0), .v (.int .i64 0)]⟩
attribute [push_cast] zF
/-- The last row while it is made anew. -/
def mid (p : Pm) (s : Tabl) (k i j : Nat) : Int := bif i == p.m && decide (j < k) then rc p.m (cqP p) s j else s.T i j
theorem mid_zero (p : Pm) (s : Tabl) (i j : Nat) : mid p s 0 i j = s.T i j := by simp [mid]
theorem mid_lo (p : Pm) (s : Tabl) (k : Nat) {i : Nat} (j : Nat) (h : i < p.m) : mid p s k i j = s.T i j := by
  unfold mid
  rw [beq_eq_false_iff_ne.2 (by omega)]
  rfl
theorem mid_set (p : Pm) (s : Tabl) (k i j : Nat) : (bif i == p.m && j == k then rc p.m (cqP p) s k else mid p s k i j) = mid p s (k + 1) i j := by
  unfold mid
  by_cases h : i = p.m <;> by_cases h2 : j = k
  · subst h h2; simp
  · subst h; simp only [beq_self_eq_true, Bool.true_and, beq_eq_false_iff_ne.2 h2, cond_false]; rw [show decide (j < k + 1) = decide (j < k) by rw [decide_eq_decide]; omega]
  · simp only [beq_eq_false_iff_ne.2 h, Bool.false_and, cond_false]
  · simp only [beq_eq_false_iff_ne.2 h, Bool.false_and, cond_false]
theorem mid_all (p : Pm) (s : Tabl) {N i j : Nat} (hi : i < p.m + 1) (hj : j < N) : mid p s N i j = (s2T p s).T i j := by
  unfold mid
  show _ = if i < p.m then s.T i j else rc p.m (cqP p) s j
  by_cases h : i = p.m
  · rw [if_neg (by omega), h, beq_self_eq_true, decide_eq_true hj]; rfl
  · rw [if_pos (by omega), beq_eq_false_iff_ne.2 h]; rfl
def nW (p : Pm) (s : Tabl) (k i : Nat) : Int := cqP p k * s.d - sm i fun q => cqP p (s.b q) * s.T q k
theorem nW_succ (p : Pm) (s : Tabl) (k i : Nat) : nW p s k (i + 1) = nW p s k i - cqP p (s.b i) * s.T i k := by
  unfold nW
  rw [sm]
  omega
theorem nW_zero (p : Pm) (s : Tabl) (k : Nat) : nW p s k 0 = cqP p k * s.d := by
  unfold nW
  rw [sm]
  omega
theorem nW_le {p : Pm} {c : Nat → Int} {s : Tabl} (hs : Sm p) (h : RS p c s) {k : Nat} (hk : k < rR p + 1) {i : Nat} : i ≤ p.m → (nW p s k i).natAbs ≤ (i + 1) * 536870912 ∧ (i < p.m → (cqP p (s.b i) * s.T i k).natAbs ≤ 536870912) := by
  obtain ⟨g, ht⟩ := h.feas.tab
  have key : i < p.m → (cqP p (s.b i) * s.T i k).natAbs ≤ 536870912 := fun hi => by
    rw [Int.natAbs_mul]
    exact Nat.le_trans (Nat.mul_le_mul (cqP_le p _) ((rform p).cell_le ht hi hk)) hs.all
  induction i with
  | zero =>
    intro _
    rw [nW_zero]
    refine ⟨?_, key⟩
    rw [Int.natAbs_mul]
    have := Nat.le_trans (Nat.mul_le_mul (cqP_le p k) ((rform p).den_le ht)) hs.all
    omega
  | succ i ih =>
    intro hi
    have key2 : (cqP p (s.b i) * s.T i k).natAbs ≤ 536870912 := by
      rw [Int.natAbs_mul]
      exact Nat.le_trans (Nat.mul_le_mul (cqP_le p _) ((rform p).cell_le ht (show i < p.m by omega) hk)) hs.all
    have h1 := (ih (fun _ => key2) (by omega)).1
    rw [nW_succ]
    exact ⟨by omega, key⟩
set_option maxHeartbeats 16000000 in
theorem rleast_sp (p : Pm) (hp : PmOk p) (hs : Sm p) : Sp Tryz.prog 11 [svP p] (obP p) (fun r H => (∃ e N D, LeR p e N D ∧ r = .t [frV N D, .v (.int .i64 e)]) ∧ H = obP p) := by
  have hn := hp.n
  have hm := hp.m
  have hnc := hp.nc
  have hF : rF p = p.n + p.m := rfl
  have hR : rR p = p.n + p.m + p.m := rfl
  refine sp_weak ?_
  refine sp_of_ex true [] mixed Tryz.call11 Tryz.func11 rfl Tryz.ntmps11 Tryz.results11 (by decide +kernel) rfl ?_
  refine sxq ?_
  try with_reducible exact trivial
  refine sp_at (rbegin_sp p hp) [0, 1, 2] (by kernel_rfl) ?_ ?_ ?_
  · refine sxq ?_
    try with_reducible exact trivial
  · refine sxq ?_
    try with_reducible exact trivial
  rintro _ _ ⟨⟨m', F', cc, bc⟩, e1, e2, rfl, rfl⟩
  simp only at e1 e2
  subst e1 e2
  have hRq : (Rm.R ⟨p.m, rF p, cc, bc⟩) = rR p := rfl
  have h0 := fT_rs p
  obtain ⟨K1, a1, a2, _, a4⟩ := run_ok hp hs cc bc h0 (fun j => artC_le _ _ j _ (fcs_pos p 0)) (art_R p)
  have hrun := rrun_sp ⟨p.m, rF p, cc, bc⟩ (artC (rF p) p.m) (fT p) K1 a1
  have b1 := a2 K1 (Nat.le_refl _)
  have hd0 : (fT p).d = 1 := rfl
  rw [hd0] at hrun
  simp only [hRq] at hrun
  obtain ⟨s1, hs1⟩ : ∃ s1, s1 = phS p.m (rR p) (rF p) (artC (rF p) p.m) (fT p) K1 := ⟨_, rfl⟩
  rw [← hs1] at hrun b1 a4
  have hL1 := b1.L hp hs (fun j => artC_le _ _ j _ (fcs_pos p 0)) (j := rR p) (by omega)
  simp only [push_cast, ↓branch_true, ↓branch_false, Nat.reduceBEq, Nat.reduceAdd, Nat.reduceMul, Nat.reduceSub, Int.reduceToNat, reduceCtorEq, Int.reduceAdd, Int.reduceEq, Int.reduceLE, Int.reduceLT, Nat.reduceLT, Nat.reduceLeDiff, hRq]
  refine sp_at hrun [5, 6, 7] (by kernel_rfl) ?_ ?_ ?_
  · refine sxq ?_
    try with_reducible exact trivial
  · simp only [push_cast, ↓branch_true, ↓branch_false, Nat.reduceBEq, Nat.reduceAdd, Nat.reduceMul, Nat.reduceSub, Int.reduceToNat, reduceCtorEq, Int.reduceAdd, Int.reduceEq, Int.reduceLE, Int.reduceLT, Nat.reduceLT, Nat.reduceLeDiff, hRq]
  rintro _ _ ⟨rfl, rfl⟩
  have eR : ((rR p : Nat) : Int) + 1 - 1 = (rR p : Nat) := by omega
  have em : ((p.m : Nat) : Int) + 1 - 1 = (p.m : Nat) := by omega
  have eR1 : (((rR p : Nat) : Int) + 1).toNat = rR p + 1 := by omega
  simp only [push_cast, ↓branch_true, ↓branch_false, Nat.reduceBEq, Nat.reduceAdd, Nat.reduceMul, Nat.reduceSub, Int.reduceToNat, reduceCtorEq, Int.reduceAdd, Int.reduceEq, Int.reduceLE, Int.reduceLT, Nat.reduceLT, Nat.reduceLeDiff, hRq, eR, em, Int.toNat_natCast]
  repeat (with_reducible refine And.intro (by omega) ?_)
  refine ⟨fun c1 => ?_, fun c1 => ?_⟩
  · refine ⟨_, _, [0, 1, 2], ?_, by kernel_rfl, ?_, ⟨22, 0, 0, .gap _ (gapR b1 a4 (by omega)), rfl⟩, rfl⟩
    · refine sxq ?_
      try with_reducible exact trivial
    · refine sxq ?_
      try with_reducible exact trivial
  have hD0 := noartR b1 c1
  obtain ⟨o1, o2⟩ := out_ok hp hs cc bc b1 hD0
  have hout := rout_sp ⟨p.m, rF p, cc, bc⟩ s1 o1
  have b2 := o2 p.m (Nat.le_refl _)
  have hD2 := drive hD0 p.m (Nat.le_refl _)
  simp only at hout
  obtain ⟨s2, hs2⟩ : ∃ s2, s2 = drS (rF p) s1 p.m := ⟨_, rfl⟩
  rw [← hs2] at hout b2 hD2
  refine sp_at hout [5, 6, 7] (by kernel_rfl) ?_ ?_ ?_
  · refine sxq ?_
    try with_reducible exact trivial
  · simp only [push_cast, ↓branch_true, ↓branch_false, Nat.reduceBEq, Nat.reduceAdd, Nat.reduceMul, Nat.reduceSub, Int.reduceToNat, reduceCtorEq, Int.reduceAdd, Int.reduceEq, Int.reduceLE, Int.reduceLT, Nat.reduceLT, Nat.reduceLeDiff, hRq]
  rintro _ _ ⟨rfl, rfl⟩
  simp only [push_cast, ↓branch_true, ↓branch_false, Nat.reduceBEq, Nat.reduceAdd, Nat.reduceMul, Nat.reduceSub, Int.reduceToNat, reduceCtorEq, Int.reduceAdd, Int.reduceEq, Int.reduceLE, Int.reduceLT, Nat.reduceLT, Nat.reduceLeDiff, hRq, eR, em, eR1, Int.toNat_natCast]
  repeat (with_reducible refine And.intro (by omega) ?_)
  refine sp_at (copyI_sp p.n p.nc (rR p + 1) (rR p + 1) p.co (fun _ => 0) (by omega) (by omega)) [9, 0] (by kernel_rfl) ?_ ?_ ?_
  · refine sxq ?_
    try with_reducible exact trivial
  · refine sxq ?_
    try with_reducible exact trivial
  rintro _ _ ⟨rfl, rfl⟩
  have hck : kpF p.co (fun _ => 0) p.n = cqP p := funext fun j => rfl
  simp only [push_cast, ↓branch_true, ↓branch_false, Nat.reduceBEq, Nat.reduceAdd, Nat.reduceMul, Nat.reduceSub, Int.reduceToNat, reduceCtorEq, Int.reduceAdd, Int.reduceEq, Int.reduceLE, Int.reduceLT, Nat.reduceLT, Nat.reduceLeDiff, hck]
  refine tr_loop mixed (by kernel_rfl) (fun (k : Nat) => [(9, .v (.int .i64 k)), (8, .s 9 0 0 (rR p + 1) (rR p + 1) 1), (7, .v (.int .i64 (rR p : Nat))), (6, .v (.int .i64 p.m)), (4, .p 8 0 0), (3, .v (.int .i64 0)), (2, .p 4 0 0)])
    (fun k => obP p ++ [bxP p, zF, oCl 6 (p.m + 1) (rR p + 1) cc, oCf (p.m + 1) (rR p + 1) (mid p s2 k), oI p.m bc (fun k => (s2.b k : Nat)), ⟨70, false, .st [.s 5 0 0 (p.m + 1) cc 1, .s 7 0 0 p.m bc 1, .v (.int .i64 s2.d), .v (.int .i64 (rF p : Nat))]⟩, oI (rR p + 1) (rR p + 1) (cqP p)])
    (fun k => k ≤ rR p + 1) (fun k => rR p + 1 - k) 0 (Nat.zero_le _) (Mt.wk (rl := [0, 1, 2, 3, 4, 5, 6, 7, 8, 9]) ⟨by kernel_rfl, ?_, ?_⟩) ?_
  · refine sxq ?_
    try with_reducible exact trivial
  · simp only [push_cast, ↓branch_true, ↓branch_false, Nat.reduceBEq, Nat.reduceAdd, Nat.reduceMul, Nat.reduceSub, Int.reduceToNat, reduceCtorEq, Int.reduceAdd, Int.reduceEq, Int.reduceLE, Int.reduceLT, Nat.reduceLT, Nat.reduceLeDiff, mid_zero]
  intro k hk
  refine sxq ?_
  try with_reducible exact trivial
  refine ⟨fun c2 => ?_, fun c2 => ?_⟩
  · have hkR : k < rR p + 1 := by omega
    have w0 := nW_le hs b2 hkR (i := 0) (by omega)
    rw [nW_zero] at w0
    repeat (with_reducible refine And.intro (by omega) ?_)
    refine tr_loop0 mixed (by kernel_rfl) (fun (i : Nat) => [(11, .v (.int .i64 i)), (10, .v (.int .i64 (nW p s2 k i))), (9, .v (.int .i64 k)), (8, .s 9 0 0 (rR p + 1) (rR p + 1) 1), (7, .v (.int .i64 (rR p : Nat))), (6, .v (.int .i64 p.m)), (4, .p 8 0 0), (3, .v (.int .i64 0)), (2, .p 4 0 0)]) (fun i => i ≤ p.m) (fun i => p.m - i) 0 (Nat.zero_le _) ?_ ?_
    · refine sxq ?_
      try with_reducible exact trivial
      exact vi (nW_zero p s2 k)
    intro i hi
    have w1 := nW_le hs b2 hkR (i := i) hi
    have hsu := nW_succ p s2 k i
    refine sxq ?_
    try with_reducible exact trivial
    refine ⟨fun c3 => ?_, fun c3 => ?_⟩
    · have him : i < p.m := by omega
      have hbs := b2.feas.bas i him
      have w2 := w1.2 him
      have w3 := nW_le hs b2 hkR (i := i + 1) him
      have hml := mid_lo p s2 k k him
      rw [hsu] at w3
      repeat (with_reducible refine And.intro (by omega) ?_)
      rw [hml]
      repeat (with_reducible refine And.intro (by omega) ?_)
      refine lp0_normal (i + 1) (by omega) (by omega) ?_
      simp only [push_cast, ↓branch_true, ↓branch_false, Nat.reduceBEq, Nat.reduceAdd, Nat.reduceMul, Nat.reduceSub, Int.reduceToNat, reduceCtorEq, Int.reduceAdd, Int.reduceEq, Int.reduceLE, Int.reduceLT, Nat.reduceLT, Nat.reduceLeDiff, hsu]
    · obtain rfl : i = p.m := by omega
      have hnw : nW p s2 k p.m = rc p.m (cqP p) s2 k := rfl
      have hset := mid_set p s2 k
      rw [hnw]
      repeat (with_reducible refine And.intro (by omega) ?_)
      refine lpK_normal (k + 1) [0, 1, 2, 3, 4, 5, 6, 7, 8, 9] (by omega) (by omega) (by kernel_rfl) ?_ ?_
      · refine sxq ?_
        try with_reducible exact trivial
      · simp only [push_cast, ↓branch_true, ↓branch_false, Nat.reduceBEq, Nat.reduceAdd, Nat.reduceMul, Nat.reduceSub, Int.reduceToNat, reduceCtorEq, Int.reduceAdd, Int.reduceEq, Int.reduceLE, Int.reduceLT, Nat.reduceLT, Nat.reduceLeDiff, hset]
        exact fun _ _ _ _ => mt_cond
  · obtain rfl : k = rR p + 1 := by omega
    have h3 := s2_rs b2
    have hD3 := s2_driven hD2
    obtain ⟨K2, r1, r2, r3, r4⟩ := run_ok hp hs cc bc h3 (cqP_le p) (cq_R p)
    have hrun2 := rrun_sp ⟨p.m, rF p, cc, bc⟩ (cqP p) (s2T p s2) K2 r1
    have hD4 := driven_phase hD3 r3 K2 (Nat.le_refl _)
    have b4 := r2 K2 (Nat.le_refl _)
    simp only [hRq] at hrun2
    have hd3 : (s2T p s2).d = s2.d := rfl
    have hb3 : (s2T p s2).b = s2.b := rfl
    rw [hd3, hb3] at hrun2
    change Driven (rA p) p.m (rF p) (phS p.m (rR p) (rF p) (cqP p) (s2T p s2) K2) p.m at hD4
    obtain ⟨s4, hs4⟩ : ∃ s4, s4 = phS p.m (rR p) (rF p) (cqP p) (s2T p s2) K2 := ⟨_, rfl⟩
    rw [← hs4] at hrun2 b4 r4 hD4
    refine sp_at hrun2 [5, 6, 7] (by kernel_rfl) ?_ ?_ ?_
    · refine sxq ?_
      try with_reducible exact trivial
    · simp only [push_cast, ↓branch_true, ↓branch_false, Nat.reduceBEq, Nat.reduceAdd, Nat.reduceMul, Nat.reduceSub, Int.reduceToNat, reduceCtorEq, Int.reduceAdd, Int.reduceEq, Int.reduceLE, Int.reduceLT, Nat.reduceLT, Nat.reduceLeDiff, hRq]
      exact fun i hi j hj => congrArg (Value.int .i64) (mid_all p s2 hi hj).symm
    rintro _ _ ⟨rfl, rfl⟩
    cases hE : decide (phE p.m (rF p) (cqP p) s4 < 0) with
    | false =>
      have hE := of_decide_eq_false hE
      simp only [push_cast, ↓branch_true, ↓branch_false, Nat.reduceBEq, Nat.reduceAdd, Nat.reduceMul, Nat.reduceSub, Int.reduceToNat, reduceCtorEq, Int.reduceAdd, Int.reduceEq, Int.reduceLE, Int.reduceLT, Nat.reduceLT, Nat.reduceLeDiff, hRq]
      refine ⟨_, _, [0, 1, 2], ?_, by kernel_rfl, ?_, ⟨21, 0, 0, leR_free hp hD4 hE r4, rfl⟩, rfl⟩
      · refine sxq ?_
        try with_reducible exact trivial
      · refine sxq ?_
        try with_reducible exact trivial
    | true =>
      have hE := of_decide_eq_true hE
      have hdd := b4.d hs
      have hLL := b4.L hp hs (cqP_le p) (j := rR p) (by omega)
      have hle := leR_ok hp b4 hD4 hE
      obtain ⟨D4, hD4e⟩ : ∃ D4 : Nat, s4.d = D4 := ⟨s4.d.toNat, by omega⟩
      rw [hD4e, Int.toNat_natCast] at hle
      have hmk := rmake_pu (0 - s4.T p.m (rR p)) D4 (by omega) (by omega) (by omega)
      rw [rsQ_ok (by omega) (by
        unfold OkQ rd
        rw [rn_abs]
        exact ⟨Nat.le_trans (Nat.div_le_self _ _) (by omega), Nat.le_trans (Nat.div_le_self _ _) (by omega)⟩)] at hmk
      simp only [push_cast, ↓branch_true, ↓branch_false, Nat.reduceBEq, Nat.reduceAdd, Nat.reduceMul, Nat.reduceSub, Int.reduceToNat, reduceCtorEq, Int.reduceAdd, Int.reduceEq, Int.reduceLE, Int.reduceLT, Nat.reduceLT, Nat.reduceLeDiff, hRq]
      rw [hD4e]
      repeat (with_reducible refine And.intro (by omega) ?_)
      refine qc_c (hmk) rfl [] ?_
      refine sxq ?_
      try with_reducible exact trivial
      refine ⟨_, _, [0, 1, 2], ?_, by kernel_rfl, ?_, ⟨0, _, _, hle, rfl⟩, rfl⟩
      · refine sxq ?_
        try with_reducible exact trivial
      · refine sxq ?_
        try with_reducible exact trivial
end Go.Proofs.YtdeaaonppokgkaaGreat
