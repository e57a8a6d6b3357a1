/- Contracts: the reference's small words: size, copyInto, factors, products. -/
import Derived.Test.YtdeaaonppokgkaaGreatZB
import Derived.Test.YtdeaaonppokgkaaGreatGB
set_option maxRecDepth 100000
set_option linter.unusedSimpArgs false
set_option linter.unusedVariables false
namespace Go.Proofs.YtdeaaonppokgkaaGreat
open Go.RowKit Lp
theorem rsz_pu (n : Int) (h : -9223372036854775808 < n ∧ n ≤ 9223372036854775807) : Pu Tryz.prog 63 [.v (.int .i64 n)] [] (.v (.int .i64 (n.natAbs : Nat))) := by
  refine pu_of_ex true [] mixed Tryz.call63 Tryz.func63 rfl Tryz.ntmps63 Tryz.results63 (by decide +kernel) rfl rfl rfl ?_
  refine sxq ?_
  try with_reducible exact trivial
  repeat (with_reducible refine And.intro (by omega) ?_)
  exact vi (by omega)
/-- Half way of a copy. -/
def kpF (g f : Nat → Int) (i k : Nat) : Int := if k < i then g k else f k
theorem kpF_set (g f : Nat → Int) (i k : Nat) : (bif k == i then g i else kpF g f i k) = kpF g f (i + 1) k := by
  unfold kpF
  by_cases h : k = i
  · subst h
    rw [beq_self_eq_true, if_neg (Nat.lt_irrefl _), if_pos (Nat.lt_succ_self _)]
    rfl
  · have : (k == i) = false := by simpa using h
    rw [this]
    show (if k < i then _ else _) = _
    by_cases h2 : k < i
    · rw [if_pos h2, if_pos (by omega)]
    · rw [if_neg h2, if_neg (by omega)]
theorem copyF_sp (p : Pm) (t N c : Nat) (f : Nat → Int) (ht : t < p.m) (hl : p.ln t ≤ N) (hN : N ≤ 1000000) : Sp Tryz.prog 31 [.s 0 0 0 N c 1, .s 1 t 0 (p.ln t) (p.cp t) 1] [oI N c f, rAf p] (fun r H => r = .t [] ∧ H = [oI N c (kpF (p.a t) f (p.ln t)), rAf p]) := by
  have hfz := p.fzm
  refine sp_weak ?_
  refine sp_of_ex true [] mixed Tryz.call31 Tryz.func31 rfl Tryz.ntmps31 Tryz.results31 (by decide +kernel) rfl ?_
  refine sxq ?_
  try with_reducible exact trivial
  refine tr_loop mixed (by kernel_rfl) (fun (i : Nat) => [(4, .v (.int .i64 i)), (0, .s 0 0 0 N c 1), (1, .s 1 t 0 (p.ln t) (p.cp t) 1)])
    (fun i => [oI N c (kpF (p.a t) f i), rAf p]) (fun i => i ≤ p.ln t) (fun i => p.ln t - i) 0 (Nat.zero_le _) (Mt.wk (rl := [0, 1]) ⟨by kernel_rfl, ?_, ?_⟩) ?_
  · refine sxq ?_
    try with_reducible exact trivial
  · refine sxq ?_
    try with_reducible exact trivial
    exact fun _ _ _ _ => rfl
  intro i hi
  have hset := kpF_set (p.a t) f i
  refine sxq ?_
  try with_reducible exact trivial
  refine ⟨fun h => ?_, fun h => ?_⟩
  · repeat (with_reducible refine And.intro (by omega) ?_)
    refine lpK_normal (i + 1) [0, 1] (by omega) (by omega) (by kernel_rfl) ?_ ?_
    · refine sxq ?_
      try with_reducible exact trivial
    · refine sxq ?_
      try with_reducible exact trivial
      intro x hx k hk
      obtain rfl : x = 0 := by omega
      refine ⟨?_, mt_cond⟩
      rw [← hset k]
      simp
  · obtain rfl : i = p.ln t := by omega
    refine ⟨_, _, [0, 1], ?_, by kernel_rfl, ?_, rfl, rfl⟩
    · refine sxq ?_
      try with_reducible exact trivial
    · refine sxq ?_
      try with_reducible exact trivial
theorem copyI_sp (n nc N c : Nat) (g f : Nat → Int) (hl : n ≤ N) (hN : N ≤ 1000000) : Sp Tryz.prog 31 [.s 0 0 0 N c 1, .s 1 0 0 n nc 1] [oI N c f, rI n nc g] (fun r H => r = .t [] ∧ H = [oI N c (kpF g f n), rI n nc g]) := by
  refine sp_weak ?_
  refine sp_of_ex true [] mixed Tryz.call31 Tryz.func31 rfl Tryz.ntmps31 Tryz.results31 (by decide +kernel) rfl ?_
  refine sxq ?_
  try with_reducible exact trivial
  refine tr_loop mixed (by kernel_rfl) (fun (i : Nat) => [(4, .v (.int .i64 i)), (0, .s 0 0 0 N c 1), (1, .s 1 0 0 n nc 1)])
    (fun i => [oI N c (kpF g f i), rI n nc g]) (fun i => i ≤ n) (fun i => n - i) 0 (Nat.zero_le _) (Mt.wk (rl := [0, 1]) ⟨by kernel_rfl, ?_, ?_⟩) ?_
  · refine sxq ?_
    try with_reducible exact trivial
  · refine sxq ?_
    try with_reducible exact trivial
    exact fun _ _ _ _ => rfl
  intro i hi
  have hset := kpF_set g f i
  refine sxq ?_
  try with_reducible exact trivial
  refine ⟨fun h => ?_, fun h => ?_⟩
  · repeat (with_reducible refine And.intro (by omega) ?_)
    refine lpK_normal (i + 1) [0, 1] (by omega) (by omega) (by kernel_rfl) ?_ ?_
    · refine sxq ?_
      try with_reducible exact trivial
    · refine sxq ?_
      try with_reducible exact trivial
      intro x hx k hk
      obtain rfl : x = 0 := by omega
      refine ⟨?_, mt_cond⟩
      rw [← hset k]
      simp
  · obtain rfl : i = n := by omega
    refine ⟨_, _, [0, 1], ?_, by kernel_rfl, ?_, rfl, rfl⟩
    · refine sxq ?_
      try with_reducible exact trivial
    · refine sxq ?_
      try with_reducible exact trivial
theorem prd_le {f : Nat → Nat} (h0 : ∀ k, 0 < f k) {k n : Nat} (h : k ≤ n) : prd k f ≤ prd n f := by
  induction n with
  | zero => obtain rfl : k = 0 := by omega
            exact Nat.le_refl _
  | succ n ih =>
    by_cases e : k = n + 1
    · rw [e]; exact Nat.le_refl _
    · exact Nat.le_trans (ih (by omega)) (Nat.le_mul_of_pos_right _ (h0 n))
set_option maxHeartbeats 1000000 in
theorem rprod_pu (n cap most : Nat) (mo : Int) (emo : mo = (most : Nat)) (f : Nat → Nat) (h0 : ∀ k, 0 < f k) (hf : ∀ k, k < n → f k ≤ 9000000000000000000) (hn : n ≤ 1000000) (hmo : 0 < most ∧ most ≤ 9000000000000000000) : Pu Tryz.prog 26 [.s 0 0 0 n cap 1, .v (.int .i64 mo)] [rI n cap fun k => (f k : Nat)]
    (.t [.v (.int .i64 (if prd n f ≤ most then (prd n f : Nat) else 0)), .v (.bool (decide (prd n f ≤ most)))]) := by
  subst emo
  refine pu_of_ex true [] mixed Tryz.call26 Tryz.func26 rfl Tryz.ntmps26 Tryz.results26 (by decide +kernel) rfl rfl rfl ?_
  refine sxq ?_
  try with_reducible exact trivial
  refine tr_loop0 mixed (by kernel_rfl) (fun (i : Nat) => [(7, .v (.int .i64 i)), (6, .v (.int .i64 (prd i f : Nat))), (0, .s 0 0 0 n cap 1), (1, .v (.int .i64 (most : Nat)))]) (fun i => i ≤ n ∧ prd i f ≤ most) (fun i => n - i) 0 ⟨Nat.zero_le _, hmo.1⟩ ?_ ?_
  · refine sxq ?_
    try with_reducible exact trivial
    rfl
  rintro i ⟨hi, hpi⟩
  have hpos : 0 < prd i f := prd_pos fun k _ => h0 k
  have hdv : ((most : Nat) : Int).tdiv ((prd i f : Nat) : Int) = ((most / prd i f : Nat) : Int) := (Int.ofNat_tdiv _ _).symm
  have hlt := Nat.div_lt_iff_lt_mul (x := most) (y := f i) hpos
  have hle := Nat.div_le_self most (prd i f)
  have hs : prd (i + 1) f = prd i f * f i := rfl
  refine sxq ?_
  try with_reducible exact trivial
  refine ⟨fun h => ?_, fun h => ?_⟩
  · have hin : i < n := by omega
    rw [hdv]
    generalize most / prd i f = Q at *
    repeat (with_reducible refine And.intro (by omega) ?_)
    refine ⟨fun h1 => ?_, fun h1 => ?_⟩
    · have h2 := hlt.1 (by omega)
      have h3 := prd_le h0 (k := i + 1) (n := n) (by omega)
      rw [hs, Nat.mul_comm] at h3
      rw [if_neg (by omega), decide_eq_false (by omega)]
    · have h2 : f i * prd i f ≤ most := Nat.not_lt.1 fun h => by have := hlt.2 h; omega
      rw [Nat.mul_comm] at h2
      have hcast : ((prd i f : Nat) : Int) * ((f i : Nat) : Int) = ((prd (i + 1) f : Nat) : Int) := by rw [hs, Int.natCast_mul]
      rw [← hs] at h2
      rw [hcast]
      repeat (with_reducible refine And.intro (by omega) ?_)
      refine lp0_normal (i + 1) ⟨by omega, h2⟩ (by omega) ?_
      refine sxq ?_
      try with_reducible exact trivial
  · obtain rfl : i = n := by omega
    rw [if_pos hpi, decide_eq_true hpi]
set_option maxHeartbeats 4000000 in
theorem rfac_sp (p : Pm) (hp : PmOk p) : Sp Tryz.prog 27 [svP p] (obP p) (fun r H => ∃ cap, p.m + 1 ≤ cap ∧ r = .s 3 0 0 (p.m + 1) cap 1 ∧ H = obP p ++ [oI (p.m + 1) cap (fun k => (fcs p k : Nat))]) := by
  have hn := hp.n
  have hm := hp.m
  have hfz := p.fzm
  have hf0 := fcs_le hp (t := 0) (by omega)
  have hf00 : fcs p 0 = szs p.co 0 p.n := rfl
  refine sp_weak ?_
  refine sp_of_ex true [] mixed Tryz.call27 Tryz.func27 rfl Tryz.ntmps27 Tryz.results27 (by decide +kernel) rfl ?_
  refine sxq ?_
  try with_reducible exact trivial
  refine tr_loop0 mixed (by kernel_rfl) (fun (i : Nat) => [(4, .v (.int .i64 i)), (3, .v (.int .i64 (szs p.co 0 i : Nat))), (1, .p 3 0 0)]) (fun i => i ≤ p.n) (fun i => p.n - i) 0 (Nat.zero_le _) ?_ ?_
  · refine sxq ?_
    try with_reducible exact trivial
    rfl
  intro i hi
  have hs : szs p.co 0 (i + 1) = szs p.co 0 i + (p.co i).natAbs := rfl
  have hmo := fun k hk => szs_mono p.co 0 (k := k) (n := p.n) hk
  refine sxq ?_
  try with_reducible exact trivial
  refine ⟨fun h => ?_, fun h => ?_⟩
  · have hc := hp.co i (by omega)
    have h2 := hmo (i + 1) (by omega)
    repeat (with_reducible refine And.intro (by omega) ?_)
    refine sp_c (rsz_pu (p.co i) (by omega)) rfl [] ?_
    refine sxq ?_
    try with_reducible exact trivial
    have hcast : ((szs p.co 0 i : Nat) : Int) + ((p.co i).natAbs : Nat) = ((szs p.co 0 (i + 1) : Nat) : Int) := by rw [hs]; omega
    rw [hcast]
    repeat (with_reducible refine And.intro (by omega) ?_)
    refine lp0_normal (i + 1) (by omega) (by omega) ?_
    refine sxq ?_
    try with_reducible exact trivial
  obtain rfl : i = p.n := by omega
  refine tr_loop mixed (by kernel_rfl) (fun (x : Nat × Nat) => [(6, .v (.int .i64 x.1)), (5, .s 4 0 0 (x.1 + 1) x.2 1), (1, .p 3 0 0)])
    (fun x => obP p ++ [⟨35, false, .st [.s 0 0 0 p.n p.nc 1, .s 1 0 0 p.m p.mc 3]⟩, oI (x.1 + 1) x.2 (fun k => (fcs p k : Nat))]) (fun x => x.1 ≤ p.m ∧ x.1 + 1 ≤ x.2) (fun x => p.m - x.1) (0, 1) ⟨Nat.zero_le _, Nat.le_refl _⟩ (Mt.wk (rl := [0, 1, 2, 3, 4]) ⟨by kernel_rfl, ?_, ?_⟩) ?_
  · refine sxq ?_
    try with_reducible exact trivial
  · refine sxq ?_
    try with_reducible exact trivial
    intro i _ k hk
    obtain rfl : k = 0 := by omega
    refine sxq ?_
    try with_reducible exact trivial
    rfl
  rintro ⟨t, oc⟩ ⟨q1, q2⟩
  simp only at q1 q2
  refine sxq ?_
  try with_reducible exact trivial
  refine ⟨fun h1 => ?_, fun h1 => ?_⟩
  · have htm : t < p.m := by omega
    have hb := hp.b t htm
    have hln := hp.ln t htm
    have hft := fcs_le hp (t := t + 1) (by omega)
    have hft0 : fcs p (t + 1) = szs (p.a t) (p.b t) p.n := rfl
    repeat (with_reducible refine And.intro (by omega) ?_)
    refine sp_c (rsz_pu (p.b t) (by omega)) rfl [] ?_
    refine sxq ?_
    try with_reducible exact trivial
    repeat (with_reducible refine And.intro (by omega) ?_)
    refine tr_loop0 mixed (by kernel_rfl) (fun (k : Nat) => [(8, .v (.int .i64 k)), (7, .v (.int .i64 (szs (p.a t) (p.b t) k : Nat))), (6, .v (.int .i64 t)), (5, .s 4 0 0 (t + 1) oc 1), (1, .p 3 0 0)]) (fun k => k ≤ p.n) (fun k => p.n - k) 0 (Nat.zero_le _) ?_ ?_
    · refine sxq ?_
      try with_reducible exact trivial
      exact vi (by show ((1 + (p.b t).natAbs : Nat) : Int) = _; omega)
    intro k hk
    have hs2 : szs (p.a t) (p.b t) (k + 1) = szs (p.a t) (p.b t) k + (p.a t k).natAbs := rfl
    have hmo2 := fun i hi => szs_mono (p.a t) (p.b t) (k := i) (n := p.n) hi
    refine sxq ?_
    try with_reducible exact trivial
    refine ⟨fun h2 => ?_, fun h2 => ?_⟩
    · have ha := hp.a t k htm (by omega)
      have h3 := hmo2 (k + 1) (by omega)
      repeat (with_reducible refine And.intro (by omega) ?_)
      refine sp_c (rsz_pu (p.a t k) (by omega)) rfl [] ?_
      refine sxq ?_
      try with_reducible exact trivial
      have hcast : ((szs (p.a t) (p.b t) k : Nat) : Int) + ((p.a t k).natAbs : Nat) = ((szs (p.a t) (p.b t) (k + 1) : Nat) : Int) := by rw [hs2]; omega
      rw [hcast]
      repeat (with_reducible refine And.intro (by omega) ?_)
      refine lp0_normal (k + 1) (by omega) (by omega) ?_
      refine sxq ?_
      try with_reducible exact trivial
    · obtain rfl : k = p.n := by omega
      refine Or.inr ⟨by omega, by omega, fun c2 hc2 => ?_⟩
      repeat (with_reducible refine And.intro (by omega) ?_)
      refine lpK_normal (t + 1, c2) [0, 1, 2, 3, 6] ⟨by simp only; omega, by simp only; omega⟩ (by simp only; omega) (by kernel_rfl) ?_ ?_
      · refine sxq ?_
        try with_reducible exact trivial
      · refine sxq ?_
        try with_reducible exact trivial
        exact lf3 (fun k => ((fcs p k : Nat) : Int))
  · obtain rfl : t = p.m := by omega
    refine ⟨_, _, [0, 1, 2, 4], ?_, by kernel_rfl, ?_, oc, q2, rfl, rfl⟩
    · refine sxq ?_
      try with_reducible exact trivial
    · refine sxq ?_
      try with_reducible exact trivial
/-- The greatest of the first numbers. -/
def mx0 (f : Nat → Nat) : Nat → Nat
  | 0 => 0
  | k + 1 => max (mx0 f k) (f k)
theorem mx0_ge (f : Nat → Nat) {i : Nat} : ∀ {k : Nat}, i < k → f i ≤ mx0 f k
  | k + 1, h => by
    rw [mx0]
    by_cases e : i = k
    · rw [e]; omega
    · have := mx0_ge f (i := i) (k := k) (by omega)
      omega
theorem mx0_le (f : Nat → Nat) {B : Nat} : ∀ {k : Nat}, (∀ i, i < k → f i ≤ B) → mx0 f k ≤ B
  | 0, _ => Nat.zero_le _
  | k + 1, h => by
    rw [mx0]
    have := mx0_le f (B := B) (k := k) fun i hi => h i (by omega)
    have := h k (by omega)
    omega
theorem fit_mx (p : Pm) : fitB p = (decide (prd (p.m + 1) (fcs p) ≤ 17592186044416) && decide (mx0 (fcs p) (p.m + 1) ≤ 144115188075855872 / prd (p.m + 1) (fcs p))) := by
  have hpos : 0 < prd (p.m + 1) (fcs p) := prd_pos fun k _ => fcs_pos p k
  rw [Bool.eq_iff_iff, fit_iff, Bool.and_eq_true, decide_eq_true_eq, decide_eq_true_eq, Nat.le_div_iff_mul_le hpos]
  constructor
  · intro h
    refine ⟨by rw [prd_all]; exact h.all, ?_⟩
    rw [← Nat.le_div_iff_mul_le hpos]
    refine mx0_le _ fun i hi => ?_
    rw [Nat.le_div_iff_mul_le hpos, Nat.mul_comm, prd_all]
    exact h.each i hi
  · rintro ⟨h1, h2⟩
    refine ⟨by rw [← prd_all]; exact h1, fun t ht => ?_⟩
    rw [← prd_all, Nat.mul_comm]
    exact Nat.le_trans (Nat.mul_le_mul_right _ (mx0_ge (fcs p) ht)) h2
def smB (p : Pm) : Bool := decide (prd (p.m + 1) (fcs p) ≤ 536870912)
set_option maxHeartbeats 2000000 in
theorem rsmall_sp (p : Pm) (hp : PmOk p) : Sp Tryz.prog 10 [svP p] (obP p) (fun r H => r = .v (.bool (smB p)) ∧ H = obP p) := by
  have hm := hp.m
  refine sp_weak ?_
  refine sp_of_ex true [] mixed Tryz.call10 Tryz.func10 rfl Tryz.ntmps10 Tryz.results10 (by decide +kernel) rfl ?_
  refine sxq ?_
  try with_reducible exact trivial
  refine sp_at (rfac_sp p hp) [0, 1, 2] (by kernel_rfl) ?_ ?_ ?_
  · refine sxq ?_
    try with_reducible exact trivial
  · refine sxq ?_
    try with_reducible exact trivial
  rintro _ _ ⟨cap, hcap, rfl, rfl⟩
  have hpr := rprod_pu (p.m + 1) cap 536870912 536870912 rfl (fcs p) (fcs_pos p) (fun k hk => by have := fcs_le hp hk; omega) (by omega) (by omega)
  refine sxq ?_
  try with_reducible exact trivial
  refine sp_c hpr rfl [4] ?_
  refine sxq ?_
  try with_reducible exact trivial
  refine ⟨_, _, [0, 1, 2], ?_, by kernel_rfl, ?_, rfl, rfl⟩
  · refine sxq ?_
    try with_reducible exact trivial
    rfl
  · refine sxq ?_
    try with_reducible exact trivial
set_option maxHeartbeats 2000000 in
theorem rfits_sp (p : Pm) (hp : PmOk p) : Sp Tryz.prog 25 [svP p] (obP p) (fun r H => r = .v (.bool (fitB p)) ∧ H = obP p) := by
  have hm := hp.m
  refine sp_weak ?_
  refine sp_of_ex true [] mixed Tryz.call25 Tryz.func25 rfl Tryz.ntmps25 Tryz.results25 (by decide +kernel) rfl ?_
  refine sxq ?_
  try with_reducible exact trivial
  refine sp_at (rfac_sp p hp) [0, 1, 2] (by kernel_rfl) ?_ ?_ ?_
  · refine sxq ?_
    try with_reducible exact trivial
  · refine sxq ?_
    try with_reducible exact trivial
  rintro _ _ ⟨cap, hcap, rfl, rfl⟩
  have hpr := rprod_pu (p.m + 1) cap 17592186044416 17592186044416 rfl (fcs p) (fcs_pos p) (fun k hk => by have := fcs_le hp hk; omega) (by omega) (by omega)
  refine sxq ?_
  try with_reducible exact trivial
  refine sp_c hpr rfl [4] ?_
  have hpos : 0 < prd (p.m + 1) (fcs p) := prd_pos fun k _ => fcs_pos p k
  have hfx := fit_mx p
  obtain ⟨P, hP⟩ : ∃ P, P = prd (p.m + 1) (fcs p) := ⟨_, rfl⟩
  rw [← hP] at hpos hfx ⊢
  have hmx : ∀ k, k < p.m + 1 → fcs p k ≤ 1100000000 := fun k hk => fcs_le hp hk
  refine sxq ?_
  try with_reducible exact trivial
  refine tr_loop0 mixed (by kernel_rfl) (fun (i : Nat) => [(7, .v (.int .i64 i)), (6, .v (.int .i64 (mx0 (fcs p) i : Nat))), (5, .v (.bool (decide (P ≤ 17592186044416)))), (4, .v (.int .i64 (if P ≤ 17592186044416 then (P : Nat) else 0))), (3, .s 4 0 0 (p.m + 1) cap 1)]) (fun i => i ≤ p.m + 1) (fun i => p.m + 1 - i) 0 (Nat.zero_le _) ?_ ?_
  · refine sxq ?_
    try with_reducible exact trivial
    rfl
  intro i hi
  have hs : mx0 (fcs p) (i + 1) = max (mx0 (fcs p) i) (fcs p i) := rfl
  refine sxq ?_
  try with_reducible exact trivial
  refine ⟨fun h => ?_, fun h => ?_⟩
  · repeat (with_reducible refine And.intro (by omega) ?_)
    have hx : max ((mx0 (fcs p) i : Nat) : Int) ((fcs p i : Nat) : Int) = ((mx0 (fcs p) (i + 1) : Nat) : Int) := by rw [hs]; omega
    refine lp0_normal (i + 1) (by omega) (by omega) ?_
    simp only [push_cast, ↓branch_true, ↓branch_false, Nat.reduceBEq, Nat.reduceAdd, Nat.reduceMul, Nat.reduceSub, Int.reduceToNat, reduceCtorEq, Int.reduceAdd, Int.reduceEq, Int.reduceLE, Int.reduceLT, Nat.reduceLT, Nat.reduceLeDiff, hx]
  · obtain rfl : i = p.m + 1 := by omega
    refine ⟨fun h1 => ?_, fun h1 => ?_⟩
    · rw [if_pos h1]
      have hdv : Int.tdiv 144115188075855872 ((P : Nat) : Int) = ((144115188075855872 / P : Nat) : Int) := (Int.ofNat_tdiv 144115188075855872 P).symm
      have hle := Nat.div_le_self 144115188075855872 P
      rw [hdv]
      rw [decide_eq_true h1, Bool.true_and] at hfx
      generalize 144115188075855872 / P = Q at *
      refine ⟨by omega, ⟨by omega, by omega⟩, _, _, [0, 1, 2], ?_, by kernel_rfl, ?_, rfl, rfl⟩
      · refine sxq ?_
        try with_reducible exact trivial
        rw [hfx]
        exact congrArg Value.bool (by rw [decide_eq_decide]; omega)
      · refine sxq ?_
        try with_reducible exact trivial
    · rw [decide_eq_false h1, Bool.false_and] at hfx
      refine ⟨_, _, [0, 1, 2], ?_, by kernel_rfl, ?_, rfl, rfl⟩
      · refine sxq ?_
        try with_reducible exact trivial
        rw [hfx]
      · refine sxq ?_
        try with_reducible exact trivial
end Go.Proofs.YtdeaaonppokgkaaGreat
