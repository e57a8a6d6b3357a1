/- BoundWhole: plain facts, and the reference's Ceil. -/
import Derived.Test.YtdeaaonppokgkaaBN
set_option maxRecDepth 100000
set_option linter.unusedSimpArgs false
set_option linter.unusedVariables false
namespace Go.Proofs.Ytdeaaonppokgkaa.Pat
open Go.RowKit Lp
theorem upR_cases {m d : Int} (hm : 0 ≤ m) (hd : 1 ≤ d) : (m % d = 0 → upR m d = m / d) ∧ (0 < m % d → upR m d = m / d + 1) := by
  have e1 := Int.mul_ediv_add_emod m d
  have e2 := Int.emod_nonneg m (show d ≠ 0 by omega)
  have e3 := Int.emod_lt_of_pos m (show 0 < d by omega)
  unfold upR
  rw [Int.tdiv_eq_ediv_of_nonneg (by omega)]
  generalize m % d = r at *
  generalize m / d = e at *
  constructor
  · intro h
    rw [show m + d - 1 = (d - 1) + d * e by omega, Int.add_mul_ediv_left _ _ (by omega), Int.ediv_eq_zero_of_lt (by omega) (by omega)]
    omega
  · intro h
    rw [show m + d - 1 = (r - 1) + d * (e + 1) by rw [Int.mul_add]; omega, Int.add_mul_ediv_left _ _ (by omega), Int.ediv_eq_zero_of_lt (by omega) (by omega)]
    omega
theorem rneg_pu (n d : Int) (h : -9223372036854775807 ≤ n ∧ n ≤ 9223372036854775807) : Pu Try.prog 46 [.a [.v (.int .i64 n), .v (.int .i64 d)]] [] (.a [.v (.int .i64 (-n)), .v (.int .i64 d)]) := by
  refine pu_of_ex true [] mixed Try.call46 Try.func46 rfl Try.ntmps46 Try.results46 (by decide +kernel) rfl rfl rfl ?_
  simp only [push_cast, ↓branch_true, ↓branch_false, Nat.reduceBEq, Nat.reduceAdd, Nat.reduceMul, Nat.reduceSub, Int.reduceToNat, reduceCtorEq, Int.reduceAdd, Int.reduceEq, Int.reduceLE, Int.reduceLT, Nat.reduceLT, Nat.reduceLeDiff]
  repeat (with_reducible refine And.intro (by omega) ?_)
  rw [show 0 - n = -n by omega]
theorem rfloor_pu (m d : Int) (h : 0 ≤ m ∧ m ≤ 4611686018427387904) (hd : 1 ≤ d ∧ d ≤ 4611686018427387904) : Pu Try.prog 45 [.a [.v (.int .i64 (-m)), .v (.int .i64 d)]] [] (.v (.int .i64 (-(upR m d)))) := by
  have e1 := Int.mul_ediv_add_emod m d
  have e2 := Int.emod_nonneg m (show d ≠ 0 by omega)
  have e3 := Int.emod_lt_of_pos m (show 0 < d by omega)
  obtain ⟨u1, u2⟩ := upR_cases h.1 hd.1
  have e0 : (-m).tdiv d = -(m / d) := by rw [Int.neg_tdiv, Int.tdiv_eq_ediv_of_nonneg h.1]
  have e5 : 0 ≤ m / d := Int.ediv_nonneg h.1 (by omega)
  have e6 : m / d ≤ m := Int.ediv_le_self _ h.1
  have e4 : -(m / d) * d = -(d * (m / d)) := by rw [Int.neg_mul, Int.mul_comm]
  refine pu_of_ex true [] mixed Try.call45 Try.func45 rfl Try.ntmps45 Try.results45 (by decide +kernel) rfl rfl rfl ?_
  simp only [push_cast, ↓branch_true, ↓branch_false, Nat.reduceBEq, Nat.reduceAdd, Nat.reduceMul, Nat.reduceSub, Int.reduceToNat, reduceCtorEq, Int.reduceAdd, Int.reduceEq, Int.reduceLE, Int.reduceLT, Nat.reduceLT, Nat.reduceLeDiff]
  rw [e0, e4]
  generalize m % d = r at *
  generalize m / d = e at *
  generalize d * e = de at *
  repeat (with_reducible refine And.intro (by omega) ?_)
  refine ⟨fun h1 => ?_, fun h1 => ?_⟩
  · repeat (with_reducible refine And.intro (by omega) ?_)
    rw [u2 (by omega)]
    congr 2
    omega
  · rw [u1 (by omega)]
theorem rceil_pu (n d : Int) (h : 0 ≤ n ∧ n ≤ 4611686018427387904) (hd : 1 ≤ d ∧ d ≤ 4611686018427387904) : Pu Try.prog 14 [.a [.v (.int .i64 n), .v (.int .i64 d)]] [] (.v (.int .i64 (upR n d))) := by
  have a1 : 0 ≤ upR n d := by unfold upR; exact Int.tdiv_nonneg (by omega) (by omega)
  have a2 : upR n d ≤ n + d - 1 := by unfold upR; exact Int.tdiv_le_self _ (by omega)
  refine pu_of_ex true [] mixed Try.call14 Try.func14 rfl Try.ntmps14 Try.results14 (by decide +kernel) rfl rfl rfl ?_
  simp only [push_cast, ↓branch_true, ↓branch_false, Nat.reduceBEq, Nat.reduceAdd, Nat.reduceMul, Nat.reduceSub, Int.reduceToNat, reduceCtorEq, Int.reduceAdd, Int.reduceEq, Int.reduceLE, Int.reduceLT, Nat.reduceLT, Nat.reduceLeDiff]
  refine sp_c (rneg_pu n d (by omega)) rfl [] ?_
  simp only [push_cast, ↓branch_true, ↓branch_false, Nat.reduceBEq, Nat.reduceAdd, Nat.reduceMul, Nat.reduceSub, Int.reduceToNat, reduceCtorEq, Int.reduceAdd, Int.reduceEq, Int.reduceLE, Int.reduceLT, Nat.reduceLT, Nat.reduceLeDiff]
  refine sp_c (rfloor_pu n d h hd) rfl [] ?_
  simp only [push_cast, ↓branch_true, ↓branch_false, Nat.reduceBEq, Nat.reduceAdd, Nat.reduceMul, Nat.reduceSub, Int.reduceToNat, reduceCtorEq, Int.reduceAdd, Int.reduceEq, Int.reduceLE, Int.reduceLT, Nat.reduceLT, Nat.reduceLeDiff]
  repeat (with_reducible refine And.intro (by omega) ?_)
  congr 2
  omega
theorem wN_sm (W : Nat → Int) (ns : List Int) : ∀ n, wN W ns n = sm n fun k => ix ns k * W k
  | 0 => rfl
  | n + 1 => by rw [wN, sm, wN_sm W ns n]
theorem cN_sm (W : Nat → Int) (l : List Pc) : ∀ n, cN W l n = sm n fun k => (ix l k).cnt * W k
  | 0 => rfl
  | n + 1 => by rw [cN, sm, cN_sm W l n]
/-- Prices as fractions, and their value. -/
structure PF (lim : Int) (l : List Pc) (N : Nat → Int) (d : Nat) (vn vd : Int) : Prop where
  g : givE lim l = 0
  d0 : 0 < d
  dB : d ≤ 144115188075855872
  nn : ∀ k, k < l.length → 0 ≤ N k
  col : ∀ q : List Int, q.length = l.length → inB l q = true → sumL l q ≤ lim → wN N q l.length ≤ d
  val : vn * d = vd * cN N l l.length
  vn0 : 0 ≤ vn ∧ vn ≤ 1152921504606846976
  vd0 : 1 ≤ vd ∧ vd ≤ 144115188075855872
theorem pf_none {lim : Int} {l : List Pc} (h : givE lim l = 0) (h0 : l.length = 0) : PF lim l (fun _ => 0) 1 0 1 := by
  refine ⟨h, by decide, by decide, fun k hk => by omega, fun q _ _ _ => ?_, ?_, by decide, by decide⟩
  · rw [h0]; show (0 : Int) ≤ 1; decide
  · rw [h0]; rfl
theorem pf_ok {lim : Int} {l : List Pc} {nc mc : Nat} {cps : Nat → Nat} {hb : l.length ≤ big + 2} {s : Tabl} (h : givE lim l = 0) (hE : allE lim l = 0) (hp : PmOk (ordP l (allL lim l) nc mc cps hb)) (hL : Last (ordP l (allL lim l) nc mc cps hb) s) (hz : (valP (ordP l (allL lim l) nc mc cps hb) s).natAbs ≤ 1152921504606846976 ∧ s.d ≤ 144115188075855872) :
    PF lim l (mulP (ordP l (allL lim l) nc mc cps hb) s) s.d.toNat (rn (valP (ordP l (allL lim l) nc mc cps hb) s) s.d.toNat) (rd (valP (ordP l (allL lim l) nc mc cps hb) s) s.d.toNat : Nat) := by
  have hs := last_pos hL
  have hd : ((s.d.toNat : Nat) : Int) = s.d := by omega
  obtain ⟨hD, hv⟩ := last_dual hp hL
  obtain ⟨ho, h1, h2, h3⟩ := givE_0 h
  generalize hN : mulP (ordP l (allL lim l) nc mc cps hb) s = N at *
  have hv2 : (cN N l l.length) = valP (ordP l (allL lim l) nc mc cps hb) s := by rw [cN_sm]; exact hv
  generalize valP (ordP l (allL lim l) nc mc cps hb) s = V at *
  have hnn : ∀ k, k < l.length → 0 ≤ N k := fun k hk => hD.sgn k hk
  have hV : 0 ≤ V := by
    rw [← hv2, cN_sm]
    exact sm_nonneg fun k hk => Int.mul_nonneg (by have := order_at ho hk; omega) (hnn k hk)
  refine ⟨h, by omega, by omega, hnn, fun q q1 q2 q3 => ?_, ?_, ?_, ?_⟩
  · obtain ⟨q', b1, b2, b3, b4, b5⟩ := grow_full ho _ q q1 q2 q3 (Nat.le_refl _)
    have hm : q' ∈ allL lim l := by
      rw [allL_is h hE, mem_maxE ho (by omega)]
      exact ⟨b1, b2, b3, b4⟩
    obtain ⟨j, hj, rfl⟩ := List.getElem_of_mem hm
    have hc := hD.col j hj
    have hc : (sm l.length fun t => ix (ix (allL lim l) j) t * N t) ≤ 1 * s.d := hc
    rw [← ix_eq hj] at b5
    rw [hd, wN_sm]
    refine Int.le_trans (sm_le fun k hk => Int.mul_le_mul_of_nonneg_right (b5 k) (hnn k hk)) ?_
    omega
  · rw [r_val, hv2, Int.mul_comm]
  · have a := rn_le V s.d.toNat
    have b : ¬ rn V s.d.toNat < 0 := fun h => by have := (rn_neg V (show 0 < s.d.toNat by omega)).1 h; omega
    omega
  · have a := rd_pos V (show 0 < s.d.toNat by omega)
    have b := rd_le V s.d.toNat
    omega
theorem fold_le (pr : List Int) {B : Int} : ∀ (E : List (List Int)) (s : Bst), s.2 ≤ B → (∀ q ∈ E, priceL q pr ≤ B) → (E.foldl (pickB [] 0 pr) s).2 ≤ B
  | [], s, h, _ => h
  | a :: E, s, h, hE => by
    rw [List.foldl_cons]
    refine fold_le pr E _ ?_ fun q hq => hE q (List.mem_cons_of_mem _ hq)
    have := hE a List.mem_cons_self
    unfold pickB
    split
    · simp only; omega
    · exact h
theorem wN_mul (W : Nat → Int) (ns : List Int) (a : Int) : ∀ n, wN (fun k => W k * a) ns n = wN W ns n * a
  | 0 => (Int.zero_mul _).symm
  | n + 1 => by rw [wN, wN, wN_mul W ns a n, Int.add_mul, Int.mul_assoc]
theorem wN_congr {W V : Nat → Int} {ns : List Int} : ∀ {n}, (∀ k, k < n → W k = V k) → wN W ns n = wN V ns n
  | 0, _ => rfl
  | n + 1, h => by rw [wN, wN, wN_congr fun k hk => h k (by omega), h n (by omega)]
theorem cost_cN (l : List Pc) (pr : List Int) : ∀ j, costT l pr j = cN (ix pr) l j
  | 0 => rfl
  | j + 1 => by rw [costT, cN, cost_cN l pr j]
theorem upR_spec {n m c : Int} (h0 : 0 ≤ n) (hm : 1 ≤ m) : upR n m = c ↔ m * (c - 1) < n ∧ n ≤ m * c := by
  have e1 := Int.mul_ediv_add_emod n m
  have e2 := Int.emod_nonneg n (show m ≠ 0 by omega)
  have e3 := Int.emod_lt_of_pos n (show 0 < m by omega)
  obtain ⟨u1, u2⟩ := upR_cases h0 hm
  have key : ∀ x y : Int, m * (x - 1) < n → n ≤ m * y → x ≤ y := fun x y h1 h2 => by
    have : m * (x - 1) < m * y := by omega
    have := Int.lt_of_mul_lt_mul_left this (by omega)
    omega
  have hu : m * (upR n m - 1) < n ∧ n ≤ m * upR n m := by
    by_cases h : n % m = 0
    · rw [u1 h, Int.mul_sub]; omega
    · rw [u2 (by omega), show n / m + 1 - 1 = n / m by omega, Int.mul_add]; omega
  constructor
  · rintro rfl; exact hu
  · rintro ⟨a, b⟩
    have := key _ _ hu.1 b
    have := key _ _ a hu.2
    omega
theorem upR_same {a m b k : Int} (ha : 0 ≤ a) (hm : 1 ≤ m) (hb : 0 ≤ b) (hk : 1 ≤ k) (h : a * k = b * m) : upR a m = upR b k := by
  obtain ⟨h1, h2⟩ := (upR_spec hb hk).1 rfl
  refine (upR_spec ha hm).2 ⟨?_, ?_⟩
  · refine Int.lt_of_mul_lt_mul_right (a := k) ?_ (by omega)
    rw [h, Int.mul_assoc, Int.mul_comm m, Int.mul_comm _ k]
    exact Int.mul_lt_mul_of_pos_right h1 (by omega)
  · refine Int.le_of_mul_le_mul_right (a := k) ?_ (by omega)
    rw [h, Int.mul_assoc, Int.mul_comm m, Int.mul_comm _ k]
    exact Int.mul_le_mul_of_nonneg_right h2 (by omega)
/-- Fractions of one scale prove their value. -/
theorem pf_fin {lim : Int} {l : List Pc} {N : Nat → Int} {d : Nat} {vn vd S : Int} {pr : List Int} (h : PF lim l N d vn vd) (h10 : l.length ≤ 10) (hS : 1 ≤ S ∧ S ≤ 1073741824) (hl : pr.length = l.length) (hp : ∀ k, k < l.length → ix pr k * d = N k * S ∧ 0 ≤ ix pr k ∧ ix pr k ≤ 1073741824) : provE lim l pr S = 0 ∧ provV lim l pr S = upR vn vd := by
  obtain ⟨ho, h1, h2, h3⟩ := givE_0 h.g
  have hd : 0 < (d : Int) := by have := h.d0; omega
  have hbad : pr.any badP = false := by
    rw [List.any_eq_false]
    intro x hx
    obtain ⟨k, hk, rfl⟩ := List.getElem_of_mem hx
    have := (hp k (by omega)).2
    rw [ix_eq hk] at this
    unfold badP
    simp
    omega
  have hE : bestE lim l pr = 0 := by
    have : givenE lim l pr.length = 0 := by
      unfold givenE
      rw [if_neg (by rw [ho]; simp), if_neg (by omega), if_pos (by rw [hl])]
    unfold bestE
    rw [if_neg (by omega), if_neg (by rw [hbad]; simp), if_neg (by omega)]
  have hle : (bestS lim l pr).2 ≤ S := by
    rw [bestS_fold ho (by omega) hl (fun x hx => by
      obtain ⟨k, hk, rfl⟩ := List.getElem_of_mem hx
      have := price_at hbad hk
      rw [ix_eq hk] at this
      exact this.1) hE]
    refine fold_le pr _ _ (by show (-1 : Int) ≤ S; omega) fun q hq => ?_
    obtain ⟨q1, q2, q3⟩ := (mem_eachG (posL_of ho) (by omega)).1 hq
    have hc := h.col q q1 q2 q3
    rw [price_wN (by omega), q1]
    refine Int.le_of_mul_le_mul_right (a := (d : Int)) ?_ hd
    rw [← wN_mul, wN_congr fun k hk => (hp k hk).1, wN_mul, Int.mul_comm S]
    exact Int.mul_le_mul_of_nonneg_right hc (by omega)
  have h0 : provE lim l pr S = 0 := by
    unfold provE
    rw [if_neg (by have := h.g; omega), if_neg (by omega), if_neg, if_neg (by omega), if_neg (by omega)]
    rintro (h | h)
    · omega
    · rw [hbad] at h; cases h
  refine ⟨h0, ?_⟩
  unfold provV
  rw [if_pos h0]
  have hcr := (cost_range ho hbad hl _ (Nat.le_refl l.length)).1
  refine upR_same hcr hS.1 h.vn0.1 h.vd0.1 ?_
  have hcs : costT l pr l.length * d = cN N l l.length * S := by
    rw [cost_cN, cN_sm, cN_sm, ← sm_mul', ← sm_mul']
    refine sm_congr fun k hk => ?_
    rw [Int.mul_assoc, (hp k hk).1, Int.mul_assoc]
  have hv := h.val
  generalize costT l pr l.length = c at *
  generalize cN N l l.length = v at *
  refine Int.eq_of_mul_eq_mul_right (a := (d : Int)) (by omega) ?_
  rw [Int.mul_assoc, Int.mul_comm vd, ← Int.mul_assoc, hcs, Int.mul_assoc, Int.mul_comm S, ← Int.mul_assoc, Int.mul_comm v, ← hv, Int.mul_assoc, Int.mul_comm (d : Int), ← Int.mul_assoc]
end Go.Proofs.Ytdeaaonppokgkaa.Pat
