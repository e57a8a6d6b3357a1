/- Contracts of the reference's fractions: Made, Times, Add, Of, Cmp. -/
import Derived.Test.YtdeaaonppokgkaaGreatRA
import Derived.Test.YtdeaaonppokgkaaGreatGA
set_option maxRecDepth 100000
set_option linter.unusedSimpArgs false
set_option linter.unusedVariables false
namespace Go.Proofs.YtdeaaonppokgkaaGreat
open Go.RowKit Lp
set_option maxHeartbeats 8000000 in
theorem made_pu (x y : Nat) (neg : Bool) (hx : x < 170141183460469231731687303715884105728) (hy : y < 170141183460469231731687303715884105728) (hy0 : 0 < y) : Pu Tryz.prog 65 [wV x, .v (.bool neg), wV y] [] (sgR neg (x / Nat.gcd x y) (y / Nat.gcd x y)) := by
  have hg := rgcd_pu x y hx hy hy0
  have hg0 : 0 < Nat.gcd x y := Nat.gcd_pos_of_pos_right _ hy0
  have hgl : Nat.gcd x y ≤ y := Nat.gcd_le_right _ hy0
  have hd1 := rdiv_pu x (Nat.gcd x y) (by omega) (by omega) hg0
  have hd2 := rdiv_pu y (Nat.gcd x y) (by omega) (by omega) hg0
  generalize Nat.gcd x y = g at *
  generalize x / g = p at *
  generalize x % g = p' at *
  generalize y / g = q at *
  generalize y % g = q' at *
  have hp := hl p
  have hq := hl q
  have lp := lN_lt p
  have lq := lN_lt q
  refine pu_of_ex true [] mixed Tryz.call65 Tryz.func65 rfl Tryz.ntmps65 Tryz.results65 (by decide +kernel) rfl rfl rfl ?_
  refine sxq ?_
  try with_reducible exact trivial
  rw [w_zero y]
  refine ⟨agg83 _ _ _ _, ?_⟩
  rw [decide_eq_false (show ¬ y = 0 by omega)]
  refine sxq ?_
  try with_reducible exact trivial
  refine sp_c hg rfl [] ?_
  refine sxq ?_
  try with_reducible exact trivial
  refine sp_c hd1 rfl [] ?_
  refine sxq ?_
  try with_reducible exact trivial
  refine sp_c hd2 rfl [] ?_
  refine sxq ?_
  try with_reducible exact trivial
  have hbig : ¬ (p ≤ 1152921504606846976 ∧ q ≤ 1152921504606846976) → SV.t [SV.a [SV.v (.int .i64 0), SV.v (.int .i64 0)], SV.v (.int .i64 5)] = SV.t [SV.a [SV.v (.int .i64 (sgN neg p q)), SV.v (.int .i64 (sgD p q))], SV.v (.int .i64 (sgE p q))] := fun h => by
    unfold sgN sgD sgE
    rw [if_neg h, if_neg h, if_neg h]
  refine ⟨fun c1 => hbig (by omega), fun c1 => ⟨fun c2 => hbig (by omega), fun c2 => ⟨fun c3 => hbig (by omega), fun c3 => ⟨fun c4 => hbig (by omega), fun c4 => ?_⟩⟩⟩⟩
  have hle : p ≤ 1152921504606846976 ∧ q ≤ 1152921504606846976 := by omega
  unfold sgN sgD sgE
  rw [if_pos hle, if_pos hle, if_pos hle, show lN p = p by omega, show lN q = q by omega]
  cases neg with
  | true =>
    simp only [branch_true, cond_true]
    refine ⟨by omega, by omega, by omega, ?_⟩
    rw [show (0 : Int) - (p : Int) = -(p : Int) by omega]
  | false =>
    simp only [branch_false, cond_false]
    exact ⟨by omega, by omega, trivial⟩
/-- What a product or sum of the reference returns. -/
theorem sgR_rsQ {N : Int} {D X Y : Nat} {neg : Bool} (hX : X = N.natAbs) (hY : Y = D) (hn : N ≠ 0 → neg = decide (N < 0)) : sgR neg (X / Nat.gcd X Y) (Y / Nat.gcd X Y) = rsQ N D := by
  subst hX; subst hY
  unfold rsQ
  rw [rn_abs]
  show sgR neg (N.natAbs / Nat.gcd N.natAbs Y) (Y / Nat.gcd N.natAbs Y) = sgR (decide (N < 0)) (N.natAbs / Nat.gcd N.natAbs Y) (Y / Nat.gcd N.natAbs Y)
  by_cases h : N = 0
  · subst h
    unfold sgR sgN
    rw [show (0 : Int).natAbs = 0 from rfl, Nat.zero_div]
    cases neg <;> simp
  · rw [hn h]
theorem mul_lt120 {a b : Nat} (ha : a ≤ 1152921504606846976) (hb : b ≤ 1152921504606846976) : a * b ≤ 1329227995784915872903807060280344576 := Nat.le_trans (Nat.mul_le_mul ha hb) (by decide)
set_option maxHeartbeats 8000000 in
theorem rtimes_pu {an bn : Int} {ad bd : Nat} (ha : Frc an ad) (hb : Frc bn bd) : Pu Tryz.prog 70 [frV an ad, frV bn bd] [] (rsQ (an * bn) (ad * bd)) := by
  have a0 := ha.d0
  have a1 := ha.d1
  have a2 := ha.n1
  have b0 := hb.d0
  have b1 := hb.d1
  have b2 := hb.n1
  have m1 := mul_lt120 a2 b2
  have m2 := mul_lt120 a1 b1
  have p0 : 0 < ad * bd := Nat.mul_pos a0 b0
  have hm := made_pu (an.natAbs * bn.natAbs) (ad * bd) (decide (an < 0) != decide (bn < 0)) (by omega) (by omega) p0
  rw [sgR_rsQ (N := an * bn) (D := ad * bd) (Int.natAbs_mul _ _).symm rfl (fun h => by
    have h1 := neg_mul_iff an bn
    rw [Bool.eq_iff_iff]
    simp only [decide_eq_true_eq, h1, bne_iff_ne, ne_eq, decide_eq_decide]
    constructor
    · exact fun h5 => ⟨fun h => h5 (iff_of_eq h), h⟩
    · exact fun ⟨h5, _⟩ h => h5 (propext h))] at hm
  have sa := rsize_pu an (by omega)
  have sb := rsize_pu bn (by omega)
  have sc := rsize_pu (ad : Int) (by omega)
  have sd := rsize_pu (bd : Int) (by omega)
  rw [Int.natAbs_natCast] at sc sd
  have w1 := rmul_pu an.natAbs bn.natAbs (by omega) (by omega)
  have w2 := rmul_pu ad bd (by omega) (by omega)
  have sa' := (fun H => pu_a sa rfl H)
  have sb' := (fun H => pu_a sb rfl H)
  have sc' := (fun H => pu_a sc rfl H)
  have sd' := (fun H => pu_a sd rfl H)
  have w1' := (fun H => pu_a w1 rfl H)
  have w2' := (fun H => pu_a w2 rfl H)
  obtain ⟨rn0, rd0, re0, hR⟩ : ∃ n d e : Int, rsQ (an * bn) (ad * bd) = .t [frV n d, .v (.int .i64 e)] := ⟨_, _, _, rfl⟩
  rw [hR] at hm ⊢
  have hm' := pu_any hm rfl (by
    refine sxq ?_
    try with_reducible exact trivial
    try trivial)
  refine pu_of_ex true [(1, .pre [0, 1] [0, 1, 3, 4, 7, 8, 9, 10, 11, 12, 13, 14, 15, 17, 18] (.one 2 (.one 5 (.one 6 (.one 16 (.one 19 (.one 20 (.one 21 (.one 22 (.one 23 (.one 24 (.one 25 .fin))))))))))))] mixed Tryz.call70 Tryz.func70 rfl Tryz.ntmps70 Tryz.results70 (by decide +kernel) rfl rfl rfl ?_
  refine sxq ?_
  try with_reducible exact trivial
  repeat' (first
    | (with_reducible apply And.intro)
    | (refine sp_pu (sa' _) ?_
       refine sxq ?_
       try with_reducible exact trivial
       )
    | (refine sp_pu (sb' _) ?_
       refine sxq ?_
       try with_reducible exact trivial
       )
    | (refine sp_pu (sc' _) ?_
       refine sxq ?_
       try with_reducible exact trivial
       )
    | (refine sp_pu (sd' _) ?_
       refine sxq ?_
       try with_reducible exact trivial
       )
    | (refine sp_pu (w1' _) ?_
       refine sxq ?_
       try with_reducible exact trivial
       )
    | (refine sp_pu (w2' _) ?_
       refine sxq ?_
       try with_reducible exact trivial
       )
    | (refine sp_pu (hm' _) ?_
       refine sxq ?_
       try with_reducible exact trivial
       ))
theorem frac_at {a : Int} {d : Nat} (hd : 0 < d) : (a * (d : Int)).natAbs = a.natAbs * d ∧ (a * (d : Int) < 0 ↔ a < 0) := by
  refine ⟨by rw [Int.natAbs_mul, Int.natAbs_natCast], ?_⟩
  constructor
  · intro h
    rcases Int.lt_or_le a 0 with h1 | h1
    · exact h1
    · have := Int.mul_nonneg h1 (show (0 : Int) ≤ d by omega)
      omega
  · intro h
    exact Int.mul_neg_of_neg_of_pos h (by omega)
theorem mul_bound {a b : Nat} (ha : a ≤ 1152921504606846976) (hb : b ≤ 1152921504606846976) : a * b ≤ 1329227995784915872903807060280344576 := mul_lt120 ha hb
set_option maxHeartbeats 16000000 in
theorem radd_pu {an bn : Int} {ad bd : Nat} (ha : Frc an ad) (hb : Frc bn bd) : Pu Tryz.prog 71 [frV an ad, frV bn bd] [] (rsQ (an * (bd : Nat) + bn * (ad : Nat)) (ad * bd)) := by
  have a0 := ha.d0
  have a1 := ha.d1
  have a2 := ha.n1
  have b0 := hb.d0
  have b1 := hb.d1
  have b2 := hb.n1
  obtain ⟨x1, x2⟩ := frac_at (a := an) b0
  obtain ⟨y1, y2⟩ := frac_at (a := bn) a0
  have m1 := mul_bound a2 b1
  have m2 := mul_bound b2 a1
  have m3 := mul_bound a1 b1
  have p0 : 0 < ad * bd := Nat.mul_pos a0 b0
  have sa := rsize_pu an (by omega)
  have sb := rsize_pu bn (by omega)
  have sc := rsize_pu (ad : Int) (by omega)
  have sd := rsize_pu (bd : Int) (by omega)
  rw [Int.natAbs_natCast] at sc sd
  have w1 := rmul_pu an.natAbs bd (by omega) (by omega)
  have w2 := rmul_pu bn.natAbs ad (by omega) (by omega)
  have w3 := rmul_pu ad bd (by omega) (by omega)
  have k1 : (decide (an < 0) == decide (bn < 0)) = true → Pu Tryz.prog 65 [wV (an.natAbs * bd + bn.natAbs * ad), .v (.bool (decide (an < 0))), wV (ad * bd)] [] (rsQ (an * (bd : Nat) + bn * (ad : Nat)) (ad * bd)) := fun h => by
    have hm := made_pu (an.natAbs * bd + bn.natAbs * ad) (ad * bd) (decide (an < 0)) (by omega) (by omega) p0
    rw [beq_iff_eq, decide_eq_decide] at h
    rwa [sgR_rsQ (N := an * (bd : Nat) + bn * (ad : Nat)) (D := ad * bd) (by omega) rfl (fun h0 => by rw [decide_eq_decide]; omega)] at hm
  have k2 : (decide (an < 0) == decide (bn < 0)) = false → an.natAbs * bd < bn.natAbs * ad → Pu Tryz.prog 65 [wV (bn.natAbs * ad - an.natAbs * bd), .v (.bool (decide (bn < 0))), wV (ad * bd)] [] (rsQ (an * (bd : Nat) + bn * (ad : Nat)) (ad * bd)) := fun h hl => by
    have hm := made_pu (bn.natAbs * ad - an.natAbs * bd) (ad * bd) (decide (bn < 0)) (by omega) (by omega) p0
    rw [beq_eq_false_iff_ne, ne_eq, decide_eq_decide] at h
    rwa [sgR_rsQ (N := an * (bd : Nat) + bn * (ad : Nat)) (D := ad * bd) (by omega) rfl (fun h0 => by rw [decide_eq_decide]; omega)] at hm
  have k3 : (decide (an < 0) == decide (bn < 0)) = false → ¬ an.natAbs * bd < bn.natAbs * ad → Pu Tryz.prog 65 [wV (an.natAbs * bd - bn.natAbs * ad), .v (.bool (decide (an < 0))), wV (ad * bd)] [] (rsQ (an * (bd : Nat) + bn * (ad : Nat)) (ad * bd)) := fun h hl => by
    have hm := made_pu (an.natAbs * bd - bn.natAbs * ad) (ad * bd) (decide (an < 0)) (by omega) (by omega) p0
    rw [beq_eq_false_iff_ne, ne_eq, decide_eq_decide] at h
    rwa [sgR_rsQ (N := an * (bd : Nat) + bn * (ad : Nat)) (D := ad * bd) (by omega) rfl (fun h0 => by rw [decide_eq_decide]; omega)] at hm
  have q1 := fun (_ : (decide (an < 0) == decide (bn < 0)) = true) => rplus_pu (an.natAbs * bd) (bn.natAbs * ad) (by omega)
  have q2 := fun (h : an.natAbs * bd < bn.natAbs * ad) => rminus_pu (bn.natAbs * ad) (an.natAbs * bd) (by omega) (by omega)
  have q3 := fun (h : ¬ an.natAbs * bd < bn.natAbs * ad) => rminus_pu (an.natAbs * bd) (bn.natAbs * ad) (by omega) (by omega)
  have lt := rless_pu (an.natAbs * bd) (bn.natAbs * ad)
  obtain ⟨rn0, rd0, re0, hR⟩ : ∃ n d e : Int, rsQ (an * (bd : Nat) + bn * (ad : Nat)) (ad * bd) = .t [frV n d, .v (.int .i64 e)] := ⟨_, _, _, rfl⟩
  rw [hR] at k1 k2 k3 ⊢
  clear hR x1 x2 y1 y2 m1 m2 m3 p0
  generalize an.natAbs * bd = X at *
  generalize bn.natAbs * ad = Y at *
  generalize ad * bd = D at *
  have sa' := (fun H => pu_a sa rfl H)
  have sb' := (fun H => pu_a sb rfl H)
  have sc' := (fun H => pu_a sc rfl H)
  have sd' := (fun H => pu_a sd rfl H)
  have w1' := (fun H => pu_a w1 rfl H)
  have w2' := (fun H => pu_a w2 rfl H)
  have w3' := (fun H => pu_a w3 rfl H)
  have lt' := (fun H => pu_a lt rfl H)
  refine pu_of_ex true [(1, .jn (.pre [0, 1] [0, 1, 3, 4] (.alt [(2, .alt [(5, .alt [(6, .one 7 (.one 8 .fin)), (7, .one 6 (.one 8 .fin))]), (7, .one 5 (.one 6 (.one 8 .fin)))]), (7, .one 2 (.one 5 (.one 6 (.one 8 .fin))))]))), (2, .jn (.pre [0, 1] [0, 1, 3, 4] (.alt [(2, .alt [(5, .alt [(6, .one 7 (.one 8 .fin)), (7, .one 6 (.one 8 .fin))]), (7, .one 5 (.one 6 (.one 8 .fin)))]), (7, .one 2 (.one 5 (.one 6 (.one 8 .fin))))]))), (3, .jn (.pre [0, 1] [0, 1, 3, 4] (.alt [(2, .alt [(5, .alt [(6, .one 7 (.one 8 .fin)), (7, .one 6 (.one 8 .fin))]), (7, .one 5 (.one 6 (.one 8 .fin)))]), (7, .one 2 (.one 5 (.one 6 (.one 8 .fin))))]))), (5, .pre [0, 1] [3, 4, 5] (.alt [(0, .alt [(1, .alt [(2, .one 6 (.one 7 (.one 8 (.one 9 (.one 10 (.one 11 .fin)))))), (6, .one 2 (.one 7 (.one 8 (.one 9 (.one 10 (.one 11 .fin))))))]), (6, .one 1 (.one 2 (.one 7 (.one 8 (.one 9 (.one 10 (.one 11 .fin)))))))]), (1, .alt [(0, .alt [(2, .one 6 (.one 7 (.one 8 (.one 9 (.one 10 (.one 11 .fin)))))), (6, .one 2 (.one 7 (.one 8 (.one 9 (.one 10 (.one 11 .fin))))))]), (6, .one 0 (.one 2 (.one 7 (.one 8 (.one 9 (.one 10 (.one 11 .fin)))))))]), (6, .alt [(0, .one 1 (.one 2 (.one 7 (.one 8 (.one 9 (.one 10 (.one 11 .fin))))))), (1, .one 0 (.one 2 (.one 7 (.one 8 (.one 9 (.one 10 (.one 11 .fin)))))))])])), (7, .pre [0, 1] [3, 4, 5] (.alt [(0, .alt [(1, .alt [(2, .one 6 (.one 7 (.one 8 (.one 9 (.one 10 (.one 11 .fin)))))), (6, .one 2 (.one 7 (.one 8 (.one 9 (.one 10 (.one 11 .fin))))))]), (6, .one 1 (.one 2 (.one 7 (.one 8 (.one 9 (.one 10 (.one 11 .fin)))))))]), (1, .alt [(0, .alt [(2, .one 6 (.one 7 (.one 8 (.one 9 (.one 10 (.one 11 .fin)))))), (6, .one 2 (.one 7 (.one 8 (.one 9 (.one 10 (.one 11 .fin))))))]), (6, .one 0 (.one 2 (.one 7 (.one 8 (.one 9 (.one 10 (.one 11 .fin)))))))]), (6, .alt [(0, .one 1 (.one 2 (.one 7 (.one 8 (.one 9 (.one 10 (.one 11 .fin))))))), (1, .one 0 (.one 2 (.one 7 (.one 8 (.one 9 (.one 10 (.one 11 .fin)))))))])])), (8, .pre [0, 1] [3, 4, 5] (.alt [(0, .alt [(1, .alt [(2, .one 6 (.one 7 (.one 8 (.one 9 (.one 10 (.one 11 .fin)))))), (6, .one 2 (.one 7 (.one 8 (.one 9 (.one 10 (.one 11 .fin))))))]), (6, .one 1 (.one 2 (.one 7 (.one 8 (.one 9 (.one 10 (.one 11 .fin)))))))]), (1, .alt [(0, .alt [(2, .one 6 (.one 7 (.one 8 (.one 9 (.one 10 (.one 11 .fin)))))), (6, .one 2 (.one 7 (.one 8 (.one 9 (.one 10 (.one 11 .fin))))))]), (6, .one 0 (.one 2 (.one 7 (.one 8 (.one 9 (.one 10 (.one 11 .fin)))))))]), (6, .alt [(0, .one 1 (.one 2 (.one 7 (.one 8 (.one 9 (.one 10 (.one 11 .fin))))))), (1, .one 0 (.one 2 (.one 7 (.one 8 (.one 9 (.one 10 (.one 11 .fin)))))))])]))] mixed Tryz.call71 Tryz.func71 rfl Tryz.ntmps71 Tryz.results71 (by decide +kernel) rfl rfl rfl ?_
  refine sxq ?_
  try with_reducible exact trivial
  refine ⟨[(2, .p 0 0 0), (3, .p 1 0 0), (4, .p 2 0 0), (5, .v (.int .i64 0)), (6, .p 3 0 0)], [oF true an ad, oF true bn bd, oF false 0 0, oZ X], ?_, ?_⟩
  · refine sxq ?_
    try with_reducible exact trivial
    repeat' (first
      | (with_reducible apply And.intro)
      | (refine sp_pu (sa' _) ?_
         refine sxq ?_
         try with_reducible exact trivial
         )
      | (refine sp_pu (sd' _) ?_
         refine sxq ?_
         try with_reducible exact trivial
         )
      | (refine sp_pu (w1' _) ?_
         refine sxq ?_
         try with_reducible exact trivial
         ))
    all_goals
      refine Mt.wk (rl := [0, 1, 2, 3]) ⟨by kernel_rfl, ?_, ?_⟩
      · refine sxq ?_
        try with_reducible exact trivial
        try trivial
      · refine sxq ?_
        try with_reducible exact trivial
  simp only [push_cast, ↓branch_true, ↓branch_false, Nat.reduceBEq, Nat.reduceAdd, Nat.reduceMul, Nat.reduceSub, Int.reduceToNat, reduceCtorEq, Int.reduceAdd, Int.reduceEq, Int.reduceLE, Int.reduceLT, Nat.reduceLT, Nat.reduceLeDiff, jnK]
  refine ⟨[(2, .p 0 0 0), (3, .p 1 0 0), (4, .p 2 0 0), (5, .v (.int .i64 0)), (6, .p 3 0 0), (7, .p 4 0 0)], [oF true an ad, oF true bn bd, oF false 0 0, oZ X, oZ Y], ?_, ?_⟩
  · refine sxq ?_
    try with_reducible exact trivial
    repeat' (first
      | (with_reducible apply And.intro)
      | (refine sp_pu (sb' _) ?_
         refine sxq ?_
         try with_reducible exact trivial
         )
      | (refine sp_pu (sc' _) ?_
         refine sxq ?_
         try with_reducible exact trivial
         )
      | (refine sp_pu (w2' _) ?_
         refine sxq ?_
         try with_reducible exact trivial
         ))
    all_goals
      refine Mt.wk (rl := [0, 1, 2, 3, 4]) ⟨by kernel_rfl, ?_, ?_⟩
      · refine sxq ?_
        try with_reducible exact trivial
        try trivial
      · refine sxq ?_
        try with_reducible exact trivial
  simp only [push_cast, ↓branch_true, ↓branch_false, Nat.reduceBEq, Nat.reduceAdd, Nat.reduceMul, Nat.reduceSub, Int.reduceToNat, reduceCtorEq, Int.reduceAdd, Int.reduceEq, Int.reduceLE, Int.reduceLT, Nat.reduceLT, Nat.reduceLeDiff, jnK]
  refine ⟨[(2, .p 0 0 0), (3, .p 1 0 0), (4, .p 2 0 0), (5, .v (.int .i64 0)), (6, .p 3 0 0), (7, .p 4 0 0), (8, .p 5 0 0)], [oF true an ad, oF true bn bd, oF false 0 0, oZ X, oZ Y, oZ D], ?_, ?_⟩
  · refine sxq ?_
    try with_reducible exact trivial
    repeat' (first
      | (with_reducible apply And.intro)
      | (refine sp_pu (sc' _) ?_
         refine sxq ?_
         try with_reducible exact trivial
         )
      | (refine sp_pu (sd' _) ?_
         refine sxq ?_
         try with_reducible exact trivial
         )
      | (refine sp_pu (w3' _) ?_
         refine sxq ?_
         try with_reducible exact trivial
         ))
    all_goals
      refine Mt.wk (rl := [0, 1, 2, 3, 4, 5]) ⟨by kernel_rfl, ?_, ?_⟩
      · refine sxq ?_
        try with_reducible exact trivial
        try trivial
      · refine sxq ?_
        try with_reducible exact trivial
  simp only [push_cast, ↓branch_true, ↓branch_false, Nat.reduceBEq, Nat.reduceAdd, Nat.reduceMul, Nat.reduceSub, Int.reduceToNat, reduceCtorEq, Int.reduceAdd, Int.reduceEq, Int.reduceLE, Int.reduceLT, Nat.reduceLT, Nat.reduceLeDiff, jnK]
  cases hsg : (decide (an < 0) == decide (bn < 0)) with
  | true =>
    have k1' := (fun H => pu_a (k1 hsg) rfl H)
    have q1' := (fun H => pu_a (q1 hsg) rfl H)
    refine sxq ?_
    try with_reducible exact trivial
    repeat' (first
      | (with_reducible apply And.intro)
      | (refine sp_pu (q1' _) ?_
         refine sxq ?_
         try with_reducible exact trivial
         )
      | (refine sp_pu (k1' _) ?_
         refine sxq ?_
         try with_reducible exact trivial
         ))
  | false =>
    refine sxq ?_
    try with_reducible exact trivial
    refine sp_pu (lt' _) ?_
    refine sxq ?_
    try with_reducible exact trivial
    refine ⟨fun c => ?_, fun c => ?_⟩
    · have hc : X < Y := by omega
      have k2' := (fun H => pu_a (k2 hsg hc) rfl H)
      have q2' := (fun H => pu_a (q2 hc) rfl H)
      repeat' (first
        | (with_reducible apply And.intro)
        | (refine sp_pu (q2' _) ?_
           refine sxq ?_
           try with_reducible exact trivial
           )
        | (refine sp_pu (k2' _) ?_
           refine sxq ?_
           try with_reducible exact trivial
           ))
    · have hc : ¬ X < Y := by omega
      have k3' := (fun H => pu_a (k3 hsg hc) rfl H)
      have q3' := (fun H => pu_a (q3 hc) rfl H)
      repeat' (first
        | (with_reducible apply And.intro)
        | (refine sp_pu (q3' _) ?_
           refine sxq ?_
           try with_reducible exact trivial
           )
        | (refine sp_pu (k3' _) ?_
           refine sxq ?_
           try with_reducible exact trivial
           ))
theorem w_eq (x y : Nat) : ((hN x : Int) == (hN y : Int) && (lN x : Int) == (lN y : Int)) = decide (x = y) := by
  have h := hl x
  have h' := hl y
  rw [Bool.eq_iff_iff]
  simp only [Bool.and_eq_true, beq_iff_eq, decide_eq_true_eq]
  constructor
  · intro ⟨h1, h2⟩
    have : hN x = hN y := by omega
    rw [this] at h
    omega
  · rintro rfl
    exact ⟨rfl, rfl⟩
theorem rof_pu (n : Int) : Pu Tryz.prog 69 [.v (.int .i64 n)] [] (frV n 1) := by
  refine pu_of_ex true [] mixed Tryz.call69 Tryz.func69 rfl Tryz.ntmps69 Tryz.results69 (by decide +kernel) rfl rfl rfl ?_
  refine sxq ?_
  try with_reducible exact trivial
set_option maxHeartbeats 16000000 in
theorem rcmp_pu {an bn : Int} {ad bd : Nat} (ha : Frc an ad) (hb : Frc bn bd) : Pu Tryz.prog 68 [frV an ad, frV bn bd] [] (.v (.int .i64 (cmpS (an * (bd : Nat)) (bn * (ad : Nat))))) := by
  have a0 := ha.d0
  have a1 := ha.d1
  have a2 := ha.n1
  have b0 := hb.d0
  have b1 := hb.d1
  have b2 := hb.n1
  obtain ⟨x1, x2⟩ := frac_at (a := an) b0
  obtain ⟨y1, y2⟩ := frac_at (a := bn) a0
  have sa := rsize_pu an (by omega)
  have sb := rsize_pu bn (by omega)
  have sc := rsize_pu (ad : Int) (by omega)
  have sd := rsize_pu (bd : Int) (by omega)
  rw [Int.natAbs_natCast] at sc sd
  have w1 := rmul_pu an.natAbs bd (by omega) (by omega)
  have w2 := rmul_pu bn.natAbs ad (by omega) (by omega)
  have lt := rless_pu (an.natAbs * bd) (bn.natAbs * ad)
  have g1 : an < 0 → ¬ bn < 0 → cmpS (an * (bd : Nat)) (bn * (ad : Nat)) = -1 := fun h1 h2 => by unfold cmpS; rw [if_pos (by omega)]
  have g2 : ¬ an < 0 → bn < 0 → cmpS (an * (bd : Nat)) (bn * (ad : Nat)) = 1 := fun h1 h2 => by unfold cmpS; rw [if_neg (by omega), if_neg (by omega)]
  have g3 : an < 0 → bn < 0 → cmpS (an * (bd : Nat)) (bn * (ad : Nat)) = if an.natAbs * bd = bn.natAbs * ad then 0 else if an.natAbs * bd < bn.natAbs * ad then 1 else -1 := fun h1 h2 => by
    unfold cmpS; split <;> split <;> (try split) <;> (try split) <;> omega
  have g4 : ¬ an < 0 → ¬ bn < 0 → cmpS (an * (bd : Nat)) (bn * (ad : Nat)) = if an.natAbs * bd = bn.natAbs * ad then 0 else if an.natAbs * bd < bn.natAbs * ad then -1 else 1 := fun h1 h2 => by
    unfold cmpS; split <;> split <;> (try split) <;> (try split) <;> omega
  generalize cmpS (an * (bd : Nat)) (bn * (ad : Nat)) = r at *
  clear x1 x2 y1 y2
  generalize an.natAbs * bd = X at *
  generalize bn.natAbs * ad = Y at *
  have sa' := (fun H => pu_a sa rfl H)
  have sb' := (fun H => pu_a sb rfl H)
  have sc' := (fun H => pu_a sc rfl H)
  have sd' := (fun H => pu_a sd rfl H)
  have w1' := (fun H => pu_a w1 rfl H)
  have w2' := (fun H => pu_a w2 rfl H)
  have lt' := (fun H => pu_a lt rfl H)
  refine pu_of_ex true [(1, .jn (.pre [0, 1] [0, 1, 3, 4, 7, 8, 10, 11] (.alt [(2, .alt [(5, .alt [(6, .alt [(9, .alt [(12, .alt [(13, .alt [(14, .one 15 (.one 16 (.one 17 .fin))), (15, .one 14 (.one 16 (.one 17 .fin)))]), (14, .alt [(13, .one 15 (.one 16 (.one 17 .fin))), (15, .one 13 (.one 16 (.one 17 .fin)))]), (15, .alt [(13, .one 14 (.one 16 (.one 17 .fin))), (14, .one 13 (.one 16 (.one 17 .fin)))])]), (14, .alt [(12, .alt [(13, .one 15 (.one 16 (.one 17 .fin))), (15, .one 13 (.one 16 (.one 17 .fin)))]), (15, .one 12 (.one 13 (.one 16 (.one 17 .fin))))]), (15, .alt [(12, .alt [(13, .one 14 (.one 16 (.one 17 .fin))), (14, .one 13 (.one 16 (.one 17 .fin)))]), (14, .one 12 (.one 13 (.one 16 (.one 17 .fin))))])]), (14, .alt [(9, .alt [(12, .alt [(13, .one 15 (.one 16 (.one 17 .fin))), (15, .one 13 (.one 16 (.one 17 .fin)))]), (15, .one 12 (.one 13 (.one 16 (.one 17 .fin))))]), (15, .one 9 (.one 12 (.one 13 (.one 16 (.one 17 .fin)))))]), (15, .alt [(9, .alt [(12, .alt [(13, .one 14 (.one 16 (.one 17 .fin))), (14, .one 13 (.one 16 (.one 17 .fin)))]), (14, .one 12 (.one 13 (.one 16 (.one 17 .fin))))]), (14, .one 9 (.one 12 (.one 13 (.one 16 (.one 17 .fin)))))])]), (14, .alt [(6, .alt [(9, .alt [(12, .alt [(13, .one 15 (.one 16 (.one 17 .fin))), (15, .one 13 (.one 16 (.one 17 .fin)))]), (15, .one 12 (.one 13 (.one 16 (.one 17 .fin))))]), (15, .one 9 (.one 12 (.one 13 (.one 16 (.one 17 .fin)))))]), (15, .one 6 (.one 9 (.one 12 (.one 13 (.one 16 (.one 17 .fin))))))]), (15, .alt [(6, .alt [(9, .alt [(12, .alt [(13, .one 14 (.one 16 (.one 17 .fin))), (14, .one 13 (.one 16 (.one 17 .fin)))]), (14, .one 12 (.one 13 (.one 16 (.one 17 .fin))))]), (14, .one 9 (.one 12 (.one 13 (.one 16 (.one 17 .fin)))))]), (14, .one 6 (.one 9 (.one 12 (.one 13 (.one 16 (.one 17 .fin))))))])]), (14, .alt [(5, .alt [(6, .alt [(9, .alt [(12, .alt [(13, .one 15 (.one 16 (.one 17 .fin))), (15, .one 13 (.one 16 (.one 17 .fin)))]), (15, .one 12 (.one 13 (.one 16 (.one 17 .fin))))]), (15, .one 9 (.one 12 (.one 13 (.one 16 (.one 17 .fin)))))]), (15, .one 6 (.one 9 (.one 12 (.one 13 (.one 16 (.one 17 .fin))))))]), (15, .one 5 (.one 6 (.one 9 (.one 12 (.one 13 (.one 16 (.one 17 .fin)))))))]), (15, .alt [(5, .alt [(6, .alt [(9, .alt [(12, .alt [(13, .one 14 (.one 16 (.one 17 .fin))), (14, .one 13 (.one 16 (.one 17 .fin)))]), (14, .one 12 (.one 13 (.one 16 (.one 17 .fin))))]), (14, .one 9 (.one 12 (.one 13 (.one 16 (.one 17 .fin)))))]), (14, .one 6 (.one 9 (.one 12 (.one 13 (.one 16 (.one 17 .fin))))))]), (14, .one 5 (.one 6 (.one 9 (.one 12 (.one 13 (.one 16 (.one 17 .fin)))))))])]), (14, .alt [(2, .alt [(5, .alt [(6, .alt [(9, .alt [(12, .alt [(13, .one 15 (.one 16 (.one 17 .fin))), (15, .one 13 (.one 16 (.one 17 .fin)))]), (15, .one 12 (.one 13 (.one 16 (.one 17 .fin))))]), (15, .one 9 (.one 12 (.one 13 (.one 16 (.one 17 .fin)))))]), (15, .one 6 (.one 9 (.one 12 (.one 13 (.one 16 (.one 17 .fin))))))]), (15, .one 5 (.one 6 (.one 9 (.one 12 (.one 13 (.one 16 (.one 17 .fin)))))))]), (15, .one 2 (.one 5 (.one 6 (.one 9 (.one 12 (.one 13 (.one 16 (.one 17 .fin))))))))]), (15, .alt [(2, .alt [(5, .alt [(6, .alt [(9, .alt [(12, .alt [(13, .one 14 (.one 16 (.one 17 .fin))), (14, .one 13 (.one 16 (.one 17 .fin)))]), (14, .one 12 (.one 13 (.one 16 (.one 17 .fin))))]), (14, .one 9 (.one 12 (.one 13 (.one 16 (.one 17 .fin)))))]), (14, .one 6 (.one 9 (.one 12 (.one 13 (.one 16 (.one 17 .fin))))))]), (14, .one 5 (.one 6 (.one 9 (.one 12 (.one 13 (.one 16 (.one 17 .fin)))))))]), (14, .one 2 (.one 5 (.one 6 (.one 9 (.one 12 (.one 13 (.one 16 (.one 17 .fin))))))))])]))), (8, .pre [0, 1] [3, 4, 5] (.alt [(0, .one 1 (.one 2 (.one 6 .fin))), (1, .one 0 (.one 2 (.one 6 .fin)))]))] mixed Tryz.call68 Tryz.func68 rfl Tryz.ntmps68 Tryz.results68 (by decide +kernel) rfl rfl rfl ?_
  refine sxq ?_
  try with_reducible exact trivial
  refine ⟨[(2, .p 0 0 0), (3, .p 1 0 0), (5, .p 2 0 0), (6, .p 3 0 0)], [oF true an ad, oF true bn bd, oZ X, oZ Y], ?_, ?_⟩
  · refine sxq ?_
    try with_reducible exact trivial
    repeat' (first
      | (with_reducible apply And.intro)
      | (refine sp_pu (sa' _) ?_
         refine sxq ?_
         try with_reducible exact trivial
         )
      | (refine sp_pu (sb' _) ?_
         refine sxq ?_
         try with_reducible exact trivial
         )
      | (refine sp_pu (sc' _) ?_
         refine sxq ?_
         try with_reducible exact trivial
         )
      | (refine sp_pu (sd' _) ?_
         refine sxq ?_
         try with_reducible exact trivial
         )
      | (refine sp_pu (w1' _) ?_
         refine sxq ?_
         try with_reducible exact trivial
         )
      | (refine sp_pu (w2' _) ?_
         refine sxq ?_
         try with_reducible exact trivial
         ))
    all_goals first
      | (refine Mt.wk (rl := [0, 1, 2, 3]) ⟨by kernel_rfl, ?_, ?_⟩
         · refine sxq ?_
           try with_reducible exact trivial
           try trivial
         · refine sxq ?_
           try with_reducible exact trivial
         )
      | (refine Mt.wk (rl := [0, 1, 3, 2]) ⟨by kernel_rfl, ?_, ?_⟩
         · refine sxq ?_
           try with_reducible exact trivial
           try trivial
         · refine sxq ?_
           try with_reducible exact trivial
         )
  simp only [push_cast, ↓branch_true, ↓branch_false, Nat.reduceBEq, Nat.reduceAdd, Nat.reduceMul, Nat.reduceSub, Int.reduceToNat, reduceCtorEq, Int.reduceAdd, Int.reduceEq, Int.reduceLE, Int.reduceLT, Nat.reduceLT, Nat.reduceLeDiff, jnK]
  rw [w_eq X Y]
  by_cases h1 : an < 0 <;> by_cases h2 : bn < 0
  · have q1 : ¬ 0 ≤ an := by omega
    have q2 : ¬ 0 ≤ bn := by omega
    simp only [push_cast, ↓branch_true, ↓branch_false, Nat.reduceBEq, Nat.reduceAdd, Nat.reduceMul, Nat.reduceSub, Int.reduceToNat, reduceCtorEq, Int.reduceAdd, Int.reduceEq, Int.reduceLE, Int.reduceLT, Nat.reduceLT, Nat.reduceLeDiff, h1, h2, q1, q2]
    refine ⟨agg83 _ _ _ _, fun c => ?_, fun c => ?_⟩
    · have hr := g3 h1 h2
      rw [if_pos (by omega)] at hr
      rw [hr]
    have hr := g3 h1 h2
    rw [if_neg (by omega)] at hr
    by_cases c2 : X < Y
    · rw [if_pos c2] at hr
      rw [decide_eq_true c2] at lt'
      repeat' (first
        | (with_reducible apply And.intro)
        | (refine sp_pu (lt' _) ?_
           simp only [push_cast, ↓branch_true, ↓branch_false, Nat.reduceBEq, Nat.reduceAdd, Nat.reduceMul, Nat.reduceSub, Int.reduceToNat, reduceCtorEq, Int.reduceAdd, Int.reduceEq, Int.reduceLE, Int.reduceLT, Nat.reduceLT, Nat.reduceLeDiff, h1, h2, q1, q2, hr]
           ))
      all_goals simp [branch_true, branch_false]
    · rw [if_neg c2] at hr
      rw [decide_eq_false c2] at lt'
      repeat' (first
        | (with_reducible apply And.intro)
        | (refine sp_pu (lt' _) ?_
           simp only [push_cast, ↓branch_true, ↓branch_false, Nat.reduceBEq, Nat.reduceAdd, Nat.reduceMul, Nat.reduceSub, Int.reduceToNat, reduceCtorEq, Int.reduceAdd, Int.reduceEq, Int.reduceLE, Int.reduceLT, Nat.reduceLT, Nat.reduceLeDiff, h1, h2, q1, q2, hr]
           ))
      all_goals simp [branch_true, branch_false]
  · have q1 : ¬ 0 ≤ an := by omega
    have q2 : 0 ≤ bn := by omega
    simp only [push_cast, ↓branch_true, ↓branch_false, Nat.reduceBEq, Nat.reduceAdd, Nat.reduceMul, Nat.reduceSub, Int.reduceToNat, reduceCtorEq, Int.reduceAdd, Int.reduceEq, Int.reduceLE, Int.reduceLT, Nat.reduceLT, Nat.reduceLeDiff, h1, h2, q1, q2]
    rw [g1 h1 h2]
  · have q1 : 0 ≤ an := by omega
    have q2 : ¬ 0 ≤ bn := by omega
    simp only [push_cast, ↓branch_true, ↓branch_false, Nat.reduceBEq, Nat.reduceAdd, Nat.reduceMul, Nat.reduceSub, Int.reduceToNat, reduceCtorEq, Int.reduceAdd, Int.reduceEq, Int.reduceLE, Int.reduceLT, Nat.reduceLT, Nat.reduceLeDiff, h1, h2, q1, q2]
    rw [g2 h1 h2]
  · have q1 : 0 ≤ an := by omega
    have q2 : 0 ≤ bn := by omega
    simp only [push_cast, ↓branch_true, ↓branch_false, Nat.reduceBEq, Nat.reduceAdd, Nat.reduceMul, Nat.reduceSub, Int.reduceToNat, reduceCtorEq, Int.reduceAdd, Int.reduceEq, Int.reduceLE, Int.reduceLT, Nat.reduceLT, Nat.reduceLeDiff, h1, h2, q1, q2]
    refine ⟨agg83 _ _ _ _, fun c => ?_, fun c => ?_⟩
    · have hr := g4 h1 h2
      rw [if_pos (by omega)] at hr
      rw [hr]
    have hr := g4 h1 h2
    rw [if_neg (by omega)] at hr
    by_cases c2 : X < Y
    · rw [if_pos c2] at hr
      rw [decide_eq_true c2] at lt'
      repeat' (first
        | (with_reducible apply And.intro)
        | (refine sp_pu (lt' _) ?_
           simp only [push_cast, ↓branch_true, ↓branch_false, Nat.reduceBEq, Nat.reduceAdd, Nat.reduceMul, Nat.reduceSub, Int.reduceToNat, reduceCtorEq, Int.reduceAdd, Int.reduceEq, Int.reduceLE, Int.reduceLT, Nat.reduceLT, Nat.reduceLeDiff, h1, h2, q1, q2, hr]
           ))
      all_goals simp [branch_true, branch_false]
    · rw [if_neg c2] at hr
      rw [decide_eq_false c2] at lt'
      repeat' (first
        | (with_reducible apply And.intro)
        | (refine sp_pu (lt' _) ?_
           simp only [push_cast, ↓branch_true, ↓branch_false, Nat.reduceBEq, Nat.reduceAdd, Nat.reduceMul, Nat.reduceSub, Int.reduceToNat, reduceCtorEq, Int.reduceAdd, Int.reduceEq, Int.reduceLE, Int.reduceLT, Nat.reduceLT, Nat.reduceLeDiff, h1, h2, q1, q2, hr]
           ))
      all_goals simp [branch_true, branch_false]
end Go.Proofs.YtdeaaonppokgkaaGreat
