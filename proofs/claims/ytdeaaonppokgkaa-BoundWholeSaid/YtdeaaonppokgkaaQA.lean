/- Plain law: fractions in lowest terms. -/
set_option maxRecDepth 100000
set_option linter.unusedSimpArgs false
set_option linter.unusedVariables false
namespace Go.Proofs.Ytdeaaonppokgkaa.Lp
/-- Lowest terms are unique. -/
theorem nu {n d N D : Nat} (hd : 0 < d) (hD : 0 < D) (hc : Nat.gcd n d = 1) (h : n * D = N * d) : n = N / Nat.gcd N D ∧ d = D / Nat.gcd N D := by
  have h1 : d ∣ n * D := ⟨N, by rw [h, Nat.mul_comm]⟩
  have h2 : d ∣ D := Nat.Coprime.dvd_of_dvd_mul_left (Nat.Coprime.symm hc) h1
  obtain ⟨k, rfl⟩ := h2
  have hk : 0 < k := Nat.pos_of_mul_pos_left hD
  have h3 : N = n * k := by
    refine Nat.eq_of_mul_eq_mul_right hd ?_
    rw [← h, Nat.mul_assoc, Nat.mul_comm k d]
  subst h3
  have h4 : Nat.gcd (n * k) (d * k) = k := by rw [Nat.gcd_mul_right, hc, Nat.one_mul]
  rw [h4, Nat.mul_div_cancel _ hk, Nat.mul_div_cancel _ hk]
  exact ⟨rfl, rfl⟩
theorem gdd {i j : Nat} (h : 0 < Nat.gcd i j) : Nat.gcd (i / Nat.gcd i j) (j / Nat.gcd i j) = 1 := by
  rw [Nat.gcd_div (Nat.gcd_dvd_left i j) (Nat.gcd_dvd_right i j), Nat.div_self h]
/-- The fraction N/D in lowest terms. -/
def rn (N : Int) (D : Nat) : Int := if N < 0 then -((N.natAbs / Nat.gcd N.natAbs D : Nat) : Int) else ((N.natAbs / Nat.gcd N.natAbs D : Nat) : Int)
def rd (N : Int) (D : Nat) : Nat := D / Nat.gcd N.natAbs D
theorem rn_abs (N : Int) (D : Nat) : (rn N D).natAbs = N.natAbs / Nat.gcd N.natAbs D := by
  unfold rn
  generalize N.natAbs / Nat.gcd N.natAbs D = q
  split <;> omega
theorem rd_pos (N : Int) {D : Nat} (h : 0 < D) : 0 < rd N D := Nat.div_pos (Nat.gcd_le_right _ h) (Nat.gcd_pos_of_pos_right _ h)
theorem rd_le (N : Int) (D : Nat) : rd N D ≤ D := Nat.div_le_self _ _
theorem rn_le (N : Int) (D : Nat) : (rn N D).natAbs ≤ N.natAbs := by rw [rn_abs]; exact Nat.div_le_self _ _
theorem r_cop (N : Int) {D : Nat} (h : 0 < D) : Nat.gcd (rn N D).natAbs (rd N D) = 1 := by
  rw [rn_abs]
  exact gdd (Nat.gcd_pos_of_pos_right _ h)
theorem rn_mul (N : Int) (D : Nat) : rn N D * (Nat.gcd N.natAbs D : Nat) = N := by
  have h := Nat.div_mul_cancel (Nat.gcd_dvd_left N.natAbs D)
  unfold rn
  generalize N.natAbs / Nat.gcd N.natAbs D = q at *
  generalize Nat.gcd N.natAbs D = g at *
  have h2 : (q : Int) * (g : Int) = (N.natAbs : Nat) := by rw [← h]; exact (Int.natCast_mul q g).symm
  split
  · rw [Int.neg_mul, h2]; omega
  · rw [h2]; omega
theorem rd_mul (N : Int) (D : Nat) : rd N D * Nat.gcd N.natAbs D = D := Nat.div_mul_cancel (Nat.gcd_dvd_right _ _)
theorem r_val (N : Int) (D : Nat) : rn N D * (D : Nat) = N * (rd N D : Nat) := by
  have h1 := rn_mul N D
  have h2 := rd_mul N D
  generalize Nat.gcd N.natAbs D = g at *
  have h3 : ((rd N D : Nat) : Int) * (g : Int) = (D : Nat) := by rw [← Int.natCast_mul, h2]
  rw [← h3]
  calc rn N D * ((rd N D : Nat) * (g : Int)) = rn N D * (g : Int) * (rd N D : Nat) := by rw [Int.mul_assoc, Int.mul_comm (g : Int)]
    _ = _ := by rw [h1]
theorem rn_neg (N : Int) {D : Nat} (hD : 0 < D) : rn N D < 0 ↔ N < 0 := by
  have h := rn_mul N D
  have hg : 0 < Nat.gcd N.natAbs D := Nat.gcd_pos_of_pos_right _ hD
  constructor
  · intro h2
    rw [← h]
    exact Int.mul_neg_of_neg_of_pos h2 (by omega)
  · intro h2
    refine Int.lt_of_not_ge fun h3 => ?_
    have := Int.mul_nonneg h3 (show (0 : Int) ≤ (Nat.gcd N.natAbs D : Nat) by omega)
    omega
theorem r_uniq {n N : Int} {d D : Nat} (hd : 0 < d) (hD : 0 < D) (hc : Nat.gcd n.natAbs d = 1) (h : n * (D : Nat) = N * (d : Nat)) : n = rn N D ∧ d = rd N D := by
  have h1 : n.natAbs * D = N.natAbs * d := by
    have := congrArg Int.natAbs h
    rwa [Int.natAbs_mul, Int.natAbs_mul] at this
  obtain ⟨e1, e2⟩ := nu hd hD hc h1
  refine ⟨?_, e2⟩
  have hs : n < 0 ↔ N < 0 := by
    constructor
    · intro h2
      refine Int.lt_of_not_ge fun h3 => ?_
      have q1 := Int.mul_nonneg h3 (show (0 : Int) ≤ (d : Nat) by omega)
      have q2 := Int.mul_neg_of_neg_of_pos h2 (show (0 : Int) < (D : Nat) by omega)
      omega
    · intro h2
      refine Int.lt_of_not_ge fun h3 => ?_
      have q1 := Int.mul_nonneg h3 (show (0 : Int) ≤ (D : Nat) by omega)
      have q2 := Int.mul_neg_of_neg_of_pos h2 (show (0 : Int) < (d : Nat) by omega)
      omega
  unfold rn
  rw [← e1]
  split <;> omega
/-- One value, one fraction. -/
theorem r_same {N N' : Int} {D D' : Nat} (hD : 0 < D) (hD' : 0 < D') (h : N * (D' : Nat) = N' * (D : Nat)) : rn N D = rn N' D' ∧ rd N D = rd N' D' := by
  refine r_uniq (rd_pos N hD) hD' (r_cop N hD) ?_
  have h1 := r_val N D
  have h0 : (D : Int) ≠ 0 := by omega
  refine Int.eq_of_mul_eq_mul_right h0 ?_
  calc rn N D * (D' : Int) * (D : Int) = rn N D * (D : Int) * (D' : Int) := by rw [Int.mul_assoc, Int.mul_comm (D' : Int), ← Int.mul_assoc]
    _ = N * (D' : Int) * (rd N D : Nat) := by rw [h1, Int.mul_assoc, Int.mul_comm ((rd N D : Nat) : Int), ← Int.mul_assoc]
    _ = N' * (D : Int) * (rd N D : Nat) := by rw [h]
    _ = _ := by rw [Int.mul_assoc, Int.mul_comm (D : Int), ← Int.mul_assoc]
theorem r_id {n : Int} {d : Nat} (hd : 0 < d) (hc : Nat.gcd n.natAbs d = 1) : rn n d = n ∧ rd n d = d := by
  obtain ⟨h1, h2⟩ := r_uniq (n := n) (N := n) (d := d) (D := d) hd hd hc rfl
  exact ⟨h1.symm, h2.symm⟩
/- ===== a product ===== -/
theorem div_cop {a b x y : Nat} (h : Nat.gcd a b = 1) (hx : x ∣ a) (hy : y ∣ b) : Nat.gcd x y = 1 := Nat.Coprime.coprime_dvd_left hx (Nat.Coprime.coprime_dvd_right hy h)
theorem div_dvd' {a b : Nat} (h : b ∣ a) : a / b ∣ a := ⟨b, (Nat.div_mul_cancel h).symm⟩
theorem mul_nat {a b p q : Nat} (hp : 0 < p) (hq : 0 < q) (h1 : Nat.gcd a p = 1) (h2 : Nat.gcd b q = 1) :
    a / Nat.gcd a q * (b / Nat.gcd b p) = a * b / Nat.gcd (a * b) (p * q) ∧ p / Nat.gcd b p * (q / Nat.gcd a q) = p * q / Nat.gcd (a * b) (p * q) := by
  have dg1 := Nat.gcd_dvd_left a q
  have dg2 := Nat.gcd_dvd_right a q
  have dh1 := Nat.gcd_dvd_left b p
  have dh2 := Nat.gcd_dvd_right b p
  have hg : 0 < Nat.gcd a q := Nat.gcd_pos_of_pos_right _ hq
  have hh : 0 < Nat.gcd b p := Nat.gcd_pos_of_pos_right _ hp
  have c1 := gdd (i := a) (j := q) hg
  have c2 := gdd (i := b) (j := p) hh
  have c3 := div_cop h1 (div_dvd' dg1) (div_dvd' dh2)
  have c4 := div_cop h2 (div_dvd' dh1) (div_dvd' dg2)
  have ea := Nat.div_mul_cancel dg1
  have eq := Nat.div_mul_cancel dg2
  have eb := Nat.div_mul_cancel dh1
  have ep := Nat.div_mul_cancel dh2
  have pp : 0 < p / Nat.gcd b p := Nat.div_pos (Nat.gcd_le_right _ hp) hh
  have pq : 0 < q / Nat.gcd a q := Nat.div_pos (Nat.gcd_le_right _ hq) hg
  refine nu (Nat.mul_pos pp pq) (Nat.mul_pos hp hq) ?_ ?_
  · exact Nat.Coprime.mul_left (Nat.Coprime.mul_right c3 c1) (Nat.Coprime.mul_right c2 c4)
  · generalize Nat.gcd a q = g at *
    generalize Nat.gcd b p = h at *
    generalize a / g = a1 at *
    generalize q / g = q1 at *
    generalize b / h = b1 at *
    generalize p / h = p1 at *
    subst ea eq eb ep
    grind
/-- The fraction of a product. -/
theorem mul_red {an bn : Int} {ad bd : Nat} (ha : 0 < ad) (hb : 0 < bd) (h1 : Nat.gcd an.natAbs ad = 1) (h2 : Nat.gcd bn.natAbs bd = 1) :
    an.natAbs / Nat.gcd an.natAbs bd * (bn.natAbs / Nat.gcd bn.natAbs ad) = (rn (an * bn) (ad * bd)).natAbs ∧ ad / Nat.gcd bn.natAbs ad * (bd / Nat.gcd an.natAbs bd) = rd (an * bn) (ad * bd) := by
  rw [rn_abs, rd, Int.natAbs_mul]
  exact mul_nat ha hb h1 h2
/- ===== a sum ===== -/
/-- The numerator of a sum, over the least common denominator. -/
def addT (an bn : Int) (ad bd : Nat) : Int := an * (bd / Nat.gcd ad bd : Nat) + bn * (ad / Nat.gcd ad bd : Nat)
theorem cop_sum {an bn : Int} {P Q : Nat} (h1 : Nat.gcd an.natAbs P = 1) (h2 : Nat.gcd Q P = 1) : Nat.gcd (an * (Q : Nat) + bn * (P : Nat)).natAbs P = 1 := by
  generalize he : Nat.gcd (an * (Q : Nat) + bn * (P : Nat)).natAbs P = e
  have d1 : e ∣ P := by rw [← he]; exact Nat.gcd_dvd_right _ _
  have d2 : e ∣ (an * (Q : Nat) + bn * (P : Nat)).natAbs := by rw [← he]; exact Nat.gcd_dvd_left _ _
  have d3 : (e : Int) ∣ an * (Q : Nat) + bn * (P : Nat) := Int.ofNat_dvd_left.2 d2
  have d4 : (e : Int) ∣ bn * (P : Nat) := Int.dvd_mul_of_dvd_right (Int.natCast_dvd_natCast.2 d1)
  have d5 : (e : Int) ∣ an * (Q : Nat) := by
    have := Int.dvd_sub d3 d4
    rwa [Int.add_sub_cancel] at this
  have d6 : e ∣ an.natAbs * Q := by
    have := Int.ofNat_dvd_left.1 d5
    rwa [Int.natAbs_mul, Int.natAbs_natCast] at this
  have c1 : Nat.gcd e an.natAbs = 1 := Nat.Coprime.coprime_dvd_left d1 (Nat.Coprime.symm h1)
  have d7 : e ∣ Q := Nat.Coprime.dvd_of_dvd_mul_left c1 d6
  have : e ∣ Nat.gcd Q P := Nat.dvd_gcd d7 d1
  rw [h2] at this
  exact Nat.dvd_one.1 this
theorem add_nat {T : Int} {t p q g P Q c : Nat} (hp : 0 < p) (hq : 0 < q) (hg : g = Nat.gcd p q) (hP : P = p / g) (hQ : Q = q / g) (hT : T.natAbs = t * g) (c1 : Nat.gcd t P = 1) (c2 : Nat.gcd t Q = 1) (hc : c = Nat.gcd g t) :
    t / c = (rn T (p * q)).natAbs ∧ P * (q / c) = rd T (p * q) := by
  have g0 : 0 < g := by rw [hg]; exact Nat.gcd_pos_of_pos_left _ hp
  have c0 : 0 < c := by rw [hc]; exact Nat.gcd_pos_of_pos_left _ g0
  have dp : g ∣ p := by rw [hg]; exact Nat.gcd_dvd_left _ _
  have dq : g ∣ q := by rw [hg]; exact Nat.gcd_dvd_right _ _
  have dcg : c ∣ g := by rw [hc]; exact Nat.gcd_dvd_left _ _
  have dct : c ∣ t := by rw [hc]; exact Nat.gcd_dvd_right _ _
  have ep := Nat.div_mul_cancel dp
  have eq := Nat.div_mul_cancel dq
  have eg := Nat.div_mul_cancel dcg
  have et := Nat.div_mul_cancel dct
  have cc : Nat.gcd (t / c) (g / c) = 1 := by
    have := gdd (i := g) (j := t) (by rw [← hc]; exact c0)
    rw [← hc, Nat.gcd_comm] at this
    exact this
  have cP : Nat.gcd (t / c) P = 1 := Nat.Coprime.coprime_dvd_left (div_dvd' dct) c1
  have cQ : Nat.gcd (t / c) Q = 1 := Nat.Coprime.coprime_dvd_left (div_dvd' dct) c2
  have eqc : q / c = Q * (g / c) := by
    rw [hQ]
    refine Nat.div_eq_of_eq_mul_left c0 ?_
    rw [Nat.mul_assoc, eg, eq]
  have pP : 0 < P := by rw [hP]; exact Nat.div_pos (Nat.le_of_dvd hp dp) g0
  have pq : 0 < q / c := Nat.div_pos (Nat.le_of_dvd hq (Nat.dvd_trans dcg dq)) c0
  rw [rn_abs, rd]
  refine nu (Nat.mul_pos pP pq) (Nat.mul_pos hp hq) ?_ ?_
  · rw [eqc]
    exact Nat.Coprime.mul_right cP (Nat.Coprime.mul_right cQ cc)
  · rw [hT, eqc]
    rw [← hP] at ep
    rw [← hQ] at eq
    generalize g / c = g1 at *
    generalize t / c = t1 at *
    clear hg hc hP hQ cc cP cQ eqc pP pq c1 c2 hT dp dq dcg dct
    subst et eg ep eq
    grind
theorem addT_mul (an bn : Int) (ad bd : Nat) : an * (bd : Nat) + bn * (ad : Nat) = addT an bn ad bd * (Nat.gcd ad bd : Nat) := by
  have ep := Nat.div_mul_cancel (Nat.gcd_dvd_left ad bd)
  have eq := Nat.div_mul_cancel (Nat.gcd_dvd_right ad bd)
  unfold addT
  generalize Nat.gcd ad bd = g at *
  generalize ad / g = P at *
  generalize bd / g = Q at *
  subst ep eq
  rw [Int.natCast_mul, Int.natCast_mul]
  grind
/-- The fraction of a sum. -/
theorem add_red {an bn : Int} {ad bd : Nat} (ha : 0 < ad) (hb : 0 < bd) (h1 : Nat.gcd an.natAbs ad = 1) (h2 : Nat.gcd bn.natAbs bd = 1) {c : Nat} (hc : c = Nat.gcd (Nat.gcd ad bd) (addT an bn ad bd).natAbs) :
    (addT an bn ad bd).natAbs / c = (rn (an * (bd : Nat) + bn * (ad : Nat)) (ad * bd)).natAbs ∧ ad / Nat.gcd ad bd * (bd / c) = rd (an * (bd : Nat) + bn * (ad : Nat)) (ad * bd) := by
  have hg : 0 < Nat.gcd ad bd := Nat.gcd_pos_of_pos_left _ ha
  have cc := gdd (i := ad) (j := bd) hg
  refine add_nat ha hb rfl rfl rfl ?_ ?_ ?_ hc
  · rw [addT_mul, Int.natAbs_mul, Int.natAbs_natCast]
  · exact cop_sum (div_cop h1 (Nat.dvd_refl _) (div_dvd' (Nat.gcd_dvd_left _ _))) (by rw [Nat.gcd_comm]; exact cc)
  · unfold addT
    rw [Int.add_comm]
    exact cop_sum (div_cop h2 (Nat.dvd_refl _) (div_dvd' (Nat.gcd_dvd_right _ _))) cc
end Go.Proofs.Ytdeaaonppokgkaa.Lp
