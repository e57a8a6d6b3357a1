/- Contracts of package ratio: product, less, plus, minus, over, Valid. Contracts of package ratio: Mul, Add, Cmp. Contract of package ratio: Add. Contract of package ratio: Add. Contract of package ratio: Add, for valid fractions. Contract of package ratio: Cmp, for valid fractions. Contract: sums of numbers times fractions. Contracts: right, cmp, column, rights, signed. Contracts: feasible, below. Contracts: below. Contract: Refutes. Contract: Check. -/
import Derived.Test.YtdeaaonppokgkaaGreatGD
import Derived.Test.YtdeaaonppokgkaaGreatGE
set_option maxRecDepth 100000
set_option linter.unusedSimpArgs false
set_option linter.unusedVariables false
namespace Go.Proofs.YtdeaaonppokgkaaGreat
open Go.RowKit Lp
/-- A number of 128 bits. -/
def hN (x : Nat) : Nat := x / 18446744073709551616
def lN (x : Nat) : Nat := x % 18446744073709551616
def wV (x : Nat) : SV := .a [.v (.int .u64 (hN x : Nat)), .v (.int .u64 (lN x : Nat))]
attribute [push_cast] wV
theorem hl (x : Nat) : hN x * 18446744073709551616 + lN x = x := Nat.div_add_mod' _ _
theorem lN_lt (x : Nat) : lN x < 18446744073709551616 := Nat.mod_lt _ (by decide)
theorem hN_lt {x : Nat} (h : x < 340282366920938463463374607431768211456) : hN x < 18446744073709551616 := by unfold hN; omega
/-- A valid fraction. -/
def vF (n d : Int) : Bool := decide (1 ≤ d) && (decide (d ≤ 1152921504606846976) && (decide (-1152921504606846976 ≤ n) && (decide (n ≤ 1152921504606846976) && (Nat.gcd n.natAbs d.toNat == 1))))
theorem vF_nat (n : Int) (D g : Nat) (h : Nat.gcd n.natAbs D = g) : vF n (D : Int) = (decide (1 ≤ (D : Int)) && (decide ((D : Int) ≤ 1152921504606846976) && (decide (-1152921504606846976 ≤ n) && (decide (n ≤ 1152921504606846976) && (g == 1))))) := by
  unfold vF
  rw [Int.toNat_natCast, h]
end Go.Proofs.YtdeaaonppokgkaaGreat
namespace Go.Proofs.YtdeaaonppokgkaaGreat
open Go.RowKit Lp
/-- A valid fraction. -/
structure Frc (n : Int) (d : Nat) : Prop where
  d0 : 0 < d
  d1 : d ≤ 1152921504606846976
  n1 : n.natAbs ≤ 1152921504606846976
  cop : Nat.gcd n.natAbs d = 1
theorem Frc.vF {n : Int} {d : Nat} (h : Frc n d) : vF n (d : Int) = true := by
  have h1 := h.d0
  have h2 := h.d1
  have h3 := h.n1
  rw [vF_nat n d 1 h.cop]
  simp
  omega
/-- What a sum or product returns. -/
def rsQ (N : Int) (D : Nat) : SV := sgR (decide (N < 0)) (rn N D).natAbs (rd N D)
theorem sgR_big {neg : Bool} {n d : Nat} (h : ¬ (n ≤ 1152921504606846976 ∧ d ≤ 1152921504606846976)) : sgR neg n d = .t [frV 0 0, .v (.int .i64 5)] := by
  unfold sgR sgN sgD sgE
  rw [if_neg h, if_neg h, if_neg h]
theorem pu_any {P : Program} {f : FuncId} {args : List SV} {r : SV} {v : Value} (h : Pu P f args [] r) (hg : gnd r = some v) (ha : mtL [] args args) : ∀ H, Pu P f args H r := fun H => pu_at h hg [] rfl ha (by (simp only [push_cast, ↓branch_true, ↓branch_false, Nat.reduceBEq, Nat.reduceAdd, Nat.reduceMul, Nat.reduceSub, Int.reduceToNat, reduceCtorEq, Int.reduceAdd, Int.reduceEq, Int.reduceLE, Int.reduceLT, Nat.reduceLT, Nat.reduceLeDiff]))
theorem pu_a {P : Program} {f : FuncId} {args : List SV} {r : SV} {v : Value} (h : Pu P f args [] r) (hg : gnd r = some v) (H : List Ob) (ha : mtL [] args args := by (simp only [push_cast, ↓branch_true, ↓branch_false, Nat.reduceBEq, Nat.reduceAdd, Nat.reduceMul, Nat.reduceSub, Int.reduceToNat, reduceCtorEq, Int.reduceAdd, Int.reduceEq, Int.reduceLE, Int.reduceLT, Nat.reduceLT, Nat.reduceLeDiff])) : Pu P f args H r := pu_any h hg ha H
theorem td {a b : Nat} : ((a : Nat) : Int).tdiv (b : Int) = ((a / b : Nat) : Int) := (Int.ofNat_tdiv _ _).symm
end Go.Proofs.YtdeaaonppokgkaaGreat
namespace Go.Proofs.YtdeaaonppokgkaaGreat
open Go.RowKit Lp
theorem agg_two {P : Program} {t : TypeId} (k : IntKind) (f0 f1 : Field) (h1 : P.eqGuardType P.depth t = false) (h2 : P.underlying t = some (.struct (P.fieldsOf t))) (h3 : P.stoodInHeld t = false)
    (h4 : (P.fieldsOf t).toList = [f0, f1]) (n0 : (f0.name == "_") = false) (n1 : (f1.name == "_") = false) (o0 : f0.offset = 0) (o1 : f1.offset = 1) (t0 : P.underlying f0.type = some (.int k)) (t1 : P.underlying f1.type = some (.int k)) (c0 : P.cellsOf f0.type = 1) (c1 : P.cellsOf f1.type = 1)
    (a b c d : Int) : AggEq P t [.int k a, .int k b] [.int k c, .int k d] := by
  intro op x y w
  refine ⟨run_eqGuard_agg w op t x y _ _ h1, ?_⟩
  simp only [Op.equal, Op.maxDepth]
  rw [run_equalIn_agg w 9999 t _ _ h2 h3, h4]
  have n0 : f0.name ≠ "_" := by simpa using n0
  have n1 : f1.name ≠ "_" := by simpa using n1
  simp only [Op.eqFields, n0, n1, ne_eq, not_false_eq_true, if_true, Sem.run_bind, o0, o1]
  have p : ∀ (f : TypeId) (xs : Array Value) (off : Nat) (v : Value), P.underlying f = some (.int k) → xs[off]? = some v → (part f xs off).run P w = .ok v w := fun f xs off v hu hx => by
    simp [part, isAgg, Sem.run_bind, run_underlying hu, hx, Result.andThen, Sem.run_pure]
  rw [p _ _ _ (.int k a) t0 rfl]
  simp only [Result.andThen_ok]
  rw [p _ _ _ (.int k c) t0 rfl]
  simp only [Result.andThen_ok, run_equalIn_int w 9998 _ _ _ a c t0]
  by_cases e : a = c
  · subst e
    simp only [beq_self_eq_true, Bool.not_true, Bool.false_eq_true, if_false, Sem.run_bind]
    rw [p _ _ _ (.int k b) t1 rfl]
    simp only [Result.andThen_ok]
    rw [p _ _ _ (.int k d) t1 rfl]
    simp only [Result.andThen_ok, run_equalIn_int w 9998 _ _ _ b d t1]
    by_cases e : b = d
    · subst e
      simp [Sem.run_pure, eqLB]
    · have : (b == d) = false := by simpa using e
      simp [Sem.run_pure, eqLB, this]
  · have : (a == c) = false := by simpa using e
    simp [Sem.run_pure, eqLB, this]
theorem agg27 (a b c d : Int) : AggEq Tryz.prog 27 [.int .i64 a, .int .i64 b] [.int .i64 c, .int .i64 d] :=
  agg_two .i64 (Tryz.prog.fieldsOf 27)[0]! (Tryz.prog.fieldsOf 27)[1]! (by kernel_rfl) (by kernel_rfl) (by kernel_rfl) (by kernel_rfl) (by kernel_rfl) (by kernel_rfl) (by kernel_rfl) (by kernel_rfl) (by kernel_rfl) (by kernel_rfl) (by kernel_rfl) (by kernel_rfl) a b c d
end Go.Proofs.YtdeaaonppokgkaaGreat
namespace Go.Proofs.YtdeaaonppokgkaaGreat
open Go.RowKit Lp
def oF (r : Bool) (n d : Int) : Ob := ⟨27, r, .st [.v (.int .i64 n), .v (.int .i64 d)]⟩
attribute [push_cast] oF
end Go.Proofs.YtdeaaonppokgkaaGreat
namespace Go.Proofs.YtdeaaonppokgkaaGreat
open Go.RowKit Lp
end Go.Proofs.YtdeaaonppokgkaaGreat
namespace Go.Proofs.YtdeaaonppokgkaaGreat
open Go.RowKit Lp
def cmpS (x y : Int) : Int := if x < y then -1 else if x = y then 0 else 1
end Go.Proofs.YtdeaaonppokgkaaGreat
namespace Go.Proofs.YtdeaaonppokgkaaGreat
open Go.RowKit Lp
/-- A fraction that is not too large. -/
def OkQ (N : Int) (D : Nat) : Prop := (rn N D).natAbs ≤ 1152921504606846976 ∧ rd N D ≤ 1152921504606846976
instance (N : Int) (D : Nat) : Decidable (OkQ N D) := by unfold OkQ; exact inferInstance
theorem rsQ_ok {N : Int} {D : Nat} (hD : 0 < D) (h : OkQ N D) : rsQ N D = .t [frV (rn N D) (rd N D : Nat), .v (.int .i64 0)] := by
  have h1 := rn_neg N hD
  unfold rsQ sgR sgN sgD sgE
  rw [if_pos (show _ ∧ _ from h), if_pos (show _ ∧ _ from h), if_pos (show _ ∧ _ from h)]
  by_cases h2 : N < 0
  · rw [decide_eq_true h2, cond_true, show -((rn N D).natAbs : Int) = rn N D by have := h1.2 h2; omega]
  · rw [decide_eq_false h2, cond_false, show ((rn N D).natAbs : Int) = rn N D by have : ¬ rn N D < 0 := fun h => h2 (h1.1 h); omega]
theorem rsQ_no {N : Int} {D : Nat} (h : ¬ OkQ N D) : rsQ N D = .t [frV 0 0, .v (.int .i64 5)] := sgR_big h
theorem frc_of {N : Int} {D : Nat} (hD : 0 < D) (h : OkQ N D) : Frc (rn N D) (rd N D) := ⟨rd_pos N hD, h.2, h.1, r_cop N hD⟩
theorem frc_one {n : Int} (h : n.natAbs ≤ 1152921504606846976) : Frc n 1 := ⟨by decide, by decide, h, Nat.gcd_one_right _⟩
/-- The sums, one after the other; none if one is too large. -/
def ofS (f N : Nat → Int) (D : Nat → Nat) : Nat → Option (Int × Nat)
  | 0 => some (0, 1)
  | k + 1 => (ofS f N D k).bind fun s =>
    if OkQ (f k * N k) (D k) ∧ OkQ (s.1 * (rd (f k * N k) (D k) : Nat) + rn (f k * N k) (D k) * (s.2 : Nat)) (s.2 * rd (f k * N k) (D k)) then
      some (rn (s.1 * (rd (f k * N k) (D k) : Nat) + rn (f k * N k) (D k) * (s.2 : Nat)) (s.2 * rd (f k * N k) (D k)), rd (s.1 * (rd (f k * N k) (D k) : Nat) + rn (f k * N k) (D k) * (s.2 : Nat)) (s.2 * rd (f k * N k) (D k))) else none
theorem ofS_none {f N : Nat → Int} {D : Nat → Nat} {k : Nat} (h : ofS f N D k = none) : ∀ {n : Nat}, k ≤ n → ofS f N D n = none
  | 0, hn => by obtain rfl : k = 0 := by omega
                exact h
  | n + 1, hn => by
    by_cases e : k = n + 1
    · rw [← e]; exact h
    · rw [ofS, ofS_none h (by omega)]; rfl
def rFx (n cap : Nat) (N : Nat → Int) (D : Nat → Nat) : Ob := ⟨27, true, .row 2 1 (fun _ => n) (fun _ => cap) (fun _ k => [.v (.int .i64 (N k)), .v (.int .i64 (D k : Nat))])⟩
attribute [push_cast] rFx
end Go.Proofs.YtdeaaonppokgkaaGreat
namespace Go.Proofs.YtdeaaonppokgkaaGreat
open Go.RowKit Lp
theorem ent_allT (q : Nat → Bool) (n : Nat) : decide (0 ≤ ent q n) = !decide (∀ k, k < n → q k = false) := by
  rcases ent_spec (p := q) (F := n) with ⟨h1, h2⟩ | ⟨e, h1, h2, h3, _⟩
  · rw [h1, decide_eq_true h2]; rfl
  · have e1 : ¬ ∀ k, k < n → q k = false := fun h => by rw [h e h1] at h3; cases h3
    rw [h2, decide_eq_false e1, decide_eq_true (show (0 : Int) ≤ (e : Nat) by omega)]; rfl
/-- All are valid. -/
def rgt (n : Nat) (N D : Nat → Int) : Bool := decide (∀ k, k < n → vF (N k) (D k) = true)
/-- The multipliers' signs are right. -/
def sgOk (p : Pm) (N : Nat → Int) (t : Nat) : Bool := !((p.kd t == 1 && decide (0 < N t)) || (p.kd t == 2 && decide (N t < 0)))
def sgB (p : Pm) (N : Nat → Int) : Bool := decide (∀ t, t < p.m → sgOk p N t = true)
end Go.Proofs.YtdeaaonppokgkaaGreat
namespace Go.Proofs.YtdeaaonppokgkaaGreat
open Go.RowKit Lp
def okO (f : Int × Nat → Bool) : Option (Int × Nat) → Bool
  | some s => f s
  | none => true
/-- What a test of some sums says: right, if no sum is too large. -/
def AllR (S : Nat → Option (Int × Nat)) (ok : Nat → Int × Nat → Bool) (m : Nat) (b0 : Bool) (e : Int) (b : Bool) (e' : Int) : Prop :=
  ((∀ t, t < m → S t ≠ none) ∧ e' = e ∧ b = (b0 && decide (∀ t, t < m → okO (ok t) (S t) = true))) ∨ ((∃ t, t < m ∧ S t = none) ∧ e' = 5)
theorem AllR.zero (S : Nat → Option (Int × Nat)) (ok : Nat → Int × Nat → Bool) (b : Bool) (e : Int) : AllR S ok 0 b e b e :=
  .inl ⟨fun t h => absurd h (Nat.not_lt_zero _), rfl, by rw [decide_eq_true fun t h => absurd h (Nat.not_lt_zero _), Bool.and_true]⟩
theorem AllR.some {S : Nat → Option (Int × Nat)} {ok : Nat → Int × Nat → Bool} {m : Nat} {b0 b b' : Bool} {e e' : Int} {s : Int × Nat} (h : AllR S ok m b0 e b e') (hs : S m = some s) (hb : b' = (b && ok m s)) : AllR S ok (m + 1) b0 e b' e' := by
  rcases h with ⟨h1, h2, h3⟩ | ⟨⟨t, h1, h2⟩, h3⟩
  · refine .inl ⟨fun t ht => ?_, h2, ?_⟩
    · by_cases e : t = m
      · rw [e, hs]; exact fun h => by cases h
      · exact h1 t (by omega)
    · rw [hb, h3, Bool.and_assoc]
      congr 1
      rw [Bool.eq_iff_iff, Bool.and_eq_true, decide_eq_true_eq, decide_eq_true_eq]
      constructor
      · rintro ⟨h4, h5⟩ t ht
        by_cases e : t = m
        · rw [e, hs]; exact h5
        · exact h4 t (by omega)
      · intro h4
        refine ⟨fun t ht => h4 t (by omega), ?_⟩
        have := h4 m (by omega)
        rw [hs] at this
        exact this
  · exact .inr ⟨⟨t, by omega, h2⟩, h3⟩
theorem AllR.none {S : Nat → Option (Int × Nat)} {ok : Nat → Int × Nat → Bool} {m : Nat} {b0 b : Bool} {e : Int} (hs : S m = none) : AllR S ok (m + 1) b0 e b 5 := .inr ⟨⟨m, by omega, hs⟩, rfl⟩
/-- The sum of a row. -/
def rowS (p : Pm) (N : Nat → Int) (D : Nat → Nat) (t : Nat) : Option (Int × Nat) := ofS (p.a t) N D p.n
def rOk (p : Pm) (t : Nat) (s : Int × Nat) : Bool := (decide (p.kd t ≠ 1) || decide (s.1 ≤ p.b t * (s.2 : Nat))) && ((decide (p.kd t ≠ 2) || decide (p.b t * (s.2 : Nat) ≤ s.1)) && (decide (p.kd t ≠ 3) || decide (s.1 = p.b t * (s.2 : Nat))))
def nnB (n : Nat) (N : Nat → Int) : Bool := decide (∀ k, k < n → 0 ≤ N k)
end Go.Proofs.YtdeaaonppokgkaaGreat
namespace Go.Proofs.YtdeaaonppokgkaaGreat
open Go.RowKit Lp
/-- The sum of a column. -/
def colS (p : Pm) (N : Nat → Int) (D : Nat → Nat) (j : Nat) : Option (Int × Nat) := ofS (fun t => p.a t j) N D p.m
def cOk (most : Nat → Int) (j : Nat) (s : Int × Nat) : Bool := decide (s.1 ≤ most j * (s.2 : Nat))
theorem cOk_cmp (most : Nat → Int) (j : Nat) (s : Int × Nat) (c : Int) (h : c = cmpS s.1 (most j * (s.2 : Nat))) : cOk most j s = decide (c ≤ 0) := by
  unfold cOk
  rw [h, decide_eq_decide]
  unfold cmpS
  (repeat' split) <;> omega
end Go.Proofs.YtdeaaonppokgkaaGreat
namespace Go.Proofs.YtdeaaonppokgkaaGreat
open Go.RowKit Lp
def errQ (c : Bool) : Int := bif c then 0 else 5
/-- All sums of multipliers are small enough. -/
def yAll (p : Pm) (N : Nat → Int) (D : Nat → Nat) : Bool := decide (∀ j, j < p.n → colS p N D j ≠ none) && (ofS p.b N D p.m).isSome
def refB (p : Pm) (N : Nat → Int) (D : Nat → Nat) : Bool := decide (∀ j, j < p.n → okO (cOk (fun _ => 0) j) (colS p N D j) = true) && (okO (fun s => decide (0 < s.1)) (ofS p.b N D p.m) && sgB p N)
inductive RefR (p : Pm) (n : Nat) (N D : Nat → Int) : Bool → Int → Prop
  | arg (h : vPm p = false ∨ rgt n N D = false) : RefR p n N D false 1
  | size (hv : vPm p = true) (hr : rgt n N D = true) (h : n ≠ p.m) : RefR p n N D false 3
  | ok (hv : vPm p = true) (hr : rgt n N D = true) (h : n = p.m) : RefR p n N D (yAll p N (fun k => (D k).toNat) && refB p N (fun k => (D k).toNat)) (errQ (yAll p N fun k => (D k).toNat))
end Go.Proofs.YtdeaaonppokgkaaGreat
namespace Go.Proofs.YtdeaaonppokgkaaGreat
open Go.RowKit Lp
def xAll (p : Pm) (N : Nat → Int) (D : Nat → Nat) : Bool := decide (∀ t, t < p.m → rowS p N D t ≠ none) && (ofS p.co N D p.n).isSome
def isQ (o : Option (Int × Nat)) (vn : Int) (vd : Nat) : Bool := match o with | some s => (s.1 == vn && (s.2 : Int) == (vd : Int)) | none => true
def feaB (p : Pm) (N : Nat → Int) (D : Nat → Nat) : Bool := nnB p.n N && decide (∀ t, t < p.m → okO (rOk p t) (rowS p N D t) = true)
def belB (p : Pm) (c : Nat → Int) (N : Nat → Int) (D : Nat → Nat) : Bool := decide (∀ j, j < p.n → okO (cOk c j) (colS p N D j) = true)
def chkB (p : Pm) (vn : Int) (vd : Nat) (XN : Nat → Int) (XD : Nat → Nat) (YN : Nat → Int) (YD : Nat → Nat) : Bool :=
  feaB p XN XD && (isQ (ofS p.co XN XD p.n) vn vd && (belB p p.co YN YD && (isQ (ofS p.b YN YD p.m) vn vd && sgB p YN)))
inductive ChkR (p : Pm) (vn vd : Int) (nx : Nat) (XN XD : Nat → Int) (ny : Nat) (YN YD : Nat → Int) : Bool → Int → Prop
  | arg (h : vPm p = false ∨ vF vn vd = false ∨ rgt nx XN XD = false ∨ rgt ny YN YD = false) : ChkR p vn vd nx XN XD ny YN YD false 1
  | size (hv : vPm p = true) (hq : vF vn vd = true) (hx : rgt nx XN XD = true) (hy : rgt ny YN YD = true) (h : nx ≠ p.n ∨ ny ≠ p.m) : ChkR p vn vd nx XN XD ny YN YD false 3
  | ok (hv : vPm p = true) (hq : vF vn vd = true) (hx : rgt nx XN XD = true) (hy : rgt ny YN YD = true) (h1 : nx = p.n) (h2 : ny = p.m) :
    ChkR p vn vd nx XN XD ny YN YD ((xAll p XN (fun k => (XD k).toNat) && yAll p YN fun k => (YD k).toNat) && chkB p vn vd.toNat XN (fun k => (XD k).toNat) YN fun k => (YD k).toNat) (errQ (xAll p XN (fun k => (XD k).toNat) && yAll p YN fun k => (YD k).toNat))
end Go.Proofs.YtdeaaonppokgkaaGreat
