/- Plain law: what a last table says of the program that it came from. -/
import Derived.Test.YtmefgachdnlaoaaPC
namespace Go.Proofs.Ytmefgachdnlaoaa.Lp
theorem sm_split (f : Nat → Int) (a : Nat) : ∀ b, sm (a + b) f = sm a f + sm b fun k => f (a + k)
  | 0 => by simp [sm]
  | b + 1 => by rw [show a + (b + 1) = (a + b) + 1 by omega, sm, sm, sm_split f a b]; omega
/-- A row's condition: at most, at least, or equal. -/
inductive Kd where
  | le | ge | eq
def Kd.slack : Kd → Int
  | .le => 1
  | .ge => -1
  | .eq => 0
def Kd.ok (k : Kd) (x b : Int) : Prop :=
  match k with
  | .le => x ≤ b
  | .ge => b ≤ x
  | .eq => x = b
/-- Which multipliers are right. -/
def Kd.sgn (k : Kd) (y : Int) : Prop :=
  match k with
  | .le => y ≤ 0
  | .ge => 0 ≤ y
  | .eq => True
structure Lp where
  n : Nat
  m : Nat
  a : Nat → Nat → Int
  kind : Nat → Kd
  b : Nat → Int
  c : Nat → Int
structure Prim (p : Lp) (X : Nat → Int) (d : Int) : Prop where
  pos : 0 < d
  nn : ∀ j, j < p.n → 0 ≤ X j
  row : ∀ t, t < p.m → (p.kind t).ok (sm p.n fun j => p.a t j * X j) (p.b t * d)
/-- Multipliers: below 'e' in each column. -/
structure Dual (p : Lp) (e : Nat → Int) (Y : Nat → Int) : Prop where
  col : ∀ j, j < p.n → (sm p.m fun t => p.a t j * Y t) ≤ e j
  sgn : ∀ t, t < p.m → (p.kind t).sgn (Y t)
def pval (p : Lp) (X : Nat → Int) : Int := sm p.n fun j => p.c j * X j
def dval (p : Lp) (Y : Nat → Int) : Int := sm p.m fun t => p.b t * Y t
/-- What multipliers say of a point. -/
theorem dual_le {p : Lp} {X Y e : Nat → Int} {d : Int} (hX : Prim p X d) (hY : Dual p e Y) : dval p Y * d ≤ sm p.n fun j => e j * X j := by
  have h1 : dval p Y * d ≤ sm p.m fun t => Y t * sm p.n fun j => p.a t j * X j := by
    unfold dval
    rw [← sm_mul']
    refine sm_le fun t ht => ?_
    have r := hX.row t ht
    have g := hY.sgn t ht
    cases hk : p.kind t with
    | le =>
      rw [hk] at r g
      have r : (sm p.n fun j => p.a t j * X j) ≤ p.b t * d := r
      have g : Y t ≤ 0 := g
      have := Int.mul_le_mul_of_nonneg_left r (show 0 ≤ - Y t by omega)
      rw [Int.neg_mul, Int.neg_mul] at this
      have e : p.b t * Y t * d = Y t * (p.b t * d) := by grind
      omega
    | ge =>
      rw [hk] at r g
      have r : p.b t * d ≤ sm p.n fun j => p.a t j * X j := r
      have g : 0 ≤ Y t := g
      have := Int.mul_le_mul_of_nonneg_left r g
      have e : p.b t * Y t * d = Y t * (p.b t * d) := by grind
      omega
    | eq =>
      rw [hk] at r
      have r : (sm p.n fun j => p.a t j * X j) = p.b t * d := r
      rw [r]
      exact Int.le_of_eq (by grind)
  have h2 : (sm p.m fun t => Y t * sm p.n fun j => p.a t j * X j) = sm p.n fun j => (sm p.m fun t => p.a t j * Y t) * X j := by
    have e1 : (sm p.m fun t => Y t * sm p.n fun j => p.a t j * X j) = sm p.m fun t => sm p.n fun j => Y t * (p.a t j * X j) := sm_congr fun t _ => (sm_mul _ _ _).symm
    rw [e1, sm_swap fun t j => Y t * (p.a t j * X j)]
    refine sm_congr fun j _ => ?_
    rw [← sm_mul']
    exact sm_congr fun t _ => by grind
  rw [h2] at h1
  refine Int.le_trans h1 (sm_le fun j hj => ?_)
  exact Int.mul_le_mul_of_nonneg_right (hY.col j hj) (hX.nn j hj)
/-- **Weak duality.** -/
theorem weak_dual {p : Lp} {X Y : Nat → Int} {d d' : Int} (hX : Prim p X d) (hY : Dual p (fun j => p.c j * d') Y) : dval p Y * d ≤ pval p X * d' := by
  have := dual_le hX hY
  unfold pval
  rw [← sm_mul']
  have e : (sm p.n fun j => p.c j * d' * X j) = sm p.n fun j => p.c j * X j * d' := sm_congr fun j _ => by grind
  omega
/-- Multipliers that refute a program. -/
theorem farkas_no {p : Lp} {X Y : Nat → Int} {d : Int} (hX : Prim p X d) (hY : Dual p (fun _ => 0) Y) (hv : 0 < dval p Y) : False := by
  have := dual_le hX hY
  rw [sm_zero fun j _ => Int.zero_mul _] at this
  have := Int.mul_pos hv hX.pos
  omega
/-- A direction in which the value goes down for ever. -/
structure Ray (p : Lp) (W : Nat → Int) : Prop where
  nn : ∀ j, j < p.n → 0 ≤ W j
  row : ∀ t, t < p.m → (p.kind t).ok (sm p.n fun j => p.a t j * W j) 0
  neg : pval p W < 0
theorem ray_no {p : Lp} {W Y : Nat → Int} {d : Int} (hW : Ray p W) (hd : 0 < d) (hY : Dual p (fun j => p.c j * d) Y) : False := by
  have h1 : 0 ≤ sm p.m fun t => Y t * sm p.n fun j => p.a t j * W j := sm_nonneg fun t ht => by
    have r := hW.row t ht
    have g := hY.sgn t ht
    cases hk : p.kind t with
    | le =>
      rw [hk] at r g
      have r : (sm p.n fun j => p.a t j * W j) ≤ 0 := r
      have g : Y t ≤ 0 := g
      have := Int.mul_nonneg (show 0 ≤ - Y t by omega) (show 0 ≤ - sm p.n fun j => p.a t j * W j by omega)
      rwa [Int.neg_mul_neg] at this
    | ge =>
      rw [hk] at r g
      exact Int.mul_nonneg g r
    | eq =>
      rw [hk] at r
      have r : (sm p.n fun j => p.a t j * W j) = 0 := r
      rw [r, Int.mul_zero]
      exact Int.le_refl _
  have h2 : (sm p.m fun t => Y t * sm p.n fun j => p.a t j * W j) = sm p.n fun j => (sm p.m fun t => p.a t j * Y t) * W j := by
    have e1 : (sm p.m fun t => Y t * sm p.n fun j => p.a t j * W j) = sm p.m fun t => sm p.n fun j => Y t * (p.a t j * W j) := sm_congr fun t _ => (sm_mul _ _ _).symm
    rw [e1, sm_swap fun t j => Y t * (p.a t j * W j)]
    refine sm_congr fun j _ => ?_
    rw [← sm_mul']
    exact sm_congr fun t _ => by grind
  have h3 : (sm p.n fun j => (sm p.m fun t => p.a t j * Y t) * W j) ≤ sm p.n fun j => p.c j * d * W j := sm_le fun j hj => Int.mul_le_mul_of_nonneg_right (hY.col j hj) (hW.nn j hj)
  have h4 : (sm p.n fun j => p.c j * d * W j) = pval p W * d := by
    unfold pval
    rw [← sm_mul']
    exact sm_congr fun j _ => by grind
  have := Int.mul_pos (show 0 < - pval p W by have := hW.neg; omega) hd
  rw [Int.neg_mul] at this
  omega
/- ===== the first table ===== -/
/-- The columns of a program: variables, slacks, artificial variables, right-hand sides. -/
structure Form (p : Lp) (A : Nat → Nat → Int) (F : Nat) (σ : Nat → Int) (srow scol : Nat → Nat) : Prop where
  nF : p.n ≤ F
  unit : ∀ t, t < p.m → σ t = 1 ∨ σ t = -1
  var : ∀ t j, t < p.m → j < p.n → A t j = σ t * p.a t j
  slk : ∀ t j, t < p.m → p.n ≤ j → j < F → A t j = if t = srow j then σ t * (p.kind t).slack else 0
  slt : ∀ j, p.n ≤ j → j < F → srow j < p.m
  scl : ∀ t, t < p.m → (p.kind t).slack ≠ 0 → p.n ≤ scol t ∧ scol t < F ∧ srow (scol t) = t
  art : ∀ t q, t < p.m → q < p.m → A t (F + q) = if t = q then 1 else 0
  right : ∀ t, t < p.m → A t (F + p.m) = σ t * p.b t
  rnn : ∀ t, t < p.m → 0 ≤ σ t * p.b t
section
variable {p : Lp} {A : Nat → Nat → Int} {F : Nat} {σ : Nat → Int} {srow scol : Nat → Nat}
theorem Form.sq (h : Form p A F σ srow scol) {t : Nat} (ht : t < p.m) : σ t * σ t = 1 := by rcases h.unit t ht with e | e <;> rw [e] <;> rfl
/-- The artificial columns tell all columns. -/
theorem Form.lin (h : Form p A F σ srow scol) {s : Tabl} {g : Int} (ht : Tab A p.m (F + p.m + 1) s g) {k j : Nat} (hk : k < p.m) (hj : j < F + p.m + 1) : s.T k j = sm p.m fun q => A q j * s.T k (F + q) := by
  rw [ht.cell k j hk hj, phi_set]
  have e1 : (sm p.m fun q => A q j * s.T k (F + q)) = sm p.m fun q => g * (A q j * D p.m (setC (fun t k => A t (s.b k)) k fun t => A t (F + q))) := sm_congr fun q hq => by
    rw [ht.cell k _ hk (by omega), phi_set]
    grind
  rw [e1, sm_mul, ← D_sum hk (fun q => A q j) (fun q t => A t (F + q)) p.m]
  congr 1
  refine D_congr fun t i hti _ => ?_
  unfold setC
  split
  · show A t j = sm p.m fun q => A q j * A t (F + q)
    rw [sm_one (q := t) hti fun q hq hqt => by rw [h.art t q hti hq, if_neg (fun e => hqt e.symm), Int.mul_zero], h.art t t hti hti, if_pos rfl, Int.mul_one]
  · rfl
/-- The costs of the basis, times a column. -/
def wsum (m : Nat) (c : Nat → Int) (s : Tabl) (j : Nat) : Int := sm m fun k => c (s.b k) * s.T k j
theorem Form.wlin (h : Form p A F σ srow scol) {s : Tabl} {g : Int} (ht : Tab A p.m (F + p.m + 1) s g) (c : Nat → Int) {j : Nat} (hj : j < F + p.m + 1) : wsum p.m c s j = sm p.m fun q => A q j * wsum p.m c s (F + q) := by
  unfold wsum
  have e1 : (sm p.m fun k => c (s.b k) * s.T k j) = sm p.m fun k => sm p.m fun q => c (s.b k) * (A q j * s.T k (F + q)) := sm_congr fun k hk => by
    rw [h.lin ht hk hj, sm_mul]
  rw [e1, sm_swap fun k q => c (s.b k) * (A q j * s.T k (F + q))]
  refine sm_congr fun q _ => ?_
  rw [← sm_mul]
  exact sm_congr fun k _ => by grind
/-- The multipliers of a table. -/
def mult (σ : Nat → Int) (F m : Nat) (c : Nat → Int) (s : Tabl) (t : Nat) : Int := σ t * wsum m c s (F + t)
theorem Form.dual (h : Form p A F σ srow scol) {s : Tabl} {g : Int} (ht : Tab A p.m (F + p.m + 1) s g) (c : Nat → Int) (hs : ∀ j, p.n ≤ j → j < F → c j = 0) (hr : ∀ j, j < F → 0 ≤ rc p.m c s j) :
    Dual p (fun j => c j * s.d) (mult σ F p.m c s) ∧ dval p (mult σ F p.m c s) = wsum p.m c s (F + p.m) := by
  refine ⟨⟨fun j hj => ?_, fun t hti => ?_⟩, ?_⟩
  · have h1 := hr j (by have := h.nF; omega)
    have h2 := h.wlin ht c (j := j) (by have := h.nF; omega)
    have e : (sm p.m fun t => p.a t j * mult σ F p.m c s t) = sm p.m fun q => A q j * wsum p.m c s (F + q) := sm_congr fun t hti => by
      rw [h.var t j hti hj]
      unfold mult
      grind
    rw [e, ← h2]
    have : rc p.m c s j = c j * s.d - wsum p.m c s j := rfl
    omega
  · cases hk : p.kind t with
    | eq => trivial
    | le =>
      have hne : (p.kind t).slack ≠ 0 := by rw [hk]; decide
      obtain ⟨h1, h2, h3⟩ := h.scl t hti hne
      have h4 := hr _ h2
      have h5 := h.wlin ht c (j := scol t) (by omega)
      have h6 : wsum p.m c s (scol t) = σ t * wsum p.m c s (F + t) := by
        rw [h5, sm_one (q := t) hti fun q hq hqt => by rw [h.slk q _ hq h1 h2, h3, if_neg hqt, Int.zero_mul], h.slk t _ hti h1 h2, h3, if_pos rfl, hk]
        show σ t * 1 * _ = _
        rw [Int.mul_one]
      have : rc p.m c s (scol t) = c (scol t) * s.d - wsum p.m c s (scol t) := rfl
      rw [hs _ h1 h2, Int.zero_mul, h6] at this
      show mult σ F p.m c s t ≤ 0
      unfold mult
      omega
    | ge =>
      have hne : (p.kind t).slack ≠ 0 := by rw [hk]; decide
      obtain ⟨h1, h2, h3⟩ := h.scl t hti hne
      have h4 := hr _ h2
      have h5 := h.wlin ht c (j := scol t) (by omega)
      have h6 : wsum p.m c s (scol t) = - (σ t * wsum p.m c s (F + t)) := by
        rw [h5, sm_one (q := t) hti fun q hq hqt => by rw [h.slk q _ hq h1 h2, h3, if_neg hqt, Int.zero_mul], h.slk t _ hti h1 h2, h3, if_pos rfl, hk]
        show σ t * -1 * _ = _
        grind
      have : rc p.m c s (scol t) = c (scol t) * s.d - wsum p.m c s (scol t) := rfl
      rw [hs _ h1 h2, Int.zero_mul, h6] at this
      show 0 ≤ mult σ F p.m c s t
      unfold mult
      omega
  · rw [h.wlin ht c (by omega)]
    unfold dval
    refine sm_congr fun t hti => ?_
    rw [h.right t hti]
    unfold mult
    grind
/-- The values of the columns at a table. -/
def xval (m R : Nat) (s : Tabl) (j : Nat) : Int := sm m fun k => if s.b k = j then s.T k R else 0
theorem xsum {m R : Nat} {s : Tabl} (hb : ∀ k, k < m → s.b k < R) (f : Nat → Int) : (sm R fun j => f j * xval m R s j) = sm m fun k => f (s.b k) * s.T k R := by
  unfold xval
  have e1 : (sm R fun j => f j * sm m fun k => if s.b k = j then s.T k R else 0) = sm R fun j => sm m fun k => f j * if s.b k = j then s.T k R else 0 := sm_congr fun j _ => (sm_mul _ _ _).symm
  rw [e1, sm_swap fun j k => f j * if s.b k = j then s.T k R else 0]
  refine sm_congr fun k hk => ?_
  rw [sm_one (q := s.b k) (hb k hk) fun j _ hj => by rw [if_neg (fun e => hj e.symm), Int.mul_zero], if_pos rfl]
theorem xval_nn {m R : Nat} {s : Tabl} (h : ∀ k, k < m → 0 ≤ s.T k R) (j : Nat) : 0 ≤ xval m R s j := sm_nonneg fun k hk => by
  split
  · exact h k hk
  · exact Int.le_refl _
/-- No artificial variable has a value. -/
def NoArt (m F R : Nat) (s : Tabl) : Prop := ∀ k, k < m → F ≤ s.b k → s.T k R = 0
theorem slack_ok {k : Kd} {x b u s : Int} (hs : s * s = 1) (hu : 0 ≤ u) (h : s * b = s * x + s * k.slack * u) : k.ok x b := by
  have h2 : b = x + k.slack * u := by
    have : s * (s * b) = s * (s * x + s * k.slack * u) := by rw [h]
    have e1 : s * (s * b) = s * s * b := by grind
    have e2 : s * (s * x + s * k.slack * u) = s * s * (x + k.slack * u) := by grind
    rw [e1, e2, hs, Int.one_mul, Int.one_mul] at this
    exact this
  cases k with
  | le => simp only [Kd.slack, Int.one_mul] at h2; show x ≤ b; omega
  | ge => simp only [Kd.slack] at h2; show b ≤ x; omega
  | eq => simp only [Kd.slack, Int.zero_mul] at h2; show x = b; omega
/-- A sum over all columns, by their kinds; the artificial ones are 0. -/
theorem Form.sums (h : Form p A F σ srow scol) {V : Nat → Int} (hz : ∀ q, q < p.m → V (F + q) = 0) {t : Nat} (hti : t < p.m) :
    (sm (F + p.m) fun j => A t j * V j) = σ t * (sm p.n fun j => p.a t j * V j) + σ t * (p.kind t).slack * sm (F - p.n) fun k => if t = srow (p.n + k) then V (p.n + k) else 0 := by
  have hnF := h.nF
  rw [sm_split, sm_zero (n := p.m) fun q hq => by rw [hz q hq, Int.mul_zero], Int.add_zero]
  have : F = p.n + (F - p.n) := by omega
  rw [show (sm F fun j => A t j * V j) = sm (p.n + (F - p.n)) fun j => A t j * V j by rw [← this], sm_split, ← sm_mul, ← sm_mul]
  congr 1
  · exact sm_congr fun j hj => by rw [h.var t j hti hj]; grind
  · refine sm_congr fun k hk => ?_
    rw [h.slk t _ hti (by omega) (by omega)]
    split
    · rfl
    · rw [Int.zero_mul, Int.mul_zero]
theorem Form.prim (h : Form p A F σ srow scol) {s : Tabl} (hf : Feas A p.m (F + p.m) s) (hz : NoArt p.m F (F + p.m) s) : Prim p (xval p.m (F + p.m) s) s.d := by
  obtain ⟨g, ht⟩ := hf.tab
  refine ⟨ht.pos, fun j _ => xval_nn hf.right j, fun t hti => ?_⟩
  have hr := ht.rel (F + p.m) t (by omega) hti
  have e : (sm p.m fun k => s.T k (F + p.m) * A t (s.b k)) = sm (F + p.m) fun j => A t j * xval p.m (F + p.m) s j := by
    rw [xsum hf.bas]
    exact sm_congr fun k _ => Int.mul_comm _ _
  rw [e, h.sums (fun q hq => ?_) hti, h.right t hti] at hr
  · refine slack_ok (h.sq hti) (sm_nonneg fun k _ => ?_) (u := sm (F - p.n) fun k => if t = srow (p.n + k) then xval p.m (F + p.m) s (p.n + k) else 0) ?_
    · split
      · exact xval_nn hf.right _
      · exact Int.le_refl _
    · rw [← hr]; grind
  · exact sm_zero fun k hk => by
      split
      · rename_i e; exact hz k hk (by omega)
      · rfl
theorem Form.pval (h : Form p A F σ srow scol) {s : Tabl} (hf : Feas A p.m (F + p.m) s) {c : Nat → Int} (hc : ∀ j, j < p.n → c j = p.c j) (hc0 : ∀ j, p.n ≤ j → j < F + p.m → c j = 0) : pval p (xval p.m (F + p.m) s) = wsum p.m c s (F + p.m) := by
  unfold wsum
  rw [← xsum hf.bas]
  have hnF := h.nF
  rw [show F + p.m = p.n + (F + p.m - p.n) by omega, sm_split, ← show F + p.m = p.n + (F + p.m - p.n) by omega, sm_zero (n := F + p.m - p.n) fun k hk => by rw [hc0 _ (by omega) (by omega), Int.zero_mul], Int.add_zero]
  exact sm_congr fun j hj => by rw [hc j hj]
/-- Rows whose artificial variable can't leave. -/
def Stuck (m F : Nat) (s : Tabl) : Prop := ∀ k, k < m → F ≤ s.b k → ∀ j, j < F → s.T k j = 0
/-- The direction of a column that no row bounds. -/
def ray (m : Nat) (s : Tabl) (e j : Nat) : Int := (if j = e then s.d else 0) - sm m fun k => if s.b k = j then s.T k e else 0
theorem ray_sum {m R : Nat} {s : Tabl} (hb : ∀ k, k < m → s.b k < R) {e : Nat} (he : e < R) (f : Nat → Int) : (sm R fun j => f j * ray m s e j) = f e * s.d - sm m fun k => f (s.b k) * s.T k e := by
  unfold ray
  have e1 : (sm R fun j => f j * ((if j = e then s.d else 0) - sm m fun k => if s.b k = j then s.T k e else 0)) = (sm R fun j => f j * if j = e then s.d else 0) - sm R fun j => sm m fun k => f j * if s.b k = j then s.T k e else 0 := by
    rw [← sm_sub]
    exact sm_congr fun j _ => by rw [Int.mul_sub, ← sm_mul]
  rw [e1, sm_swap fun j k => f j * if s.b k = j then s.T k e else 0, sm_one (q := e) he fun j _ hj => by rw [if_neg hj, Int.mul_zero], if_pos rfl]
  congr 1
  refine sm_congr fun k hk => ?_
  rw [sm_one (q := s.b k) (hb k hk) fun j _ hj => by rw [if_neg (fun e => hj e.symm), Int.mul_zero], if_pos rfl]
theorem Form.ray (h : Form p A F σ srow scol) {s : Tabl} (hf : Feas A p.m (F + p.m) s) (hz : Stuck p.m F s) {c : Nat → Int} (hc : ∀ j, j < p.n → c j = p.c j) (hc0 : ∀ j, p.n ≤ j → j < F + p.m → c j = 0) {e : Nat} (he : e < F) (hneg : rc p.m c s e < 0) (hno : ∀ k, k < p.m → s.T k e ≤ 0) : Ray p (ray p.m s e) := by
  obtain ⟨g, ht⟩ := hf.tab
  have hnF := h.nF
  have nn : ∀ j, 0 ≤ Lp.ray p.m s e j := fun j => by
    unfold Lp.ray
    have h1 : 0 ≤ sm p.m fun k => - (if s.b k = j then s.T k e else 0) := sm_nonneg fun k hk => by
      have := hno k hk
      split <;> omega
    rw [sm_neg] at h1
    have := ht.pos
    split <;> omega
  have z : ∀ q, q < p.m → Lp.ray p.m s e (F + q) = 0 := fun q hq => by
    unfold Lp.ray
    rw [if_neg (by omega), sm_zero fun k hk => ?_]
    · rfl
    · split
      · rename_i eb; exact hz k hk (by omega) e he
      · rfl
  refine ⟨fun j _ => nn j, fun t hti => ?_, ?_⟩
  · have hs := h.sums z hti
    rw [ray_sum hf.bas (by omega)] at hs
    have hr := ht.rel e t (by omega) hti
    have e0 : (sm p.m fun k => A t (s.b k) * s.T k e) = sm p.m fun k => s.T k e * A t (s.b k) := sm_congr fun k _ => Int.mul_comm _ _
    rw [e0, ← hr] at hs
    refine slack_ok (h.sq hti) (sm_nonneg fun k _ => ?_) (u := sm (F - p.n) fun k => if t = srow (p.n + k) then Lp.ray p.m s e (p.n + k) else 0) ?_
    · split
      · exact nn _
      · exact Int.le_refl _
    · rw [← hs]; grind
  · have h1 := ray_sum hf.bas (show e < F + p.m by omega) c
    rw [show F + p.m = p.n + (F + p.m - p.n) by omega, sm_split, sm_zero (n := F + p.m - p.n) fun k hk => by rw [hc0 _ (by omega) (by omega), Int.zero_mul], Int.add_zero] at h1
    unfold Lp.pval
    have e1 : (sm p.n fun j => p.c j * Lp.ray p.m s e j) = sm p.n fun j => c j * Lp.ray p.m s e j := sm_congr fun j hj => by rw [hc j hj]
    rw [e1, h1]
    unfold rc at hneg
    exact hneg
end
end Go.Proofs.Ytmefgachdnlaoaa.Lp
