/- Plain facts on the 24 turns: images are linear, near points stay near, turns one after the other act like one, distances and volumes are kept. No program is walked. -/
import Derived.Test.YtjpnijnbfjgnfaaN
namespace Go.Proofs.Ytjpnijnbfjgnfaa
open Go.RowKit
theorem grp_valid : ∀ b ∈ allL, ∀ a ∈ allL, vldB (thX b.1 b.2 a.1) (thX b.1 b.2 a.2) = true := by decide +kernel
theorem grp_ax : ∀ b ∈ allL, ∀ c ∈ allL, ∀ n ∈ [(-3 : Int), -2, -1, 1, 2, 3], thX c.1 c.2 (thX b.1 b.2 n) = thX (thX c.1 c.2 b.1) (thX c.1 c.2 b.2) n := by decide +kernel
/-- The three rows of a turn's matrix. -/
structure Mt where
  a0 : Int
  a1 : Int
  a2 : Int
  b0 : Int
  b1 : Int
  b2 : Int
  c0 : Int
  c1 : Int
  c2 : Int
deriving DecidableEq
def mat (t : Int × Int) : Mt := ⟨u0 t.1, u0 t.2, k0 t.1 t.2, u1 t.1, u1 t.2, k1 t.1 t.2, u2 t.1, u2 t.2, k2 t.1 t.2⟩
def Mt.mul (m n : Mt) : Mt :=
  ⟨m.a0 * n.a0 + m.a1 * n.b0 + m.a2 * n.c0, m.a0 * n.a1 + m.a1 * n.b1 + m.a2 * n.c1, m.a0 * n.a2 + m.a1 * n.b2 + m.a2 * n.c2,
   m.b0 * n.a0 + m.b1 * n.b0 + m.b2 * n.c0, m.b0 * n.a1 + m.b1 * n.b1 + m.b2 * n.c1, m.b0 * n.a2 + m.b1 * n.b2 + m.b2 * n.c2,
   m.c0 * n.a0 + m.c1 * n.b0 + m.c2 * n.c0, m.c0 * n.a1 + m.c1 * n.b1 + m.c2 * n.c1, m.c0 * n.a2 + m.c1 * n.b2 + m.c2 * n.c2⟩
def unitary (m : Mt) : Bool :=
  decide (m.a0 * m.a0 + m.b0 * m.b0 + m.c0 * m.c0 = 1 ∧ m.a1 * m.a1 + m.b1 * m.b1 + m.c1 * m.c1 = 1 ∧ m.a2 * m.a2 + m.b2 * m.b2 + m.c2 * m.c2 = 1 ∧
    m.a0 * m.a1 + m.b0 * m.b1 + m.c0 * m.c1 = 0 ∧ m.a0 * m.a2 + m.b0 * m.b2 + m.c0 * m.c2 = 0 ∧ m.a1 * m.a2 + m.b1 * m.b2 + m.c1 * m.c2 = 0)
def small3 (a b c : Int) : Bool := (a == 0 && b == 0 && (c == 0 || c == 1 || c == -1)) || (a == 0 && c == 0 && (b == 1 || b == -1)) || (b == 0 && c == 0 && (a == 1 || a == -1))
def det (m : Mt) : Int := m.a0 * (m.b1 * m.c2 - m.c1 * m.b2) + m.b0 * (m.c1 * m.a2 - m.a1 * m.c2) + m.c0 * (m.a1 * m.b2 - m.b1 * m.a2)
theorem mat_small : ∀ t ∈ allL, small3 (mat t).a0 (mat t).a1 (mat t).a2 = true ∧ small3 (mat t).b0 (mat t).b1 (mat t).b2 = true ∧ small3 (mat t).c0 (mat t).c1 (mat t).c2 = true := by decide +kernel
theorem mat_unitary : ∀ t ∈ allL, unitary (mat t) = true := by decide +kernel
theorem mat_det : ∀ t ∈ allL, det (mat t) = 1 := by decide +kernel
theorem mat_then : ∀ b ∈ allL, ∀ a ∈ allL, mat (thX b.1 b.2 a.1, thX b.1 b.2 a.2) = (mat b).mul (mat a) := by decide +kernel
/-- The turn back: it is one, its turn back is the turn, together they are none. -/
theorem back_mat : ∀ t ∈ allL, ∃ r, r ∈ allL ∧ allL.find? (bk t.1 t.2) = some r ∧ allL.find? (bk r.1 r.2) = some t ∧ thX r.1 r.2 t.1 = 1 ∧ thX r.1 r.2 t.2 = 2 ∧ (mat r).mul (mat t) = ⟨1, 0, 0, 0, 1, 0, 0, 0, 1⟩ := by
  have key : ∀ t ∈ allL, (match allL.find? (bk t.1 t.2) with
      | some r => decide (r ∈ allL ∧ allL.find? (bk r.1 r.2) = some t ∧ thX r.1 r.2 t.1 = 1 ∧ thX r.1 r.2 t.2 = 2 ∧ (mat r).mul (mat t) = ⟨1, 0, 0, 0, 1, 0, 0, 0, 1⟩)
      | none => false) = true := by decide +kernel
  intro t ht
  have h := key t ht
  cases hf : allL.find? (bk t.1 t.2) with
  | none => rw [hf] at h; cases h
  | some r => rw [hf] at h; have := of_decide_eq_true h; exact ⟨r, this.1, rfl, this.2⟩
theorem small3_cases {a b c : Int} (h : small3 a b c = true) : (a = 0 ∧ b = 0 ∧ (c = 0 ∨ c = 1 ∨ c = -1)) ∨ (a = 0 ∧ c = 0 ∧ (b = 1 ∨ b = -1)) ∨ (b = 0 ∧ c = 0 ∧ (a = 1 ∨ a = -1)) := by
  unfold small3 at h
  simp only [Bool.or_eq_true, Bool.and_eq_true, beq_iff_eq] at h
  omega
theorem m3_lin {a b c p q r : Int} (h : small3 a b c = true) (hp : neB p q r = true) : m3 a b c p q r = a * p + b * q + c * r ∧ -1048576 ≤ m3 a b c p q r ∧ m3 a b c p q r ≤ 1048576 := by
  unfold neB wiB at hp
  simp only [Bool.and_eq_true, decide_eq_true_eq] at hp
  obtain ⟨⟨h1, h2⟩, ⟨h3, h4⟩, h5, h6⟩ := hp
  have w0 : wrap64 0 = 0 := IntWalk.wrap64_in _ (by omega)
  have wp : wrap64 p = p := IntWalk.wrap64_in _ (by omega)
  have wq : wrap64 q = q := IntWalk.wrap64_in _ (by omega)
  have wr : wrap64 r = r := IntWalk.wrap64_in _ (by omega)
  have np : wrap64 (-p) = -p := IntWalk.wrap64_in _ (by omega)
  have nq : wrap64 (-q) = -q := IntWalk.wrap64_in _ (by omega)
  have nr : wrap64 (-r) = -r := IntWalk.wrap64_in _ (by omega)
  unfold m3
  rcases small3_cases h with ⟨rfl, rfl, rfl | rfl | rfl⟩ | ⟨rfl, rfl, rfl | rfl⟩ | ⟨rfl, rfl, rfl | rfl⟩ <;> simp [w0, wp, wq, wr, np, nq, nr] <;> omega
/-- A point's image, without wraps. -/
def ap (m : Mt) (p : Pt) : Pt := ⟨m.a0 * p.x + m.a1 * p.y + m.a2 * p.z, m.b0 * p.x + m.b1 * p.y + m.b2 * p.z, m.c0 * p.x + m.c1 * p.y + m.c2 * p.z⟩
theorem cx_ap {t : Int × Int} (ht : t ∈ allL) {p : Pt} (hp : neP p = true) :
    (⟨Cx0 t.1 t.2 p.x p.y p.z, Cx1 t.1 t.2 p.x p.y p.z, Cx2 t.1 t.2 p.x p.y p.z⟩ : Pt) = ap (mat t) p ∧ neP (ap (mat t) p) = true := by
  obtain ⟨h0, h1, h2⟩ := mat_small t ht
  obtain ⟨e0, l0, g0⟩ := m3_lin h0 hp
  obtain ⟨e1, l1, g1⟩ := m3_lin h1 hp
  obtain ⟨e2, l2, g2⟩ := m3_lin h2 hp
  have e : (⟨Cx0 t.1 t.2 p.x p.y p.z, Cx1 t.1 t.2 p.x p.y p.z, Cx2 t.1 t.2 p.x p.y p.z⟩ : Pt) = ap (mat t) p := by
    unfold ap
    rw [← e0, ← e1, ← e2]
    rfl
  refine ⟨e, ?_⟩
  unfold ap neP neB wiB
  simp only [Bool.and_eq_true, decide_eq_true_eq]
  rw [e0] at l0 g0
  rw [e1] at l1 g1
  rw [e2] at l2 g2
  exact ⟨⟨l0, g0⟩, ⟨l1, g1⟩, l2, g2⟩
theorem ap_mul (m n : Mt) (p : Pt) : ap m (ap n p) = ap (m.mul n) p := by
  unfold ap Mt.mul
  simp only [Pt.mk.injEq]
  refine ⟨?_, ?_, ?_⟩ <;> grind
theorem ap_one (p : Pt) : ap ⟨1, 0, 0, 0, 1, 0, 0, 0, 1⟩ p = p := by
  unfold ap; cases p; simp
def dt (p q : Pt) : Int := p.x * q.x + p.y * q.y + p.z * q.z
theorem ap_dt {m : Mt} (h : unitary m = true) (p q : Pt) : dt (ap m p) (ap m q) = dt p q := by
  obtain ⟨h1, h2, h3, h4, h5, h6⟩ := of_decide_eq_true h
  have key : dt (ap m p) (ap m q) = (m.a0 * m.a0 + m.b0 * m.b0 + m.c0 * m.c0) * (p.x * q.x) + (m.a1 * m.a1 + m.b1 * m.b1 + m.c1 * m.c1) * (p.y * q.y) + (m.a2 * m.a2 + m.b2 * m.b2 + m.c2 * m.c2) * (p.z * q.z) +
      (m.a0 * m.a1 + m.b0 * m.b1 + m.c0 * m.c1) * (p.x * q.y + p.y * q.x) + (m.a0 * m.a2 + m.b0 * m.b2 + m.c0 * m.c2) * (p.x * q.z + p.z * q.x) + (m.a1 * m.a2 + m.b1 * m.b2 + m.c1 * m.c2) * (p.y * q.z + p.z * q.y) := by
    clear h h1 h2 h3 h4 h5 h6
    unfold dt ap
    simp only
    grind
  rw [key, h1, h2, h3, h4, h5, h6]
  unfold dt
  omega
def vol (p q s : Pt) : Int := p.x * (q.y * s.z - q.z * s.y) + p.y * (q.z * s.x - q.x * s.z) + p.z * (q.x * s.y - q.y * s.x)
theorem ap_vol {m : Mt} (h : det m = 1) (p q s : Pt) : vol (ap m p) (ap m q) (ap m s) = vol p q s := by
  have key : vol (ap m p) (ap m q) (ap m s) = det m * vol p q s := by
    unfold vol ap det
    simp only
    grind
  rw [key, h, Int.one_mul]
end Go.Proofs.Ytjpnijnbfjgnfaa
