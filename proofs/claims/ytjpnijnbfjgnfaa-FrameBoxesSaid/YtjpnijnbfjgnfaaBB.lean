/- Contracts and plain facts for FrameBoxes. -/
import Derived.Test.YtjpnijnbfjgnfaaBA
import Derived.Test.YtjpnijnbfjgnfaaZ
import Derived.Test.YtjpnijnbfjgnfaaV
namespace Go.Proofs.Ytjpnijnbfjgnfaa
open Go.RowKit BigFrame
def prt (d u : Int) : Int := (d * u).tdiv 65535
theorem prt_in {d u : Int} (hd : 0 ≤ d) (hu : 0 ≤ u ∧ u ≤ 65535) : 0 ≤ prt d u ∧ prt d u ≤ d := by
  have h0 : 0 ≤ d * u := Int.mul_nonneg hd hu.1
  have h1 : d * u ≤ d * 65535 := Int.mul_le_mul_of_nonneg_left hu.2 hd
  unfold prt
  rw [Int.tdiv_eq_ediv_of_nonneg h0]
  omega
theorem part_any (d u : Int) (hd : 0 ≤ d) (hd2 : d ≤ 2097152) (hu : 0 ≤ u ∧ u ≤ 65535) (w : World) : Calls Try.prog 32 #[.int .i64 d, .int .u16 u] w fun e w' => e = .returned (.int .i64 (prt d u)) ∧ w' = w := by
  have h0 : 0 ≤ d * u := Int.mul_nonneg hd hu.1
  have h1 : d * u ≤ d * 65535 := Int.mul_le_mul_of_nonneg_left hu.2 hd
  have hp := prt_in hd hu
  have e1 : wrap64 (d * u) = d * u := IntWalk.wrap64_in _ (by omega)
  have e2 : wrap64 ((wrap64 (d * u)).tdiv 65535) = prt d u := by
    rw [e1]
    exact IntWalk.wrap64_in _ (by have : (d * u).tdiv 65535 = prt d u := rfl; omega)
  rw [← e2]
  clear e1 e2 h0 h1 hp
  go_enter Try.func32, Try.ntmps32
  go_wp2
  go_ret
  exact ⟨rfl, rfl⟩
/-- A row of a turn's matrix: one of +-1, the others 0, at place j. -/
def unit1 (a b c : Int) : Bool := (a == 1 || a == -1) && b == 0 && c == 0
def pat (m : Mt) : Bool :=
  (unit1 m.a0 m.a1 m.a2 && unit1 m.b1 m.b0 m.b2 && unit1 m.c2 m.c0 m.c1) ||
  (unit1 m.a0 m.a1 m.a2 && unit1 m.b2 m.b0 m.b1 && unit1 m.c1 m.c0 m.c2) ||
  (unit1 m.a1 m.a0 m.a2 && unit1 m.b0 m.b1 m.b2 && unit1 m.c2 m.c0 m.c1) ||
  (unit1 m.a1 m.a0 m.a2 && unit1 m.b2 m.b0 m.b1 && unit1 m.c0 m.c1 m.c2) ||
  (unit1 m.a2 m.a0 m.a1 && unit1 m.b0 m.b1 m.b2 && unit1 m.c1 m.c0 m.c2) ||
  (unit1 m.a2 m.a0 m.a1 && unit1 m.b1 m.b0 m.b2 && unit1 m.c0 m.c1 m.c2)
theorem mat_pat : ∀ t ∈ allL, pat (mat t) = true := by decide +kernel
def inn (n : Int) : Prop := -1048576 ≤ n ∧ n ≤ 1048576
/-- One coordinate of a box' image: its least and greatest, and its length. -/
theorem side {s a l h : Int} (hs : s = 1 ∨ s = -1) (ha : inn a) (hl : inn l) (hh : inn h) (hlh : l ≤ h) :
    wrap64 (mx (wrap64 (a + s * l)) (wrap64 (a + s * h)) - mn (wrap64 (a + s * l)) (wrap64 (a + s * h))) = h - l ∧
    ∀ p, l ≤ p → p ≤ h → mn (wrap64 (a + s * l)) (wrap64 (a + s * h)) ≤ wrap64 (a + s * p) ∧ wrap64 (a + s * p) ≤ mx (wrap64 (a + s * l)) (wrap64 (a + s * h)) := by
  unfold inn at *
  have w1 : ∀ n : Int, -4000000 ≤ n → n ≤ 4000000 → wrap64 n = n := fun n h1 h2 => IntWalk.wrap64_in _ (by omega)
  unfold mx mn
  rcases hs with rfl | rfl
  · rw [w1 (a + 1 * l) (by omega) (by omega), w1 (a + 1 * h) (by omega) (by omega)]
    refine ⟨?_, fun p h1 h2 => ?_⟩
    · rw [w1] <;> (repeat' split) <;> omega
    · rw [w1 (a + 1 * p) (by omega) (by omega)]
      (repeat' split) <;> omega
  · rw [w1 (a + -1 * l) (by omega) (by omega), w1 (a + -1 * h) (by omega) (by omega)]
    refine ⟨?_, fun p h1 h2 => ?_⟩
    · rw [w1] <;> (repeat' split) <;> omega
    · rw [w1 (a + -1 * p) (by omega) (by omega)]
      (repeat' split) <;> omega
theorem sort_same {x y z x' y' z' : Int} (hp : [x, y, z].Perm [x', y', z']) (h1 : x ≤ y) (h2 : y ≤ z) (h3 : x' ≤ y') (h4 : y' ≤ z') : x = x' ∧ y = y' ∧ z = z' := by
  have e := hp.eq_of_pairwise (le := fun a b : Int => a ≤ b) (fun a b _ _ h1 h2 => Int.le_antisymm h1 h2) (by simp; omega) (by simp; omega)
  simpa using e
theorem unit1_of {a b c : Int} (h : unit1 a b c = true) : (a = 1 ∨ a = -1) ∧ b = 0 ∧ c = 0 := by
  unfold unit1 at h
  simp only [Bool.and_eq_true, Bool.or_eq_true, beq_iff_eq] at h
  exact ⟨h.1.1, h.1.2, h.2⟩
/-- The image of a box: its sides' lengths, and where its points' images lie. -/
theorem geo {m : Mt} (hm : pat m = true) {a b c : Int} (ha : inn a) (hb : inn b) (hc : inn c) {lo hi : Pt} (l0 : inn lo.x) (l1 : inn lo.y) (l2 : inn lo.z) (h0 : inn hi.x) (h1 : inn hi.y) (h2 : inn hi.z) (e0 : lo.x ≤ hi.x) (e1 : lo.y ≤ hi.y) (e2 : lo.z ≤ hi.z) :
    [wrap64 (mx (wrap64 (a + (ap m lo).x)) (wrap64 (a + (ap m hi).x)) - mn (wrap64 (a + (ap m lo).x)) (wrap64 (a + (ap m hi).x))), wrap64 (mx (wrap64 (b + (ap m lo).y)) (wrap64 (b + (ap m hi).y)) - mn (wrap64 (b + (ap m lo).y)) (wrap64 (b + (ap m hi).y))), wrap64 (mx (wrap64 (c + (ap m lo).z)) (wrap64 (c + (ap m hi).z)) - mn (wrap64 (c + (ap m lo).z)) (wrap64 (c + (ap m hi).z)))].Perm [hi.x - lo.x, hi.y - lo.y, hi.z - lo.z] ∧
    ∀ p : Pt, lo.x ≤ p.x → p.x ≤ hi.x → lo.y ≤ p.y → p.y ≤ hi.y → lo.z ≤ p.z → p.z ≤ hi.z → (mn (wrap64 (a + (ap m lo).x)) (wrap64 (a + (ap m hi).x)) ≤ wrap64 (a + (ap m p).x) ∧ wrap64 (a + (ap m p).x) ≤ mx (wrap64 (a + (ap m lo).x)) (wrap64 (a + (ap m hi).x))) ∧ (mn (wrap64 (b + (ap m lo).y)) (wrap64 (b + (ap m hi).y)) ≤ wrap64 (b + (ap m p).y) ∧ wrap64 (b + (ap m p).y) ≤ mx (wrap64 (b + (ap m lo).y)) (wrap64 (b + (ap m hi).y))) ∧ (mn (wrap64 (c + (ap m lo).z)) (wrap64 (c + (ap m hi).z)) ≤ wrap64 (c + (ap m p).z) ∧ wrap64 (c + (ap m p).z) ≤ mx (wrap64 (c + (ap m lo).z)) (wrap64 (c + (ap m hi).z))) := by
  unfold pat at hm
  simp only [Bool.or_eq_true, Bool.and_eq_true] at hm
  rcases hm with ((((h | h) | h) | h) | h) | h
  · obtain ⟨⟨r1, r2⟩, r3⟩ := h
    obtain ⟨s1, z1, z1'⟩ := unit1_of r1
    obtain ⟨s2, z2, z2'⟩ := unit1_of r2
    obtain ⟨s3, z3, z3'⟩ := unit1_of r3
    simp only [ap, z1, z1', z2, z2', z3, z3', Int.zero_mul, Int.add_zero, Int.zero_add]
    obtain ⟨c1, p1⟩ := side s1 ha l0 h0 e0
    obtain ⟨c2, p2⟩ := side s2 hb l1 h1 e1
    obtain ⟨c3, p3⟩ := side s3 hc l2 h2 e2
    rw [c1, c2, c3]
    refine ⟨List.Perm.refl _, fun p u0 v0 u1 v1 u2 v2 => ⟨p1 _ u0 v0, p2 _ u1 v1, p3 _ u2 v2⟩⟩
  · obtain ⟨⟨r1, r2⟩, r3⟩ := h
    obtain ⟨s1, z1, z1'⟩ := unit1_of r1
    obtain ⟨s2, z2, z2'⟩ := unit1_of r2
    obtain ⟨s3, z3, z3'⟩ := unit1_of r3
    simp only [ap, z1, z1', z2, z2', z3, z3', Int.zero_mul, Int.add_zero, Int.zero_add]
    obtain ⟨c1, p1⟩ := side s1 ha l0 h0 e0
    obtain ⟨c2, p2⟩ := side s2 hb l2 h2 e2
    obtain ⟨c3, p3⟩ := side s3 hc l1 h1 e1
    rw [c1, c2, c3]
    refine ⟨List.Perm.cons _ (List.Perm.swap _ _ []), fun p u0 v0 u1 v1 u2 v2 => ⟨p1 _ u0 v0, p2 _ u2 v2, p3 _ u1 v1⟩⟩
  · obtain ⟨⟨r1, r2⟩, r3⟩ := h
    obtain ⟨s1, z1, z1'⟩ := unit1_of r1
    obtain ⟨s2, z2, z2'⟩ := unit1_of r2
    obtain ⟨s3, z3, z3'⟩ := unit1_of r3
    simp only [ap, z1, z1', z2, z2', z3, z3', Int.zero_mul, Int.add_zero, Int.zero_add]
    obtain ⟨c1, p1⟩ := side s1 ha l1 h1 e1
    obtain ⟨c2, p2⟩ := side s2 hb l0 h0 e0
    obtain ⟨c3, p3⟩ := side s3 hc l2 h2 e2
    rw [c1, c2, c3]
    refine ⟨List.Perm.swap _ _ _, fun p u0 v0 u1 v1 u2 v2 => ⟨p1 _ u1 v1, p2 _ u0 v0, p3 _ u2 v2⟩⟩
  · obtain ⟨⟨r1, r2⟩, r3⟩ := h
    obtain ⟨s1, z1, z1'⟩ := unit1_of r1
    obtain ⟨s2, z2, z2'⟩ := unit1_of r2
    obtain ⟨s3, z3, z3'⟩ := unit1_of r3
    simp only [ap, z1, z1', z2, z2', z3, z3', Int.zero_mul, Int.add_zero, Int.zero_add]
    obtain ⟨c1, p1⟩ := side s1 ha l1 h1 e1
    obtain ⟨c2, p2⟩ := side s2 hb l2 h2 e2
    obtain ⟨c3, p3⟩ := side s3 hc l0 h0 e0
    rw [c1, c2, c3]
    refine ⟨(List.Perm.cons _ (List.Perm.swap _ _ [])).trans (List.Perm.swap _ _ _), fun p u0 v0 u1 v1 u2 v2 => ⟨p1 _ u1 v1, p2 _ u2 v2, p3 _ u0 v0⟩⟩
  · obtain ⟨⟨r1, r2⟩, r3⟩ := h
    obtain ⟨s1, z1, z1'⟩ := unit1_of r1
    obtain ⟨s2, z2, z2'⟩ := unit1_of r2
    obtain ⟨s3, z3, z3'⟩ := unit1_of r3
    simp only [ap, z1, z1', z2, z2', z3, z3', Int.zero_mul, Int.add_zero, Int.zero_add]
    obtain ⟨c1, p1⟩ := side s1 ha l2 h2 e2
    obtain ⟨c2, p2⟩ := side s2 hb l0 h0 e0
    obtain ⟨c3, p3⟩ := side s3 hc l1 h1 e1
    rw [c1, c2, c3]
    refine ⟨(List.Perm.swap _ _ _).trans (List.Perm.cons _ (List.Perm.swap _ _ [])), fun p u0 v0 u1 v1 u2 v2 => ⟨p1 _ u2 v2, p2 _ u0 v0, p3 _ u1 v1⟩⟩
  · obtain ⟨⟨r1, r2⟩, r3⟩ := h
    obtain ⟨s1, z1, z1'⟩ := unit1_of r1
    obtain ⟨s2, z2, z2'⟩ := unit1_of r2
    obtain ⟨s3, z3, z3'⟩ := unit1_of r3
    simp only [ap, z1, z1', z2, z2', z3, z3', Int.zero_mul, Int.add_zero, Int.zero_add]
    obtain ⟨c1, p1⟩ := side s1 ha l2 h2 e2
    obtain ⟨c2, p2⟩ := side s2 hb l1 h1 e1
    obtain ⟨c3, p3⟩ := side s3 hc l0 h0 e0
    rw [c1, c2, c3]
    refine ⟨(List.Perm.cons _ (List.Perm.swap _ _ [])).trans ((List.Perm.swap _ _ _).trans (List.Perm.cons _ (List.Perm.swap _ _ []))), fun p u0 v0 u1 v1 u2 v2 => ⟨p1 _ u2 v2, p2 _ u1 v1, p3 _ u0 v0⟩⟩
end Go.Proofs.Ytjpnijnbfjgnfaa
