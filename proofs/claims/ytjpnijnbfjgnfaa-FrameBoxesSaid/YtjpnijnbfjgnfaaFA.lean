/- FrameBoxes by the executor: older contracts, as contracts of the executor. -/
import Derived.Test.YtjpnijnbfjgnfaaSx
import Derived.Test.YtjpnijnbfjgnfaaXTi
import Derived.Test.YtjpnijnbfjgnfaaXIn
import Derived.Test.YtjpnijnbfjgnfaaBB
set_option maxRecDepth 100000
set_option linter.unusedSimpArgs false
set_option linter.unusedVariables false
set_option linter.unusedSimpArgs false
set_option linter.unusedVariables false
namespace Go.Proofs.Ytjpnijnbfjgnfaa.X
open Go.RowKit
/-- A call with ground arguments, whatever the world. -/
theorem pu_calls {P : Program} {f : FuncId} {args : List SV} {H : List Ob} {r : SV} {v : Value} {vs : List Value} (hc : ∀ vs w, (callFunc f vs).run P w = .ok (.enter f vs) w) (hv : gndL args = some vs) (hr : gnd r = some v)
    (h : ∀ w, Calls P f vs.toArray w fun e w' => e = .returned v ∧ Below w.heap.size w w') : Pu P f args H r :=
  ⟨hc, fun β w us _ ha => by
    rw [gndL_ok hv ha]
    exact (h w).mono fun e w' ⟨he, hb⟩ => ⟨v, he, gnd_fit β hr, hb⟩⟩
abbrev s2 (a b : Int) : SV := .a [.v (.int .i64 a), .v (.int .i64 b)]
abbrev s3 (a b c : Int) : SV := .a [.v (.int .i64 a), .v (.int .i64 b), .v (.int .i64 c)]
abbrev s6 (a b c d e f : Int) : SV := .a [.v (.int .i64 a), .v (.int .i64 b), .v (.int .i64 c), .v (.int .i64 d), .v (.int .i64 e), .v (.int .i64 f)]
theorem minus_pu (a b c d e f : Int) : Pu Try.prog 24 [s3 a b c, s3 d e f] [] (s3 (wrap64 (a - d)) (wrap64 (b - e)) (wrap64 (c - f))) :=
  pu_calls Try.call24 rfl rfl fun w => minus_any a b c d e f w
theorem awake_pu : Pu Try.prog 10 [] [] (.v (.bool true)) := pu_calls Try.call10 rfl rfl fun w => awake_any w
theorem part_pu (d u : Int) (hd : 0 ≤ d) (hd2 : d ≤ 2097152) (hu : 0 ≤ u ∧ u ≤ 65535) : Pu Try.prog 32 [.v (.int .i64 d), .v (.int .u16 u)] [] (.v (.int .i64 (prt d u))) :=
  pu_calls Try.call32 rfl rfl fun w => (part_any d u hd hd2 hu w).mono fun e w' ⟨h1, h2⟩ => ⟨h1, h2 ▸ Below.refl _ _⟩
theorem box_pu (x y a b c l0 l1 l2 h0 h1 h2 : Int) (hv : vldB x y = true) (hb : boxOK l0 l1 l2 h0 h1 h2 = true) (hn : near3 a b c l0 l1 l2 h0 h1 h2 = true) :
    Pu Try.prog 26 [s2 x y, s3 a b c, s6 l0 l1 l2 h0 h1 h2] [] (.t [s6 (mn (pl x y a l0 l1 l2 Cx0) (pl x y a h0 h1 h2 Cx0)) (mn (pl x y b l0 l1 l2 Cx1) (pl x y b h0 h1 h2 Cx1)) (mn (pl x y c l0 l1 l2 Cx2) (pl x y c h0 h1 h2 Cx2)) (mx (pl x y a l0 l1 l2 Cx0) (pl x y a h0 h1 h2 Cx0)) (mx (pl x y b l0 l1 l2 Cx1) (pl x y b h0 h1 h2 Cx1)) (mx (pl x y c l0 l1 l2 Cx2) (pl x y c h0 h1 h2 Cx2)), .v (.int .i64 0)]) :=
  pu_calls Try.call26 rfl rfl fun w => box_ok x y a b c l0 l1 l2 h0 h1 h2 w hv hb hn
theorem apply_pu {t : Int × Int} (ht : t ∈ allL) {p : Pt} (hp : neP p = true) : Pu Try.prog 21 [s2 t.1 t.2, s3 p.x p.y p.z] [] (.t [s3 (ap (mat t) p).x (ap (mat t) p).y (ap (mat t) p).z, .v (.int .i64 0)]) :=
  pu_calls Try.call21 rfl rfl fun w => apply_pt ht hp w
theorem placed_pu (x y a b c p q r : Int) (hx : axB x = true) (hy : axB y = true) : Pu Try.prog 46 [s2 x y, s3 a b c, s3 p q r] [] (s3 (wrap64 (a + Cx0 x y p q r)) (wrap64 (b + Cx1 x y p q r)) (wrap64 (c + Cx2 x y p q r))) :=
  pu_calls Try.call46 rfl rfl fun w => placed_any x y a b c p q r w hx hy
theorem valid_pu (x y : Int) : Pu Try.prog 11 [s2 x y] [] (.v (.bool (vldB x y))) := pu_calls Try.call11 rfl rfl fun w => valid_any x y w
/-- A row of points that is read. -/
def rPt (l : List Pt) : Ob := ⟨37, true, .row 3 1 (fun _ => l.length) (fun _ => 0) (fun _ k => [.v (.int .i64 (ix l k).x), .v (.int .i64 (ix l k).y), .v (.int .i64 (ix l k).z)])⟩
attribute [push_cast] rPt
theorem pts_of {β : Bs} {w : World} {H : List Ob} {l : List Pt} {c : Nat} {u : Value} (hI : Inv β (rPt l :: H) w) (hu : Ok β (.s 0 0 0 l.length c 3) u) : ∃ A, u = .slice A l.length c ∧ PtsAt w A l := by
  simp only [Ok] at hu
  obtain ⟨A, rfl, hle, hA⟩ := hu
  refine ⟨A, rfl, fun h0 => ?_⟩
  obtain ⟨g, b, hb, rfl⟩ := hA (by omega)
  have hob := hI.ob 0 _ rfl
  unfold ObOk rPt at hob
  simp only [if_true] at hob
  have hk : ∀ k, k < l.length → ∃ g' b', β 0 0 = some (g', b') ∧ g' < w.heap.size ∧ ∀ c x, ([SV.v (.int .i64 (ix l k).x), .v (.int .i64 (ix l k).y), .v (.int .i64 (ix l k).z)] : List SV)[c]? = some x → ∃ u, w.cell? ⟨g', b' + (k * 3 + c), none⟩ = some u ∧ Ok β x u := fun k hk => hob 0 (by omega) k hk
  refine ⟨g, b + 0 * 3, rfl, ?_, fun i hi => ?_⟩
  · obtain ⟨g', b', e, h1, _⟩ := hk 0 h0
    rw [hb] at e
    obtain ⟨rfl, rfl⟩ : g = g' ∧ b = b' := by simpa using e
    exact h1
  · obtain ⟨g', b', e, h1, h2⟩ := hk i hi
    rw [hb] at e
    obtain ⟨rfl, rfl⟩ : g = g' ∧ b = b' := by simpa using e
    obtain ⟨u0, c0, o0⟩ := h2 0 _ rfl
    obtain ⟨u1, c1, o1⟩ := h2 1 _ rfl
    obtain ⟨u2, c2, o2⟩ := h2 2 _ rfl
    simp only [Ok] at o0 o1 o2
    subst o0 o1 o2
    rw [ix_eq hi] at c0 c1 c2
    refine ⟨?_, ?_, ?_⟩
    · rw [show b + 0 * 3 + i * 3 = b + (i * 3 + 0) by omega]; exact c0
    · rw [show b + 0 * 3 + i * 3 + 1 = b + (i * 3 + 1) by omega]; exact c1
    · rw [show b + 0 * 3 + i * 3 + 2 = b + (i * 3 + 2) by omega]; exact c2
theorem near_pu (l : List Pt) (c : Nat) (hl : l.length ≤ 9223372036854775807) : Pu Try.prog 44 [.s 0 0 0 l.length c 3] [rPt l] (.v (.bool (l.all neP))) := by
  refine ⟨Try.call44, fun β w us hI ha => ?_⟩
  simp only [OkL] at ha
  obtain ⟨u, us', rfl, hu, rfl⟩ := ha
  obtain ⟨A, rfl, hp⟩ := pts_of hI hu
  exact (near_any A c l w hl hp).mono fun e w' ⟨h1, h2⟩ => ⟨_, h1, by simp only [Ok], h2⟩
theorem ready_pu (x y : Int) (l : List Pt) (c : Nat) (hl : l.length ≤ 9223372036854775807) : Pu Try.prog 20 [s2 x y, .s 0 0 0 l.length c 3] [rPt l] (.v (.bool (rdyB x y l))) := by
  refine ⟨Try.call20, fun β w us hI ha => ?_⟩
  simp only [OkL] at ha
  obtain ⟨u0, us', rfl, hu0, u, us'', rfl, hu, rfl⟩ := ha
  have e0 := gnd_ok (v := T2 x y) rfl hu0
  subst e0
  obtain ⟨A, rfl, hp⟩ := pts_of hI hu
  exact (ready_any x y A c l w hl hp).mono fun e w' ⟨h1, h2⟩ => ⟨_, h1, by simp only [Ok], h2⟩
end Go.Proofs.Ytjpnijnbfjgnfaa.X
