/- Patterns that lie anywhere, seen as patterns that are only read. -/
import Derived.Test.YthlpfjcjfhdmaaaY
import Derived.Test.YthlpfjcjfhdmaaaYB
import Derived.Test.YthlpfjcjfhdmaaaT
set_option maxRecDepth 100000
set_option linter.unusedSimpArgs false
set_option linter.unusedVariables false
namespace Go.Proofs.Ythlpfjcjfhdmaaa
open Go.RowKit
theorem row_place {β : Bs} {H : List Ob} {w : World} (hI : Inv β H w) {j i k sz N ty : Nat} {ro : Bool} {len cap : Nat → Nat} {f : Nat → Nat → List SV} (hg : H[j]? = some ⟨ty, ro, .row sz N len cap f⟩) (hi : i < N) (hk : k < len i) :
    ∃ g b, β j i = some (g, b) ∧ g < w.heap.size ∧ (⟨ty, ro, .row sz N len cap f⟩ : Ob).mem i := by
  have ho := hI.ob j _ hg
  have key : ∃ g b, β j i = some (g, b) ∧ (⟨ty, ro, .row sz N len cap f⟩ : Ob).mem i := by
    cases ro with
    | true =>
      obtain ⟨g, b, h1, _⟩ := ho i hi k hk
      exact ⟨g, b, h1, hi, fun _ => by omega, fun h => by cases h⟩
    | false =>
      rcases ho i hi with ⟨h1, _⟩ | ⟨g, cur, h1, h2, _, h4, h6⟩
      · omega
      · exact ⟨g, 0, h1, hi, (fun h => by cases h), fun _ => by omega⟩
  obtain ⟨g, b, h1, h2⟩ := key
  exact ⟨g, b, h1, ho.block h2 h1, h2⟩
/-- A load that lies somewhere. -/
def Ld (H : List Ob) (x : SV) (y : List Int) (c : Nat) : Prop :=
  (∃ F p o, x = .s F p o y.length c 1 ∧ (0 < y.length → ∃ ty ro N len cap f, H[F]? = some ⟨ty, ro, .row 1 N len cap f⟩ ∧ p < N ∧ o + y.length ≤ len p ∧ ∀ q, q < y.length → f p (o + q) = [.v (.int .i64 (ix y q))])) ∨
  (x = .v (.slice none 0 0) ∧ y.length = 0 ∧ c = 0)
theorem ld_gives {β : Bs} {H : List Ob} {w : World} (hI : Inv β H w) {x : SV} {y : List Int} {c : Nat} (h : Ld H x y c) {u : Value} (hu : Ok β x u) :
    ∃ (L : Option (Nat × Nat)) (A : Option Addr), u = .slice A y.length c ∧ y.length ≤ c ∧ (0 < c → ∃ g b, L = some (g, b) ∧ A = some ⟨g, b, none⟩) ∧
      (0 < y.length → ∃ g b, L = some (g, b) ∧ g < w.heap.size ∧ MemB β H g ∧ ∀ q, q < y.length → w.cell? ⟨g, b + q, none⟩ = some (.int .i64 (ix y q))) := by
  rcases h with ⟨F, p, o, rfl, h⟩ | ⟨rfl, h1, rfl⟩
  · simp only [Ok] at hu
    obtain ⟨A, rfl, hle, h3⟩ := hu
    refine ⟨A.map fun a => (a.block, a.off), A, rfl, hle, fun hc => ?_, fun hy => ?_⟩
    · obtain ⟨g, b, _, rfl⟩ := h3 hc
      exact ⟨g, b + o * 1, rfl, rfl⟩
    · obtain ⟨ty, ro, N, len, cap, f, hg, hp, ho, hf⟩ := h hy
      obtain ⟨g, b, h4, rfl⟩ := h3 (by omega)
      obtain ⟨g', b', h5, h6, h7⟩ := row_place hI hg hp (k := o) (by omega)
      rw [h4] at h5
      obtain ⟨rfl, rfl⟩ : g = g' ∧ b = b' := by simpa using h5
      refine ⟨g, b + o * 1, rfl, h6, ⟨F, p, _, b, hg, h7, h4⟩, fun q hq => ?_⟩
      have hct : (obAt H F).ct = .row 1 N len cap f := by rw [obAt_some hg]
      obtain ⟨u, h8, h9⟩ := row_cell hI hct hp (k := o + q) (c := 0) (by omega) h4 (x := .v (.int .i64 (ix y q))) (by rw [hf q hq]; rfl)
      simp only [Ok] at h9
      subst h9
      rw [← h8]
      congr 2
      omega
  · simp only [Ok] at hu
    subst hu
    exact ⟨none, none, by rw [h1], by omega, fun h => by omega, fun h => by omega⟩
theorem ld_fam {H : List Ob} {F p o N n ty c : Nat} {ro : Bool} {len cap : Nat → Nat} {f : Nat → Nat → List SV} {y : List Int} (hF : H[F]? = some ⟨ty, ro, .row 1 N len cap f⟩) (hn : n = y.length) (hp : p < N) (ho : o + y.length ≤ len p) (hf : ∀ q, q < y.length → f p (o + q) = [.v (.int .i64 (ix y q))]) : Ld H (.s F p o n c 1) y c :=
  .inl ⟨F, p, o, by rw [hn], fun _ => ⟨ty, ro, N, len, cap, f, hF, hp, ho, hf⟩⟩
set_option maxHeartbeats 8000000 in
theorem wk_pts {H : List Ob} {s l : List Pc} {p : List Pt} {cp : Nat → Nat} {J lc c c2 : Nat} (h0 : H[0]? = some (rSt s)) (h1 : H[1]? = some (rPc l)) {ty : Nat} {ro : Bool} {len cap : Nat → Nat} {f : Nat → Nat → List SV}
    (hJ : H[J]? = some ⟨ty, ro, .row 3 1 len cap f⟩) (hl : p.length ≤ len 0) (he : ∀ k, k < p.length → ∃ x, f 0 k = [.v (.int .i64 (ix p k).stock), x, .v (.int .i64 (ix p k).times)] ∧ Ld H x (ix p k).ps (cp k)) :
    Wk (α := List Value) 0 (fun β u => OkL β [.s 0 0 0 s.length c 2, .s 1 0 0 l.length c2 2, .s J 0 0 p.length lc 3] u) (fun β u => OkL β [.s 0 0 0 s.length c 2, .s 1 0 0 l.length c2 2, .s 2 0 0 p.length lc 3] u) H [rSt s, rPc l, rPt 3 p cp, rFm p.length (fmP p)] := by
  intro β w hI _
  have each : ∀ k, ∃ L : Option (Nat × Nat), k < p.length → ∃ (g b : Nat) (A : Option Addr), β J 0 = some (g, b) ∧ w.cell? ⟨g, b + (k * 3 + 0), none⟩ = some (.int .i64 (ix p k).stock) ∧ w.cell? ⟨g, b + (k * 3 + 2), none⟩ = some (.int .i64 (ix p k).times) ∧ w.cell? ⟨g, b + (k * 3 + 1), none⟩ = some (.slice A (ix p k).ps.length (cp k)) ∧ (ix p k).ps.length ≤ cp k ∧ (0 < cp k → ∃ g b, L = some (g, b) ∧ A = some ⟨g, b, none⟩) ∧
      (0 < (ix p k).ps.length → ∃ g b, L = some (g, b) ∧ g < w.heap.size ∧ MemB β H g ∧ ∀ q, q < (ix p k).ps.length → w.cell? ⟨g, b + q, none⟩ = some (.int .i64 (ix (ix p k).ps q))) := fun k => by
    by_cases hk : k < p.length
    · obtain ⟨x, hx, hld⟩ := he k hk
      obtain ⟨g, b, h4, h5, h6⟩ := row_place hI hJ (i := 0) (by omega) (k := k) (by omega)
      have hct : (obAt H J).ct = .row 3 1 len cap f := by rw [obAt_some hJ]
      obtain ⟨u, h8, h9⟩ := row_cell hI hct (i := 0) (by omega) (k := k) (c := 1) (by omega) h4 (x := x) (by rw [hx]; rfl)
      obtain ⟨u0, h80, h90⟩ := row_cell hI hct (i := 0) (by omega) (k := k) (c := 0) (by omega) h4 (x := .v (.int .i64 (ix p k).stock)) (by rw [hx]; rfl)
      obtain ⟨u2, h82, h92⟩ := row_cell hI hct (i := 0) (by omega) (k := k) (c := 2) (by omega) h4 (x := .v (.int .i64 (ix p k).times)) (by rw [hx]; rfl)
      simp only [Ok] at h90 h92
      subst h90 h92
      obtain ⟨L, A, rfl, q2, q3, q4⟩ := ld_gives hI hld h9
      exact ⟨L, fun _ => ⟨g, b, A, h4, h80, h82, h8, q2, q3, q4⟩⟩
    · exact ⟨none, fun h => absurd h hk⟩
  let L : Nat → Option (Nat × Nat) := fun k => (each k).choose
  have hL : ∀ k, k < p.length → _ := fun k => (each k).choose_spec
  let β' : Bs := fun j i => if j = 0 then (if i = 0 then β 0 0 else none) else if j = 1 then (if i = 0 then β 1 0 else none) else if j = 2 then (if i = 0 then β J 0 else none) else if j = 3 then (if i < p.length then L i else none) else none
  have b0 : β' 0 0 = β 0 0 := rfl
  have b1 : β' 1 0 = β 1 0 := rfl
  have b2 : β' 2 0 = β J 0 := rfl
  have b3 : ∀ k, k < p.length → β' 3 k = L k := fun k hk => by
    show (if k < p.length then L k else none) = L k
    rw [if_pos hk]
  have hI' : Inv β' [rSt s, rPc l, rPt 3 p cp, rFm p.length (fmP p)] w := by
    refine inv_ro (fun j o ho => ?_) (fun j i hj => ?_) fun j o i ho hov => ?_
    · match j with
      | 0 =>
        simp at ho; subst ho
        refine ⟨rfl, fun i hi k hk => ?_⟩
        obtain rfl : i = 0 := by omega
        obtain ⟨g, b, h1, h2, h3⟩ := (hI.ob 0 _ h0) 0 (by omega) k hk
        refine ⟨g, b, by rw [b0]; exact h1, h2, fun c x hx => ?_⟩
        obtain ⟨u, h4, h5⟩ := h3 c x hx
        refine ⟨u, h4, ?_⟩
        match c with
        | 0 => simp [cPc] at hx; subst hx; simpa only [Ok] using h5
        | 1 => simp [cPc] at hx; subst hx; simpa only [Ok] using h5
        | c + 2 => simp [cPc] at hx
      | 1 =>
        simp at ho; subst ho
        refine ⟨rfl, fun i hi k hk => ?_⟩
        obtain rfl : i = 0 := by omega
        obtain ⟨g, b, h1, h2, h3⟩ := (hI.ob 1 _ h1) 0 (by omega) k hk
        refine ⟨g, b, by rw [b1]; exact h1, h2, fun c x hx => ?_⟩
        obtain ⟨u, h4, h5⟩ := h3 c x hx
        refine ⟨u, h4, ?_⟩
        match c with
        | 0 => simp [cPc] at hx; subst hx; simpa only [Ok] using h5
        | 1 => simp [cPc] at hx; subst hx; simpa only [Ok] using h5
        | c + 2 => simp [cPc] at hx
      | 2 =>
        simp at ho; subst ho
        refine ⟨rfl, fun i hi k hk => ?_⟩
        obtain rfl : i = 0 := by omega
        have hk : k < p.length := hk
        obtain ⟨g, b, A, h1, h20, h22, h2, h3, h4, h5⟩ := hL k hk
        obtain ⟨g', b', h6, h7, _⟩ := row_place hI hJ (i := 0) (by omega) (k := k) (by omega)
        rw [h1] at h6
        obtain ⟨rfl, rfl⟩ : g = g' ∧ b = b' := by simpa using h6
        refine ⟨g, b, by rw [b2]; exact h1, h7, fun c x hx => ?_⟩
        match c with
        | 0 =>
          simp [cPt] at hx; subst hx
          exact ⟨_, h20, by simp only [Ok]⟩
        | 1 =>
          simp [cPt] at hx; subst hx
          refine ⟨_, h2, ?_⟩
          simp only [Ok]
          refine ⟨A, rfl, h3, fun hc => ?_⟩
          obtain ⟨g1, bb, h8, rfl⟩ := h4 hc
          exact ⟨g1, bb, by rw [b3 k hk]; exact h8, by simp⟩
        | 2 =>
          simp [cPt] at hx; subst hx
          exact ⟨_, h22, by simp only [Ok]⟩
        | c + 3 => simp [cPt] at hx
      | 3 =>
        simp at ho; subst ho
        refine ⟨rfl, fun i hi k hk => ?_⟩
        have hi : i < p.length := hi
        have hk : k < (ix p i).ps.length := hk
        obtain ⟨_, _, A, _, _, _, _, _, _, h5⟩ := hL i hi
        obtain ⟨g, b, h6, h7, _, h8⟩ := h5 (by omega)
        refine ⟨g, b, by rw [b3 i hi]; exact h6, h7, fun c x hx => ?_⟩
        match c with
        | 0 =>
          simp [fmP] at hx; subst hx
          exact ⟨_, by simpa using h8 k hk, by simp only [Ok]⟩
        | c + 1 => simp at hx
      | j + 4 => simp at ho
    · simp only [List.length_cons, List.length_nil] at hj
      simp only [β']
      rw [if_neg (by omega), if_neg (by omega), if_neg (by omega), if_neg (by omega)]
    · match j with
      | 0 =>
        simp at ho; subst ho
        have hov : 1 ≤ i := hov
        show (if i = 0 then β 0 0 else none) = none
        rw [if_neg (by omega)]
      | 1 =>
        simp at ho; subst ho
        have hov : 1 ≤ i := hov
        show (if i = 0 then β 1 0 else none) = none
        rw [if_neg (by omega)]
      | 2 =>
        simp at ho; subst ho
        have hov : 1 ≤ i := hov
        show (if i = 0 then β J 0 else none) = none
        rw [if_neg (by omega)]
      | 3 =>
        simp at ho; subst ho
        have hov : p.length ≤ i := hov
        show (if i < p.length then L i else none) = none
        rw [if_neg (by omega)]
      | j + 4 => simp at ho
  refine ⟨β', hI', fun u hu => ?_, fun j i x hj => by omega, fun g hg => ?_, fun g hg => ?_, Nat.zero_le _⟩
  · simp only [OkL] at hu ⊢
    obtain ⟨u0, _, rfl, h1, u1, _, rfl, h2, u2, _, rfl, h3, rfl⟩ := hu
    refine ⟨u0, _, rfl, ?_, u1, _, rfl, ?_, u2, _, rfl, ?_, rfl⟩
    · simp only [Ok] at h1 ⊢; rw [b0]; exact h1
    · simp only [Ok] at h2 ⊢; rw [b1]; exact h2
    · simp only [Ok] at h3 ⊢; rw [b2]; exact h3
  · obtain ⟨j, i, o, b, ho, hown, _⟩ := hg
    exfalso
    match j with
    | 0 => simp at ho; subst ho; exact absurd hown.2.1 (by simp [rSt])
    | 1 => simp at ho; subst ho; exact absurd hown.2.1 (by simp [rPc])
    | 2 => simp at ho; subst ho; exact absurd hown.2.1 (by simp [rPt])
    | 3 => simp at ho; subst ho; exact absurd hown.2.1 (by simp [rFm])
    | j + 4 => simp at ho
  · obtain ⟨j, i, o, b, ho, hmem, hb⟩ := hg
    match j with
    | 0 =>
      simp at ho; subst ho
      have hi : i < 1 := hmem.1
      obtain rfl : i = 0 := by omega
      exact ⟨0, 0, _, b, h0, ⟨by omega, hmem.2⟩, by rw [← b0]; exact hb⟩
    | 1 =>
      simp at ho; subst ho
      have hi : i < 1 := hmem.1
      obtain rfl : i = 0 := by omega
      exact ⟨1, 0, _, b, h1, ⟨by omega, hmem.2⟩, by rw [← b1]; exact hb⟩
    | 2 =>
      simp at ho; subst ho
      have hi : i < 1 := hmem.1
      obtain rfl : i = 0 := by omega
      have hn : 0 < p.length := hmem.2.1 rfl
      obtain ⟨g', b', h6, _, h7⟩ := row_place hI hJ (i := 0) (by omega) (k := 0) (by omega)
      rw [b2, h6] at hb
      obtain ⟨rfl, rfl⟩ : g' = g ∧ b' = b := by simpa using hb
      exact ⟨J, 0, _, _, hJ, h7, h6⟩
    | 3 =>
      simp at ho; subst ho
      have hi : i < p.length := hmem.1
      have hn : 0 < (ix p i).ps.length := hmem.2.1 rfl
      obtain ⟨_, _, A, _, _, _, _, _, _, h5⟩ := hL i hi
      obtain ⟨g', b', h6, _, h8, _⟩ := h5 hn
      rw [b3 i hi] at hb
      have : L i = some (g', b') := h6
      rw [this] at hb
      obtain ⟨rfl, rfl⟩ : g' = g ∧ b' = b := by simpa using hb
      exact h8
    | j + 4 => simp at ho
/-- Check, wherever the patterns lie. -/
theorem check_any {H : List Ob} {s l : List Pc} {p : List Pt} {cp : Nat → Nat} {J lc c c2 n : Nat} (hn : p.length = n) (hsl : s.length ≤ 9223372036854775807) (hll : l.length ≤ 9223372036854775807) (hg : ∀ k, k < p.length → (ix p k).ps.length ≤ 9223372036854775806) (hpl : p.length ≤ 9223372036854775807)
    (h0 : H[0]? = some (rSt s)) (h1 : H[1]? = some (rPc l)) {ty : Nat} {ro : Bool} {len cap : Nat → Nat} {f : Nat → Nat → List SV}
    (hJ : H[J]? = some ⟨ty, ro, .row 3 1 len cap f⟩) (hl : p.length ≤ len 0) (he : ∀ k, k < p.length → ∃ x, f 0 k = [.v (.int .i64 (ix p k).stock), x, .v (.int .i64 (ix p k).times)] ∧ Ld H x (ix p k).ps (cp k)) :
    Pu Try.prog 24 [.s 0 0 0 s.length c 2, .s 1 0 0 l.length c2 2, .s J 0 0 n lc 3] H (.t [.v (.bool (stB s && orderB l && rightB s l p)), .v (.int .i64 (if stB s && orderB l then 0 else 1))]) := by
  subst hn
  exact pu_pre (wk_pts h0 h1 hJ hl he) rfl (check_pu s l p cp p.length c c2 lc (fmP p) hsl hll (Nat.le_refl _) (fun _ _ => rfl) hg hpl)
end Go.Proofs.Ythlpfjcjfhdmaaa
