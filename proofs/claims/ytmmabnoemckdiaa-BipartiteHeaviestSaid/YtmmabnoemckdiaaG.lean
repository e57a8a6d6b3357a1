/- Lists of neighbours that lie anywhere, seen as lists that are only read. -/
import Derived.Test.YtmmabnoemckdiaaF
set_option maxRecDepth 100000
set_option linter.unusedSimpArgs false
set_option linter.unusedVariables false
namespace Go.Proofs.Ytmmabnoemckdiaa
open Go.RowKit Bip
theorem row_place {β : Bs} {H : List Ob} {w : World} (hI : Inv β H w) {j i k sz N ty : Nat} {ro : Bool} {len cap : Nat → Nat} {f : Nat → Nat → List SV} (hg : H[j]? = some ⟨ty, ro, .row sz N len cap f⟩) (hi : i < N) (hk : k < len i) :
    ∃ g b, β j i = some (g, b) ∧ g < w.heap.size ∧ (⟨ty, ro, .row sz N len cap f⟩ : Ob).mem i := by
  have ho := hI.ob j _ hg
  have key : ∃ g b, β j i = some (g, b) ∧ (⟨ty, ro, .row sz N len cap f⟩ : Ob).mem i := by
    cases ro with
    | true =>
      obtain ⟨g, b, h1, _⟩ := ho i hi k hk
      exact ⟨g, b, h1, hi, fun _ => by omega, fun h => by cases h⟩
    | false =>
      rcases ho i hi with ⟨h1, _⟩ | ⟨g, cur, h1, h2, _, h4, h6⟩
      · omega
      · exact ⟨g, 0, h1, hi, (fun h => by cases h), fun _ => by omega⟩
  obtain ⟨g, b, h1, h2⟩ := key
  exact ⟨g, b, h1, ho.block h2 h1, h2⟩
/-- A list that lies somewhere. -/
def Ld (H : List Ob) (x : SV) (y : List Int) (c : Nat) : Prop :=
  ∃ F p o, x = .s F p o y.length c 1 ∧ (0 < y.length → ∃ ty ro N len cap f, H[F]? = some ⟨ty, ro, .row 1 N len cap f⟩ ∧ p < N ∧ o + y.length ≤ len p ∧ ∀ q, q < y.length → f p (o + q) = [.v (.int .i64 (ix y q))])
theorem ld_gives {β : Bs} {H : List Ob} {w : World} (hI : Inv β H w) {x : SV} {y : List Int} {c : Nat} (h : Ld H x y c) {u : Value} (hu : Ok β x u) :
    ∃ (L : Option (Nat × Nat)) (A : Option Addr), u = .slice A y.length c ∧ y.length ≤ c ∧ (0 < c → ∃ g b, L = some (g, b) ∧ A = some ⟨g, b, none⟩) ∧
      (0 < y.length → ∃ g b, L = some (g, b) ∧ g < w.heap.size ∧ MemB β H g ∧ ∀ q, q < y.length → w.cell? ⟨g, b + q, none⟩ = some (.int .i64 (ix y q))) := by
  obtain ⟨F, p, o, rfl, h⟩ := h
  simp only [Ok] at hu
  obtain ⟨A, rfl, hle, h3⟩ := hu
  refine ⟨A.map fun a => (a.block, a.off), A, rfl, hle, fun hc => ?_, fun hy => ?_⟩
  · obtain ⟨g, b, _, rfl⟩ := h3 hc
    exact ⟨g, b + o * 1, rfl, rfl⟩
  · obtain ⟨ty, ro, N, len, cap, f, hg, hp, ho, hf⟩ := h hy
    obtain ⟨g, b, h4, rfl⟩ := h3 (by omega)
    obtain ⟨g', b', h5, h6, h7⟩ := row_place hI hg hp (k := o) (by omega)
    rw [h4] at h5
    obtain ⟨rfl, rfl⟩ : g = g' ∧ b = b' := by simpa using h5
    refine ⟨g, b + o * 1, rfl, h6, ⟨F, p, _, b, hg, h7, h4⟩, fun q hq => ?_⟩
    have hct : (obAt H F).ct = .row 1 N len cap f := by rw [obAt_some hg]
    obtain ⟨u, h8, h9⟩ := row_cell hI hct hp (k := o + q) (c := 0) (by omega) h4 (x := .v (.int .i64 (ix y q))) (by rw [hf q hq]; rfl)
    simp only [Ok] at h9
    subst h9
    rw [← h8]
    congr 2
    omega
/-- The blocks of the lists. -/
theorem ne_places {β : Bs} {H : List Ob} {w : World} (hI : Inv β H w) {N : Nat} {near : Nat → List Int} {cp : Nat → Nat} {J ty : Nat} {ro : Bool} {len cap : Nat → Nat} {f : Nat → Nat → List SV}
    (hJ : H[J]? = some ⟨ty, ro, .row 1 1 len cap f⟩) (hl : N ≤ len 0) (he : ∀ k, k < N → ∃ x, f 0 k = [x] ∧ Ld H x (near k) (cp k)) :
    ∃ L : Nat → Option (Nat × Nat), ∀ k, k < N → ∃ (g b : Nat) (A : Option Addr), β J 0 = some (g, b) ∧ w.cell? ⟨g, b + (k * 1 + 0), none⟩ = some (.slice A (near k).length (cp k)) ∧ (near k).length ≤ cp k ∧ (0 < cp k → ∃ g b, L k = some (g, b) ∧ A = some ⟨g, b, none⟩) ∧
      (0 < (near k).length → ∃ g b, L k = some (g, b) ∧ g < w.heap.size ∧ MemB β H g ∧ ∀ q, q < (near k).length → w.cell? ⟨g, b + q, none⟩ = some (.int .i64 (ix (near k) q))) := by
  have each : ∀ k, ∃ L : Option (Nat × Nat), k < N → ∃ (g b : Nat) (A : Option Addr), β J 0 = some (g, b) ∧ w.cell? ⟨g, b + (k * 1 + 0), none⟩ = some (.slice A (near k).length (cp k)) ∧ (near k).length ≤ cp k ∧ (0 < cp k → ∃ g b, L = some (g, b) ∧ A = some ⟨g, b, none⟩) ∧
      (0 < (near k).length → ∃ g b, L = some (g, b) ∧ g < w.heap.size ∧ MemB β H g ∧ ∀ q, q < (near k).length → w.cell? ⟨g, b + q, none⟩ = some (.int .i64 (ix (near k) q))) := fun k => by
    by_cases hk : k < N
    · obtain ⟨x, hx, hld⟩ := he k hk
      obtain ⟨g, b, h4, h5, h6⟩ := row_place hI hJ (i := 0) (by omega) (k := k) (by omega)
      have hct : (obAt H J).ct = .row 1 1 len cap f := by rw [obAt_some hJ]
      obtain ⟨u, h8, h9⟩ := row_cell hI hct (i := 0) (by omega) (k := k) (c := 0) (by omega) h4 (x := x) (by rw [hx]; rfl)
      obtain ⟨L, A, rfl, q2, q3, q4⟩ := ld_gives hI hld h9
      exact ⟨L, fun _ => ⟨g, b, A, h4, h8, q2, q3, q4⟩⟩
    · exact ⟨none, fun h => absurd h hk⟩
  exact ⟨fun k => (each k).choose, fun k => (each k).choose_spec⟩
/-- A plain row that is only read. -/
structure Rw (o : Ob) (n : Nat) (g : Nat → Value) : Prop where
  ex : ∃ ty ro len cap f, o = ⟨ty, ro, .row 1 1 len cap f⟩ ∧ n ≤ len 0 ∧ ∀ k, k < n → f 0 k = [.v (g k)]
theorem rw_place {β : Bs} {H : List Ob} {w : World} (hI : Inv β H w) {j n : Nat} {o : Ob} {g : Nat → Value} (hj : H[j]? = some o) (h : Rw o n g) {k : Nat} (hk : k < n) :
    ∃ g0 b, β j 0 = some (g0, b) ∧ g0 < w.heap.size ∧ o.mem 0 ∧ w.cell? ⟨g0, b + (k * 1 + 0), none⟩ = some (g k) := by
  obtain ⟨ty, ro, len, cap, f, rfl, hn, hf⟩ := h.ex
  obtain ⟨g0, b, h4, h5, h6⟩ := row_place hI hj (i := 0) (by omega) (k := k) (by omega)
  have hct : (obAt H j).ct = .row 1 1 len cap f := by rw [obAt_some hj]
  obtain ⟨u, h8, h9⟩ := row_cell hI hct (i := 0) (by omega) (k := k) (c := 0) (by omega) h4 (x := .v (g k)) (by rw [hf k hk]; rfl)
  simp only [Ok] at h9
  subst h9
  exact ⟨g0, b, h4, h5, h6, h8⟩
/-- What is seen: the list of lists, the lists, and two plain rows. -/
theorem near_view {β : Bs} {H : List Ob} {w : World} (hI : Inv β H w) {N n1 n2 J j1 j2 : Nat} {near : Nat → List Int} {cp : Nat → Nat} {ty t1 t2 : Nat} {ro : Bool} {len cap : Nat → Nat} {f : Nat → Nat → List SV} {o1 o2 : Ob} {g1 g2 : Nat → Value}
    (hJ : H[J]? = some ⟨ty, ro, .row 1 1 len cap f⟩) (hl : N ≤ len 0) (he : ∀ k, k < N → ∃ x, f 0 k = [x] ∧ Ld H x (near k) (cp k)) (h1 : H[j1]? = some o1) (r1 : Rw o1 n1 g1) (h2 : H[j2]? = some o2) (r2 : Rw o2 n2 g2) :
    ∃ β' : Bs, Inv β' [oNe 1 N near cp, oNf N near, ⟨t1, true, .row 1 1 (fun _ => n1) (fun _ => 0) (fun _ k => [.v (g1 k)])⟩, ⟨t2, true, .row 1 1 (fun _ => n2) (fun _ => 0) (fun _ k => [.v (g2 k)])⟩] w ∧ β' 0 0 = β J 0 ∧ β' 2 0 = β j1 0 ∧ β' 3 0 = β j2 0 ∧
      (∀ g, MemB β' [oNe 1 N near cp, oNf N near, ⟨t1, true, .row 1 1 (fun _ => n1) (fun _ => 0) (fun _ k => [.v (g1 k)])⟩, ⟨t2, true, .row 1 1 (fun _ => n2) (fun _ => 0) (fun _ k => [.v (g2 k)])⟩] g → MemB β H g) := by
  obtain ⟨L, hL⟩ := ne_places hI hJ hl he
  let β' : Bs := fun j i => if j = 0 then (if i = 0 then β J 0 else none) else if j = 1 then (if i < N then L i else none) else if j = 2 then (if i = 0 then β j1 0 else none) else if j = 3 then (if i = 0 then β j2 0 else none) else none
  have b0 : β' 0 0 = β J 0 := rfl
  have b1 : ∀ k, k < N → β' 1 k = L k := fun k hk => by
    show (if k < N then L k else none) = L k
    rw [if_pos hk]
  have b2 : β' 2 0 = β j1 0 := rfl
  have b3 : β' 3 0 = β j2 0 := rfl
  refine ⟨β', inv_ro (fun j o ho => ?_) (fun j i hj => ?_) (fun j o i ho hov => ?_), b0, b2, b3, fun g hg => ?_⟩
  · match j with
    | 0 =>
      simp at ho; subst ho
      refine ⟨rfl, fun i hi k hk => ?_⟩
      obtain rfl : i = 0 := by omega
      have hk : k < N := hk
      obtain ⟨g, b, A, q1, q2, q3, q4, q5⟩ := hL k hk
      obtain ⟨g', b', h6, h7, _⟩ := row_place hI hJ (i := 0) (by omega) (k := k) (by omega)
      rw [q1] at h6
      obtain ⟨rfl, rfl⟩ : g = g' ∧ b = b' := by simpa using h6
      refine ⟨g, b, by rw [b0]; exact q1, h7, fun c x hx => ?_⟩
      match c with
      | 0 =>
        simp at hx; subst hx
        refine ⟨_, q2, ?_⟩
        simp only [Ok]
        refine ⟨A, rfl, q3, fun hc => ?_⟩
        obtain ⟨g1, bb, h8, rfl⟩ := q4 hc
        exact ⟨g1, bb, by rw [b1 k hk]; exact h8, by simp⟩
      | c + 1 => simp at hx
    | 1 =>
      simp at ho; subst ho
      refine ⟨rfl, fun i hi k hk => ?_⟩
      have hi : i < N := hi
      have hk : k < (near i).length := hk
      obtain ⟨_, _, A, _, _, _, _, q5⟩ := hL i hi
      obtain ⟨g, b, h6, h7, _, h8⟩ := q5 (by omega)
      refine ⟨g, b, by rw [b1 i hi]; exact h6, h7, fun c x hx => ?_⟩
      match c with
      | 0 =>
        simp at hx; subst hx
        have h9 := h8 k hk
        rw [show b + k = b + (k * 1 + 0) by omega] at h9
        exact ⟨_, h9, by simp only [Ok]⟩
      | c + 1 => simp at hx
    | 2 =>
      simp at ho; subst ho
      refine ⟨rfl, fun i hi k hk => ?_⟩
      obtain rfl : i = 0 := by omega
      obtain ⟨g, b, q1, q2, _, q4⟩ := rw_place hI h1 r1 hk
      refine ⟨g, b, by rw [b2]; exact q1, q2, fun c x hx => ?_⟩
      match c with
      | 0 => simp at hx; subst hx; exact ⟨_, q4, by simp only [Ok]⟩
      | c + 1 => simp at hx
    | 3 =>
      simp at ho; subst ho
      refine ⟨rfl, fun i hi k hk => ?_⟩
      obtain rfl : i = 0 := by omega
      obtain ⟨g, b, q1, q2, _, q4⟩ := rw_place hI h2 r2 hk
      refine ⟨g, b, by rw [b3]; exact q1, q2, fun c x hx => ?_⟩
      match c with
      | 0 => simp at hx; subst hx; exact ⟨_, q4, by simp only [Ok]⟩
      | c + 1 => simp at hx
    | j + 4 => simp at ho
  · simp only [List.length_cons, List.length_nil] at hj
    simp only [β']
    rw [if_neg (by omega), if_neg (by omega), if_neg (by omega), if_neg (by omega)]
  · match j with
    | 0 =>
      simp at ho; subst ho
      have hov : 1 ≤ i := hov
      show (if i = 0 then β J 0 else none) = none
      rw [if_neg (by omega)]
    | 1 =>
      simp at ho; subst ho
      have hov : N ≤ i := hov
      show (if i < N then L i else none) = none
      rw [if_neg (by omega)]
    | 2 =>
      simp at ho; subst ho
      have hov : 1 ≤ i := hov
      show (if i = 0 then β j1 0 else none) = none
      rw [if_neg (by omega)]
    | 3 =>
      simp at ho; subst ho
      have hov : 1 ≤ i := hov
      show (if i = 0 then β j2 0 else none) = none
      rw [if_neg (by omega)]
    | j + 4 => simp at ho
  · obtain ⟨j, i, o, b, ho, hmem, hb⟩ := hg
    match j with
    | 0 =>
      simp at ho; subst ho
      have hi : i < 1 := hmem.1
      obtain rfl : i = 0 := by omega
      have hn : 0 < N := hmem.2.1 rfl
      obtain ⟨g', b', h6, _, h7⟩ := row_place hI hJ (i := 0) (by omega) (k := 0) (by omega)
      rw [b0, h6] at hb
      obtain ⟨rfl, rfl⟩ : g' = g ∧ b' = b := by simpa using hb
      exact ⟨J, 0, _, _, hJ, h7, h6⟩
    | 1 =>
      simp at ho; subst ho
      have hi : i < N := hmem.1
      have hn : 0 < (near i).length := hmem.2.1 rfl
      obtain ⟨_, _, A, _, _, _, _, q5⟩ := hL i hi
      obtain ⟨g', b', h6, _, h8, _⟩ := q5 hn
      rw [b1 i hi] at hb
      have : L i = some (g', b') := h6
      rw [this] at hb
      obtain ⟨rfl, rfl⟩ : g' = g ∧ b' = b := by simpa using hb
      exact h8
    | 2 =>
      simp at ho; subst ho
      have hi : i < 1 := hmem.1
      obtain rfl : i = 0 := by omega
      have hn : 0 < n1 := hmem.2.1 rfl
      obtain ⟨g', b', h6, _, h7, _⟩ := rw_place hI h1 r1 hn
      rw [b2, h6] at hb
      obtain ⟨rfl, rfl⟩ : g' = g ∧ b' = b := by simpa using hb
      exact ⟨j1, 0, _, _, h1, h7, h6⟩
    | 3 =>
      simp at ho; subst ho
      have hi : i < 1 := hmem.1
      obtain rfl : i = 0 := by omega
      have hn : 0 < n2 := hmem.2.1 rfl
      obtain ⟨g', b', h6, _, h7, _⟩ := rw_place hI h2 r2 hn
      rw [b3, h6] at hb
      obtain ⟨rfl, rfl⟩ : g' = g ∧ b' = b := by simpa using hb
      exact ⟨j2, 0, _, _, h2, h7, h6⟩
    | j + 4 => simp at ho
end Go.Proofs.Ytmmabnoemckdiaa
