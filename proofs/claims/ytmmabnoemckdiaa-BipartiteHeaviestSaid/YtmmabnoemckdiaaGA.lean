/- Contract: the lists of neighbours, as lists that are only read. -/
import Derived.Test.YtmmabnoemckdiaaG
set_option maxRecDepth 100000
set_option linter.unusedSimpArgs false
set_option linter.unusedVariables false
namespace Go.Proofs.Ytmmabnoemckdiaa
open Go.RowKit Bip
theorem near_keep {H : List Ob} {l : List Ed} {N : Nat} {near : Nat → List Int} {cp : Nat → Nat} {J ty : Nat} {ro : Bool} {len cap : Nat → Nat} {f : Nat → Nat → List SV} {a b : Nat} (h0 : H[0]? = some (rEd l))
    (hJ : H[J]? = some ⟨ty, ro, .row 1 1 len cap f⟩) (hl : N ≤ len 0) (he : ∀ k, k < N → ∃ x, f 0 k = [x] ∧ Ld H x (near k) (cp k)) (hlen : 3 ≤ H.length) :
    VWk 1 (.s J 0 0 a b 1) H (.s 1 0 0 a b 1) [rEd l, oNe 2 N near cp, oNf N near] := by
  intro β w hI _
  obtain ⟨L, hL⟩ := ne_places hI hJ hl he
  let β' : Bs := fun j i => if j = 0 then β 0 i else if j = 1 then (if i = 0 then β J 0 else none) else if j = 2 then (if i < N then L i else none) else none
  have b0 : ∀ i, β' 0 i = β 0 i := fun i => rfl
  have b1 : β' 1 0 = β J 0 := rfl
  have b2 : ∀ k, k < N → β' 2 k = L k := fun k hk => by
    show (if k < N then L k else none) = L k
    rw [if_pos hk]
  have hI' : Inv β' [rEd l, oNe 2 N near cp, oNf N near] w := by
    refine inv_ro (fun j o ho => ?_) (fun j i hj => ?_) (fun j o i ho hov => ?_)
    · match j with
      | 0 =>
        simp at ho; subst ho
        refine ⟨rfl, fun i hi k hk => ?_⟩
        obtain ⟨g, b, h1, h2, h3⟩ := (hI.ob 0 _ h0) i hi k hk
        refine ⟨g, b, by rw [b0]; exact h1, h2, fun c x hx => ?_⟩
        obtain ⟨u, h4, h5⟩ := h3 c x hx
        refine ⟨u, h4, ?_⟩
        match c with
        | 0 => simp [cEd] at hx; subst hx; simpa only [Ok] using h5
        | 1 => simp [cEd] at hx; subst hx; simpa only [Ok] using h5
        | c + 2 => simp [cEd] at hx
      | 1 =>
        simp at ho; subst ho
        refine ⟨rfl, fun i hi k hk => ?_⟩
        obtain rfl : i = 0 := by omega
        have hk : k < N := hk
        obtain ⟨g, b, A, q1, q2, q3, q4, q5⟩ := hL k hk
        obtain ⟨g', b', h6, h7, _⟩ := row_place hI hJ (i := 0) (by omega) (k := k) (by omega)
        rw [q1] at h6
        obtain ⟨rfl, rfl⟩ : g = g' ∧ b = b' := by simpa using h6
        refine ⟨g, b, by rw [b1]; exact q1, h7, fun c x hx => ?_⟩
        match c with
        | 0 =>
          simp at hx; subst hx
          refine ⟨_, q2, ?_⟩
          simp only [Ok]
          refine ⟨A, rfl, q3, fun hc => ?_⟩
          obtain ⟨g1, bb, h8, rfl⟩ := q4 hc
          exact ⟨g1, bb, by rw [b2 k hk]; exact h8, by simp⟩
        | c + 1 => simp at hx
      | 2 =>
        simp at ho; subst ho
        refine ⟨rfl, fun i hi k hk => ?_⟩
        have hi : i < N := hi
        have hk : k < (near i).length := hk
        obtain ⟨_, _, A, _, _, _, _, q5⟩ := hL i hi
        obtain ⟨g, b, h6, h7, _, h8⟩ := q5 (by omega)
        refine ⟨g, b, by rw [b2 i hi]; exact h6, h7, fun c x hx => ?_⟩
        match c with
        | 0 =>
          simp at hx; subst hx
          have h9 := h8 k hk
          rw [show b + k = b + (k * 1 + 0) by omega] at h9
          exact ⟨_, h9, by simp only [Ok]⟩
        | c + 1 => simp at hx
      | j + 3 => simp at ho
    · simp only [List.length_cons, List.length_nil] at hj
      simp only [β']
      rw [if_neg (by omega), if_neg (by omega), if_neg (by omega)]
    · match j with
      | 0 =>
        simp at ho; subst ho
        exact hI.bey 0 _ i h0 hov
      | 1 =>
        simp at ho; subst ho
        have hov : 1 ≤ i := hov
        show (if i = 0 then β J 0 else none) = none
        rw [if_neg (by omega)]
      | 2 =>
        simp at ho; subst ho
        have hov : N ≤ i := hov
        show (if i < N then L i else none) = none
        rw [if_neg (by omega)]
      | j + 3 => simp at ho
  refine ⟨β', hI', fun u hu => ?_, fun j i x hj hx => ?_, fun g hg => ?_, fun g hg => ?_, by simp only [List.length_cons, List.length_nil]; omega⟩
  · simp only [Ok] at hu ⊢
    rw [b1]
    exact hu
  · obtain rfl : j = 0 := by omega
    rw [b0]; exact hx
  · obtain ⟨j, i, o, b, ho, hown, _⟩ := hg
    exfalso
    match j with
    | 0 => simp at ho; subst ho; exact absurd hown.2.1 (by simp [rEd])
    | 1 => simp at ho; subst ho; exact absurd hown.2.1 (by simp [oNe])
    | 2 => simp at ho; subst ho; exact absurd hown.2.1 (by simp [oNf])
    | j + 3 => simp at ho
  · obtain ⟨j, i, o, b, ho, hmem, hb⟩ := hg
    match j with
    | 0 =>
      simp at ho; subst ho
      exact ⟨0, i, _, b, h0, hmem, by rw [← b0]; exact hb⟩
    | 1 =>
      simp at ho; subst ho
      have hi : i < 1 := hmem.1
      obtain rfl : i = 0 := by omega
      have hn : 0 < N := hmem.2.1 rfl
      obtain ⟨g', b', h6, _, h7⟩ := row_place hI hJ (i := 0) (by omega) (k := 0) (by omega)
      rw [b1, h6] at hb
      obtain ⟨rfl, rfl⟩ : g' = g ∧ b' = b := by simpa using hb
      exact ⟨J, 0, _, _, hJ, h7, h6⟩
    | 2 =>
      simp at ho; subst ho
      have hi : i < N := hmem.1
      have hn : 0 < (near i).length := hmem.2.1 rfl
      obtain ⟨_, _, A, _, _, _, _, q5⟩ := hL i hi
      obtain ⟨g', b', h6, _, h8, _⟩ := q5 hn
      rw [b2 i hi] at hb
      have : L i = some (g', b') := h6
      rw [this] at hb
      obtain ⟨rfl, rfl⟩ : g' = g ∧ b' = b := by simpa using hb
      exact h8
    | j + 3 => simp at ho
/-- The table of some edges. -/
def tab (l : List Ed) (i j : Nat) : Bool := l.any fun e => e.x.toNat == i && e.y.toNat == j
def nearL (l : List Ed) (N m i : Nat) : List Int := ix (srt (bags N l) N) i
theorem lists1_sp (l : List Ed) (N m c : Nat) (hN : N ≤ 1000) (hl : l.length ≤ 100000) (hv : ∀ e ∈ l, inE N m e = true) : Sp Try.prog 51 [.v (.int .i64 N), .s 0 0 0 l.length c 2] [rEd l] (fun r H => ∃ cp, r = .s 1 0 0 N N 1 ∧ H = [rEd l, oNe 2 N (nearL l N m) cp, oNf N (nearL l N m)]) := by
  refine sp_wk ((lists0_sp l N m c hN hl hv).mono ?_)
  rintro _ _ ⟨s, hs, rfl, rfl⟩
  have hLl : (srt (bags N l) N).length = N := by rw [srt_len, bags_len]
  refine ⟨.s 1 0 0 N N 1, _, near_keep (J := 1) (N := N) (near := nearL l N m) (cp := fun k => s.fc (s.pi k)) rfl rfl (Nat.le_refl N) (fun k hk => ⟨_, rfl, 2, s.pi k, 0, rfl, fun h0 => ⟨_, _, _, _, _, _, rfl, hs.lt k (by omega), ?_, fun q hq => ?_⟩⟩) (by simp), _, rfl, rfl⟩
  · have := hs.len k (by omega)
    rw [Nat.zero_add]; exact this
  · have := hs.val k (by omega) q hq
    rw [Nat.zero_add, this]
    rfl
end Go.Proofs.Ytmmabnoemckdiaa
