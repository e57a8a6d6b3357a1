/- Plain: the program of an order has columns for all lines, a point, and multipliers. -/
import Derived.Test.YtdeaaonppokgkaaGreatGE
import Derived.Test.YtdeaaonppokgkaaGreatGI
import Derived.Test.YtdeaaonppokgkaaGreatBA9
set_option maxRecDepth 100000
set_option linter.unusedSimpArgs false
set_option linter.unusedVariables false
namespace Go.Proofs.YtdeaaonppokgkaaGreat.Pat
open Go.RowKit Lp
def bmp : Nat → List Int → List Int
  | _, [] => []
  | 0, n :: ns => (n + 1) :: ns
  | k + 1, n :: ns => n :: bmp k ns
theorem bmp_ok : ∀ {l : List Pc} {q : List Int} {k : Nat}, q.length = l.length → k < l.length → inB l q = true → ix q k < (ix l k).cnt →
    inB l (bmp k q) = true ∧ sumL l (bmp k q) = sumL l q + (ix l k).len ∧ (bmp k q).length = q.length ∧ (∀ j, ix q j ≤ ix (bmp k q) j) ∧ ix (bmp k q) k = ix q k + 1
  | [], _, _, _, h, _, _ => by simp at h
  | p :: l, [], _, h, _, _, _ => by simp at h
  | p :: l, n :: ns, 0, h, _, hi, hc => by
    have hc : n < p.cnt := hc
    simp only [inB, Bool.and_eq_true, decide_eq_true_eq] at hi
    refine ⟨?_, ?_, rfl, fun j => ?_, rfl⟩
    · simp only [bmp, inB, Bool.and_eq_true, decide_eq_true_eq]
      exact ⟨⟨by omega, by omega⟩, hi.2⟩
    · show p.len * (n + 1) + sumL l ns = p.len * n + sumL l ns + p.len
      rw [Int.mul_add]
      omega
    · cases j with
      | zero => show n ≤ n + 1; omega
      | succ j => exact Int.le_refl _
  | p :: l, n :: ns, k + 1, h, hk, hi, hc => by
    simp only [inB, Bool.and_eq_true, decide_eq_true_eq] at hi
    obtain ⟨a1, a2, a3, a4, a5⟩ := bmp_ok (l := l) (q := ns) (k := k) (by simpa using h) (by simpa using hk) hi.2 hc
    refine ⟨?_, ?_, by simp [bmp, a3], fun j => ?_, a5⟩
    · simp only [bmp, inB, Bool.and_eq_true, decide_eq_true_eq]
      exact ⟨hi.1, a1⟩
    · show p.len * n + sumL l (bmp k ns) = p.len * n + sumL l ns + (ix l k).len
      omega
    · cases j with
      | zero => exact Int.le_refl _
      | succ j => exact a4 j
theorem fullB_no {r : Int} : ∀ {l : List Pc} {q : List Int}, q.length = l.length → fullB r l q = false → ∃ k, k < l.length ∧ ix q k < (ix l k).cnt ∧ (ix l k).len ≤ r
  | [], [], _, h => by simp [fullB] at h
  | [], _ :: _, h, _ => by simp at h
  | p :: l, [], h, _ => by simp at h
  | p :: l, n :: ns, he, h => by
    simp only [fullB, Bool.and_eq_false_iff, Bool.not_eq_false', Bool.and_eq_true, decide_eq_true_eq] at h
    rcases h with h | h
    · exact ⟨0, by simp, h.1, h.2⟩
    · obtain ⟨k, h1, h2, h3⟩ := fullB_no (by simpa using he) h
      exact ⟨k + 1, by simpa using h1, h2, h3⟩
/-- A pattern that fits is part of one that is full. -/
theorem grow_full {lim : Int} {l : List Pc} (ho : orderB l = true) : ∀ (n : Nat) (q : List Int), q.length = l.length → inB l q = true → sumL l q ≤ lim → (lim - sumL l q).toNat ≤ n →
    ∃ q', q'.length = l.length ∧ inB l q' = true ∧ sumL l q' ≤ lim ∧ fullB (lim - sumL l q') l q' = true ∧ ∀ k, ix q k ≤ ix q' k := by
  intro n
  induction n with
  | zero =>
    intro q h1 h2 h3 h4
    cases hf : fullB (lim - sumL l q) l q with
    | true => exact ⟨q, h1, h2, h3, hf, fun _ => Int.le_refl _⟩
    | false =>
      obtain ⟨k, k1, k2, k3⟩ := fullB_no h1 hf
      have := order_at ho k1
      omega
  | succ n ih =>
    intro q h1 h2 h3 h4
    cases hf : fullB (lim - sumL l q) l q with
    | true => exact ⟨q, h1, h2, h3, hf, fun _ => Int.le_refl _⟩
    | false =>
      obtain ⟨k, k1, k2, k3⟩ := fullB_no h1 hf
      have h5 := order_at ho k1
      obtain ⟨a1, a2, a3, a4, _⟩ := bmp_ok h1 k1 h2 k2
      obtain ⟨q', b1, b2, b3, b4, b5⟩ := ih (bmp k q) (by omega) a1 (by omega) (by omega)
      exact ⟨q', b1, b2, b3, b4, fun j => Int.le_trans (a4 j) (b5 j)⟩
theorem zeros_ok : ∀ {l : List Pc}, (∀ p ∈ l, 1 ≤ p.cnt) → inB l (List.replicate l.length 0) = true ∧ sumL l (List.replicate l.length 0) = 0
  | [], _ => ⟨rfl, rfl⟩
  | p :: l, h => by
    obtain ⟨a, b⟩ := zeros_ok (l := l) fun q hq => h q (List.mem_cons_of_mem _ hq)
    have hp := h p (List.mem_cons_self ..)
    simp only [List.length_cons, List.replicate_succ, inB, sumL, Bool.and_eq_true, decide_eq_true_eq]
    exact ⟨⟨⟨by omega, by omega⟩, a⟩, by rw [b]; omega⟩
theorem mem_maxE {lim : Int} {l : List Pc} (ho : orderB l = true) (h0 : 0 ≤ lim) {q : List Int} : q ∈ maxE lim l ↔ q.length = l.length ∧ inB l q = true ∧ sumL l q ≤ lim ∧ fullB (lim - sumL l q) l q = true := by
  unfold maxE
  rw [List.mem_filter, mem_eachG (posL_of ho) h0]
  constructor
  · rintro ⟨⟨a, b, c⟩, d⟩; exact ⟨a, b, c, d⟩
  · rintro ⟨a, b, c, d⟩; exact ⟨⟨a, b, c⟩, d⟩
theorem allL_is {lim : Int} {l : List Pc} (hg : givE lim l = 0) (hE : allE lim l = 0) : allL lim l = maxE lim l := by
  obtain ⟨ho, h1, h2, _⟩ := givE_0 hg
  unfold allL
  rw [if_pos hE]
  refine allG_max ?_
  unfold givenE
  rw [if_neg (by rw [ho]; decide), if_neg (by omega), if_pos rfl]
/-- Each line is in one of the maximal patterns. -/
theorem line_in {lim : Int} {l : List Pc} (hg : givE lim l = 0) (hE : allE lim l = 0) {i : Nat} (hi : i < l.length) : ∃ k, k < (allL lim l).length ∧ 1 ≤ ix (ix (allL lim l) k) i := by
  obtain ⟨ho, h1, h2, h3⟩ := givE_0 hg
  obtain ⟨z1, z2⟩ := zeros_ok (l := l) fun p hp => (order_pos ho p hp).2.2.1
  have hz : ix (List.replicate l.length (0 : Int)) i = 0 := by rw [ix_eq (by simpa using hi)]; simp
  have hat := order_at ho hi
  obtain ⟨a1, a2, a3, _, a5⟩ := bmp_ok (k := i) (by simp) hi z1 (by rw [hz]; omega)
  have h3i := h3 i hi
  have hs : sumL l (bmp i (List.replicate l.length 0)) ≤ lim := by rw [a2, z2]; omega
  obtain ⟨q, b1, b2, b3, b4, b5⟩ := grow_full ho _ (bmp i (List.replicate l.length 0)) (by rw [a3]; simp) a1 hs (Nat.le_refl _)
  have hm : q ∈ allL lim l := by
    rw [allL_is hg hE, mem_maxE ho (by omega)]
    exact ⟨b1, b2, b3, b4⟩
  obtain ⟨k, hk, rfl⟩ := List.getElem_of_mem hm
  refine ⟨k, hk, ?_⟩
  rw [ix_eq hk]
  have := b5 i
  omega
theorem all_at {lim : Int} {l : List Pc} (hg : givE lim l = 0) (hE : allE lim l = 0) {k : Nat} (hk : k < (allL lim l).length) : (ix (allL lim l) k).length = l.length ∧ ∀ i, i < l.length → 0 ≤ ix (ix (allL lim l) k) i ∧ ix (ix (allL lim l) k) i ≤ (ix l i).cnt := by
  obtain ⟨ho, h1, h2, h3⟩ := givE_0 hg
  have hm := ix_mem hk
  generalize ix (allL lim l) k = q at *
  rw [allL_is hg hE, mem_maxE ho (by omega)] at hm
  exact ⟨hm.1, fun i hi => inB_at hm.2.1 i hi (by omega)⟩
/-- The program of an order: a column for each of the maximal patterns. -/
def ordP (l : List Pc) (P : List (List Int)) (nc mc : Nat) (cps : Nat → Nat) (hb : l.length ≤ big + 2) : Pm :=
  ⟨P.length, nc, fun _ => 1, l.length, mc, fun t k => ix (ix P k) t, fun t => bif decide (t < l.length) then P.length else 0, cps, fun _ => 2, fun t => (ix l t).cnt, big + 2, hb⟩
theorem ord_v {lim : Int} {l : List Pc} (hg : givE lim l = 0) (hE : allE lim l = 0) (h0 : 0 < l.length) (h6 : l.length ≤ 6) (h12 : (allL lim l).length ≤ 12) (nc mc : Nat) (cps : Nat → Nat) (hb : l.length ≤ big + 2) : vPm (ordP l (allL lim l) nc mc cps hb) = true := by
  obtain ⟨ho, h1, h2, h3⟩ := givE_0 hg
  obtain ⟨k0, hk0, _⟩ := line_in hg hE h0
  refine (vPm_iff _).2 ⟨⟨by show 1 ≤ (allL lim l).length; omega, h12, h6, fun j _ => (far_iff _ _).2 (by show -1048576 ≤ (1 : Int) ∧ (1 : Int) ≤ 1048576; omega)⟩, fun t ht => ?_⟩
  have ht : t < l.length := ht
  have hln : (ordP l (allL lim l) nc mc cps hb).ln t = (allL lim l).length := by
    show (bif decide (t < l.length) then _ else 0) = _
    rw [decide_eq_true ht]; rfl
  have hat := order_at ho ht
  refine (badR_iff _ t).2 ⟨hln, fun k hk => ?_, by show 1 ≤ (2 : Int) ∧ (2 : Int) ≤ 3; omega, by show -1073741824 ≤ (ix l t).cnt ∧ (ix l t).cnt ≤ 1073741824; omega⟩
  rw [hln] at hk
  have := (all_at hg hE hk).2 t ht
  show -1048576 ≤ ix (ix (allL lim l) k) t ∧ ix (ix (allL lim l) k) t ≤ 1048576
  omega
theorem sm_ge {f : Nat → Int} : ∀ {n k : Nat}, k < n → (∀ j, j < n → 0 ≤ f j) → f k ≤ sm n f
  | n + 1, k, hk, h => by
    rw [sm]
    have h1 : 0 ≤ sm n f := sm_nonneg fun j hj => h j (by omega)
    by_cases e : k = n
    · rw [e]; omega
    · have := sm_ge (f := f) (n := n) (k := k) (by omega) fun j hj => h j (by omega)
      have := h n (by omega)
      omega
theorem ord_prim {lim : Int} {l : List Pc} (hg : givE lim l = 0) (hE : allE lim l = 0) (nc mc : Nat) (cps : Nat → Nat) (hb : l.length ≤ big + 2) : Prim (lpP (ordP l (allL lim l) nc mc cps hb)) (fun _ => 1000000) 1 := by
  obtain ⟨ho, h1, h2, h3⟩ := givE_0 hg
  refine ⟨by decide, fun _ _ => by decide, fun t ht => ?_⟩
  have ht : t < l.length := ht
  have hat := order_at ho ht
  obtain ⟨k, hk, hk1⟩ := line_in hg hE ht
  show (ix l t).cnt * 1 ≤ sm (allL lim l).length fun j => ix (ix (allL lim l) j) t * 1000000
  have := sm_ge (f := fun j => ix (ix (allL lim l) j) t * 1000000) hk fun j hj => by
    have := ((all_at hg hE hj).2 t ht).1
    show 0 ≤ ix (ix (allL lim l) j) t * 1000000
    omega
  have h5 : ix (ix (allL lim l) k) t * 1000000 ≤ sm (allL lim l).length fun j => ix (ix (allL lim l) j) t * 1000000 := this
  omega
theorem ord_dual {lim : Int} {l : List Pc} (nc mc : Nat) (cps : Nat → Nat) (hb : l.length ≤ big + 2) (d : Int) (hd : 0 < d) : Dual (lpP (ordP l (allL lim l) nc mc cps hb)) (fun j => (lpP (ordP l (allL lim l) nc mc cps hb)).c j * d) (fun _ => 0) := by
  refine ⟨fun j _ => ?_, fun t _ => ?_⟩
  · rw [sm_zero fun _ _ => Int.mul_zero _]
    show 0 ≤ 1 * d
    omega
  · exact Int.le_refl _
end Go.Proofs.YtdeaaonppokgkaaGreat.Pat
