/- PatternEach: plain facts. -/
import Derived.Test.YthnpnoclhmneoaaY
set_option maxRecDepth 100000
set_option linter.unusedSimpArgs false
set_option linter.unusedVariables false
namespace Go.Proofs.Ythnpnoclhmneoaa
open Go.RowKit
def descL (E : List (List Int)) : Prop := E.Pairwise fun a b => cmpL b a = -1
theorem desc_downG {g : Int → List (List Int)} {f : Int → List (List Int)} (hg : ∀ n, g n = (f n).map (n :: ·)) : ∀ {m : Nat}, (∀ n : Nat, n ≤ m → descL (f n)) → descL (downG g (fun _ => false) m) ∧ ∀ b ∈ downG g (fun _ => false) m, ∃ n : Nat, n ≤ m ∧ ∃ s, b = (n : Int) :: s
  | m, h => by
    have one : ∀ n : Nat, n ≤ m → descL (g n) ∧ ∀ b ∈ g n, ∃ s, b = (n : Int) :: s := fun n hn => by
      rw [hg]
      refine ⟨List.Pairwise.map _ (fun a b hab => ?_) (h n hn), fun b hb => ?_⟩
      · simpa [cmpL] using hab
      · obtain ⟨s, _, rfl⟩ := List.mem_map.1 hb
        exact ⟨s, rfl⟩
    cases m with
    | zero =>
      simp only [downG, Bool.false_eq_true, if_false]
      obtain ⟨q1, q2⟩ := one 0 (Nat.le_refl _)
      exact ⟨q1, fun b hb => by obtain ⟨s, rfl⟩ := q2 b hb; exact ⟨0, Nat.le_refl _, s, rfl⟩⟩
    | succ m =>
      obtain ⟨i1, i2⟩ := desc_downG hg (m := m) fun n hn => h n (by omega)
      obtain ⟨q1, q2⟩ := one (m + 1) (Nat.le_refl _)
      simp only [downG, Bool.false_eq_true, if_false]
      rw [show ((m + 1 : Nat) : Int) = (m : Int) + 1 by omega] at q1 q2
      refine ⟨List.pairwise_append.2 ⟨q1, i1, fun a ha b hb => ?_⟩, fun b hb => ?_⟩
      · obtain ⟨s, rfl⟩ := q2 a ha
        obtain ⟨n, hn, s', rfl⟩ := i2 b hb
        simp only [cmpL]
        rw [if_pos (by omega)]
      · rcases List.mem_append.1 hb with hb | hb
        · obtain ⟨s, rfl⟩ := q2 b hb
          exact ⟨m + 1, Nat.le_refl _, s, by simp⟩
        · obtain ⟨n, hn, s, rfl⟩ := i2 b hb
          exact ⟨n, by omega, s, rfl⟩
theorem each_desc : ∀ {l : List Pc} {left : Int}, descL (eachG l left)
  | [], left => by simp [eachG, descL]
  | p :: l, left => by
    rw [eachG]
    exact (desc_downG (f := fun n => eachG l (left - n * p.len)) (fun n => rfl) fun n _ => each_desc).1
theorem desc_ix {E : List (List Int)} (h : descL E) {i j : Nat} (hij : i < j) (hj : j < E.length) : cmpL (ix E j) (ix E i) = -1 := by
  rw [ix_eq hj, ix_eq (by omega)]
  exact List.pairwise_iff_getElem.1 h i j _ _ hij
/-- One more of a kind. -/
theorem cov_refl : ∀ (p : List Int), covB p p = true
  | [] => rfl
  | n :: p => by simp [covB, cov_refl p]
theorem cov_trans : ∀ {a b c : List Int}, a.length = b.length → b.length = c.length → covB a b = true → covB b c = true → covB a c = true
  | [], _, _, _, _, _, _ => by simp [covB]
  | _ :: _, [], _, h, _, _, _ => by simp at h
  | _ :: _, _ :: _, [], _, h, _, _ => by simp at h
  | x :: a, y :: b, z :: c, h, h', h1, h2 => by
    simp only [covB, Bool.and_eq_true, decide_eq_true_eq] at h1 h2 ⊢
    exact ⟨by omega, cov_trans (by simpa using h) (by simpa using h') h1.2 h2.2⟩
theorem room : ∀ {l : List Pc} {q : List Int} {r : Int}, PosL l → q.length = l.length → inB l q = true → fullB r l q = false → ∃ q', q'.length = l.length ∧ inB l q' = true ∧ sumL l q < sumL l q' ∧ sumL l q' ≤ sumL l q + r ∧ covB q' q = true
  | [], [], r, _, _, _, h => by simp [fullB] at h
  | [], _ :: _, _, _, h, _, _ => by simp at h
  | _ :: _, [], _, _, h, _, _ => by simp at h
  | p :: l, n :: q, r, hp, hl, hi, h => by
    have hpp := hp.head
    simp only [inB, Bool.and_eq_true, decide_eq_true_eq] at hi
    simp only [fullB, Bool.and_eq_false_iff] at h
    rcases h with h | h
    · have h' : n < p.cnt ∧ p.len ≤ r := by simpa using h
      refine ⟨(n + 1) :: q, by simpa using hl, ?_, ?_, ?_, ?_⟩
      · simp only [inB, Bool.and_eq_true, decide_eq_true_eq]; exact ⟨by omega, hi.2⟩
      · simp only [sumL]; rw [Int.mul_add]; omega
      · simp only [sumL]; rw [Int.mul_add]; omega
      · simp [covB, cov_refl]; omega
    · obtain ⟨q', a1, a2, a3, a4, a5⟩ := room hp.tail (by simpa using hl) hi.2 h
      refine ⟨n :: q', by simp [a1], ?_, ?_, ?_, ?_⟩
      · simp only [inB, a2, Bool.and_true, Bool.and_eq_true, decide_eq_true_eq]; exact hi.1
      · simp only [sumL]; omega
      · simp only [sumL]; omega
      · simp [covB, a5]
theorem mem_maxE {length : Int} {l : List Pc} {q : List Int} (hp : PosL l) (h0 : 0 ≤ length) : q ∈ maxE length l ↔ Fit length l q ∧ fullB (length - sumL l q) l q = true := by
  rw [maxE, List.mem_filter, mem_eachG hp h0]
theorem covered {length : Int} {l : List Pc} (hp : PosL l) (h0 : 0 ≤ length) : ∀ (m : Nat) {q : List Int}, (length - sumL l q).toNat ≤ m → Fit length l q → ∃ x ∈ maxE length l, covB x q = true
  | 0, q, hm, hq => by
    refine ⟨q, (mem_maxE hp h0).2 ⟨hq, ?_⟩, cov_refl q⟩
    cases hf : fullB (length - sumL l q) l q with
    | true => rfl
    | false =>
      obtain ⟨q', a1, a2, a3, a4, a5⟩ := room hp hq.1 hq.2.1 hf
      have := hq.2.2
      omega
  | m + 1, q, hm, hq => by
    cases hf : fullB (length - sumL l q) l q with
    | true => exact ⟨q, (mem_maxE hp h0).2 ⟨hq, hf⟩, cov_refl q⟩
    | false =>
      obtain ⟨q', a1, a2, a3, a4, a5⟩ := room hp hq.1 hq.2.1 hf
      have := hq.2.2
      obtain ⟨x, hx, hc⟩ := covered hp h0 m (q := q') (by omega) ⟨a1, a2, by omega⟩
      have hxl := ((mem_maxE hp h0).1 hx).1.1
      exact ⟨x, hx, cov_trans (by omega) (by have := hq.1; omega) hc a5⟩
theorem maxE_ne {length : Int} {l : List Pc} (hp : PosL l) (h0 : 0 ≤ length) : 0 < (maxE length l).length := by
  obtain ⟨r, hr⟩ := eachG_head (l := l) (left := length) hp h0
  have h1 : fillL length l ∈ eachG l length := by rw [hr]; exact List.mem_cons_self ..
  obtain ⟨x, hx, _⟩ := covered hp h0 _ (Nat.le_refl _) ((mem_eachG hp h0).1 h1)
  exact List.length_pos_of_mem hx
end Go.Proofs.Ythnpnoclhmneoaa
