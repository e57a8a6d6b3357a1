/- Contracts of the patterns' laws that are left, and plain facts. -/
import Derived.Test.YtdeaaonppokgkaaH9
set_option maxRecDepth 100000
set_option linter.unusedSimpArgs false
set_option linter.unusedVariables false
-- 
namespace Go.Proofs.Ytdeaaonppokgkaa.Pat
open Go.RowKit
def lensF (l : List Pc) : List Int := l.map Pc.len
theorem lensF_len (l : List Pc) : (lensF l).length = l.length := by simp [lensF]
theorem lensF_ix {l : List Pc} {k : Nat} (h : k < l.length) : ix (lensF l) k = (ix l k).len := by
  rw [ix_eq (by simpa [lensF] using h), ix_eq h]
  simp [lensF]
/-- The answer of Fullest. -/
def fullW (length : Int) (l : List Pc) : Int := if bestE length l (lensF l) = 0 then length - (bestS length l (lensF l)).2 else 0
end Go.Proofs.Ytdeaaonppokgkaa.Pat
namespace Go.Proofs.Ytdeaaonppokgkaa.Pat
open Go.RowKit
/-- Rows of ints that are only read, by a list of lists. -/
def rLL (P : List (List Int)) : Ob := ⟨3, true, .row 1 P.length (fun i => (ix P i).length) (fun _ => 0) (fun i k => [.v (.int .i64 (ix (ix P i) k))])⟩
attribute [push_cast] rLL
theorem list_eq_ix : ∀ {l m : List Int}, l.length = m.length → (∀ k, k < l.length → ix l k = ix m k) → l = m := fun {l m} hl h =>
  List.ext_getElem hl fun k h1 h2 => by rw [← ix_eq h1, ← ix_eq h2]; exact h k h1
end Go.Proofs.Ytdeaaonppokgkaa.Pat
namespace Go.Proofs.Ytdeaaonppokgkaa.Pat
open Go.RowKit
/-- A list of rows, by the number of the rows' object. -/
def rOut (j : Nat) (P : List (List Int)) (caps : Nat → Nat) : Ob := ⟨23, true, .row 1 1 (fun _ => P.length) (fun _ => 0) (fun _ k => [.s j k 0 (ix P k).length (caps k) 1])⟩
attribute [push_cast] rOut
theorem lists_eq_ix : ∀ {l m : List (List Int)}, l.length = m.length → (∀ k, k < l.length → ix l k = ix m k) → l = m := fun {l m} hl h =>
  List.ext_getElem hl fun k h1 h2 => by rw [← ix_eq h1, ← ix_eq h2]; exact h k h1
end Go.Proofs.Ytdeaaonppokgkaa.Pat
namespace Go.Proofs.Ytdeaaonppokgkaa.Pat
open Go.RowKit
def exL : List Pc := [⟨450, 2⟩, ⟨200, 5⟩]
end Go.Proofs.Ytdeaaonppokgkaa.Pat
namespace Go.Proofs.Ytdeaaonppokgkaa.Pat
open Go.RowKit
def onlyAt (nb bi : Nat) (s : List Int) : List (List Int) := (List.range nb).map fun i => if i = bi then s else []
@[push_cast] theorem onlyAt_len (nb bi : Nat) (s : List Int) : (onlyAt nb bi s).length = nb := by simp [onlyAt]
theorem onlyAt_ix {nb i : Nat} (h : i < nb) {bi : Nat} {s : List Int} : ix (onlyAt nb bi s) i = if i = bi then s else [] := by
  rw [ix_eq (by rw [onlyAt_len]; exact h)]; simp [onlyAt]
theorem ex1 : allE 1000 exL = 0 ∧ allL 1000 exL = [[2, 0], [1, 2], [0, 5]] := by decide +kernel
theorem ex2 : bestE 1000 exL (lensF exL) = 0 ∧ bestS 1000 exL (lensF exL) = ([0, 5], 1000) ∧ fullW 1000 exL = 0 := by decide +kernel
theorem ex3 : bestE 1000 exL [10, 4] = 0 ∧ bestS 1000 exL [10, 4] = ([2, 0], 20) := by decide +kernel
end Go.Proofs.Ytdeaaonppokgkaa.Pat
namespace Go.Proofs.Ytdeaaonppokgkaa.Pat
open Go.RowKit
theorem order_pos {l : List Pc} (h : orderB l = true) : ∀ p ∈ l, 1 ≤ p.len ∧ p.len ≤ 1048576 ∧ 1 ≤ p.cnt ∧ p.cnt ≤ 1000000 := fun p hp => by
  obtain ⟨k, hk, rfl⟩ := List.getElem_of_mem hp
  rw [← ix_eq hk]
  exact order_at h hk
theorem sumL_nonneg : ∀ {l : List Pc} {ns : List Int}, (∀ p ∈ l, 1 ≤ p.len) → inB l ns = true → 0 ≤ sumL l ns
  | [], _, _, _ => by simp [sumL]
  | _ :: _, [], _, _ => by simp [sumL]
  | p :: l, n :: ns, h, hi => by
    simp only [inB, Bool.and_eq_true, decide_eq_true_eq] at hi
    have h1 := h p (List.mem_cons_self ..)
    have h2 := sumL_nonneg (fun q hq => h q (List.mem_cons_of_mem _ hq)) hi.2
    have := Int.mul_nonneg (show 0 ≤ p.len by omega) hi.1.1
    simp only [sumL]
    omega
theorem leftO_fits : ∀ {l : List Pc} {ns : List Int} {length : Int}, (∀ p ∈ l, 1 ≤ p.len) → ns.length = l.length → 0 ≤ length → leftO length l ns = if inB l ns = true ∧ sumL l ns ≤ length then some (length - sumL l ns) else none
  | [], [], length, _, _, h0 => by simp [leftO, inB, sumL, h0]
  | [], _ :: _, _, _, h, _ => by simp at h
  | _ :: _, [], _, _, h, _ => by simp at h
  | p :: l, n :: ns, length, h, hl, h0 => by
    have h1 := h p (List.mem_cons_self ..)
    have hq : ∀ q ∈ l, 1 ≤ q.len := fun q hq => h q (List.mem_cons_of_mem _ hq)
    have hin : inB (p :: l) (n :: ns) = true ↔ (0 ≤ n ∧ n ≤ p.cnt) ∧ inB l ns = true := by simp [inB]
    have hsum : sumL (p :: l) (n :: ns) = p.len * n + sumL l ns := rfl
    rw [leftO, hsum]
    by_cases c1 : n < 0
    · rw [if_pos (Or.inl c1), if_neg (by rw [hin]; omega)]
    by_cases c2 : p.cnt < n
    · rw [if_pos (Or.inr (Or.inl c2)), if_neg (by rw [hin]; omega)]
    by_cases c3 : length / p.len < n
    · rw [if_pos (Or.inr (Or.inr c3)), if_neg]
      rw [hin]
      rintro ⟨⟨_, hi⟩, hs⟩
      have := sumL_nonneg hq hi
      have := (Int.ediv_lt_iff_lt_mul (by omega)).1 c3
      rw [Int.mul_comm] at this
      omega
    · rw [if_neg (by omega)]
      have c4 : n * p.len ≤ length := (Int.le_ediv_iff_mul_le (show 0 < p.len by omega)).1 (show n ≤ length / p.len by omega)
      rw [leftO_fits hq (by simpa using hl) (by omega), Int.mul_comm n p.len]
      rw [Int.mul_comm] at c4
      by_cases hc : inB l ns = true ∧ sumL l ns ≤ length - p.len * n
      · rw [if_pos hc, if_pos ⟨hin.2 ⟨by omega, hc.1⟩, by omega⟩]
        congr 1; omega
      · rw [if_neg hc, if_neg]
        rintro ⟨h1, h2⟩
        exact hc ⟨(hin.1 h1).2, by omega⟩
attribute [push_cast] validV wasteV maximalV
def trueK (r : SV) (_ : List Ob) : Prop := r = .v (.bool true)
end Go.Proofs.Ytdeaaonppokgkaa.Pat
