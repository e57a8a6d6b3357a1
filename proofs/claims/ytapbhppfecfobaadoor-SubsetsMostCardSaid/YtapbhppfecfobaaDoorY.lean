/- Plain: right partitions, place by place. -/
import Derived.Test.YtapbhppfecfobaaDoorU
set_option maxRecDepth 100000
set_option linter.unusedSimpArgs false
set_option linter.unusedVariables false
namespace Go.Proofs.YtapbhppfecfobaaDoor
open Go.RowKit
def sumP (l p : List Int) : Int := (p.map fun x => ix l x.toNat).sum
/-- What comes before a place of the parts. -/
def Pre (parts : List (List Int)) (i k : Nat) : List Int := (parts.take i).flatten ++ (ix parts i).take k
theorem pre_0 (parts : List (List Int)) : Pre parts 0 0 = [] := by simp [Pre]
theorem pre_succ {parts : List (List Int)} {i k : Nat} (hk : k < (ix parts i).length) : Pre parts i (k + 1) = Pre parts i k ++ [ix (ix parts i) k] := by
  unfold Pre
  rw [List.append_assoc, List.take_succ_eq_append_getElem hk, ix_eq hk]
theorem pre_next {parts : List (List Int)} {i : Nat} (hi : i < parts.length) : Pre parts (i + 1) 0 = Pre parts i (ix parts i).length := by
  unfold Pre
  rw [List.take_zero, List.append_nil, List.take_length, List.take_succ_eq_append_getElem hi, List.flatten_append, ix_eq hi]
  simp
theorem pre_end (parts : List (List Int)) : Pre parts parts.length 0 = parts.flatten := by simp [Pre]
theorem pre_split {parts : List (List Int)} {i k : Nat} (hi : i < parts.length) (hk : k < (ix parts i).length) :
    parts.flatten = Pre parts i k ++ (ix (ix parts i) k :: ((ix parts i).drop (k + 1) ++ (parts.drop (i + 1)).flatten)) := by
  have e1 : parts.flatten = (parts.take i).flatten ++ (ix parts i ++ (parts.drop (i + 1)).flatten) := by
    conv => lhs; rw [← List.take_append_drop i parts]
    rw [List.flatten_append, List.drop_eq_getElem_cons hi, List.flatten_cons, ix_eq hi]
  have e2 : ix parts i = (ix parts i).take k ++ (ix (ix parts i) k :: (ix parts i).drop (k + 1)) := by
    conv => lhs; rw [← List.take_append_drop k (ix parts i)]
    rw [List.drop_eq_getElem_cons hk, ix_eq hk]
  rw [e1]
  conv => lhs; rw [e2]
  unfold Pre
  simp
/-- All that was looked at, before a place, is right. -/
structure OkC (l : List Int) (parts : List (List Int)) (i k : Nat) : Prop where
  rng : ∀ x ∈ Pre parts i k, 0 ≤ x ∧ x < l.length
  nd : (Pre parts i k).Nodup
  asc : ∀ a b, 0 < b → b < (ix parts a).length → (a < i ∨ (a = i ∧ b < k)) → ix (ix parts a) (b - 1) < ix (ix parts a) b
  part : ∀ a, a < i → ix parts a ≠ [] ∧ sumP l (ix parts a) = 0
  head : ∀ a, 0 < a → a < i → ix (ix parts (a - 1)) 0 < ix (ix parts a) 0
theorem okC_0 (l : List Int) (parts : List (List Int)) : OkC l parts 0 0 :=
  ⟨fun x h => by rw [pre_0] at h; simp at h, by rw [pre_0]; simp, fun a b _ _ h => by omega, fun a h => by omega, fun a _ h => by omega⟩
theorem okC_step {l : List Int} {parts : List (List Int)} {i k : Nat} (h : OkC l parts i k) (hk : k < (ix parts i).length) (h1 : 0 ≤ ix (ix parts i) k ∧ ix (ix parts i) k < l.length)
    (h2 : ix (ix parts i) k ∉ Pre parts i k) (h3 : 0 < k → ix (ix parts i) (k - 1) < ix (ix parts i) k) : OkC l parts i (k + 1) := by
  have hp := pre_succ hk
  refine ⟨fun x hx => ?_, ?_, fun a b h0 hb hab => ?_, h.part, h.head⟩
  · rw [hp] at hx
    rcases List.mem_append.1 hx with e | e
    · exact h.rng x e
    · obtain rfl : x = ix (ix parts i) k := by simpa using e
      exact h1
  · rw [hp]
    refine List.nodup_append.2 ⟨h.nd, by simp, fun a ha b hb => ?_⟩
    obtain rfl : b = ix (ix parts i) k := by simpa using hb
    exact fun e => h2 (e ▸ ha)
  · by_cases e : a = i ∧ b = k
    · obtain ⟨rfl, rfl⟩ := e
      exact h3 h0
    · exact h.asc a b h0 hb (by omega)
theorem okC_next {l : List Int} {parts : List (List Int)} {i : Nat} (hi : i < parts.length) (h : OkC l parts i (ix parts i).length) (h1 : ix parts i ≠ []) (h2 : sumP l (ix parts i) = 0)
    (h3 : 0 < i → ix (ix parts (i - 1)) 0 < ix (ix parts i) 0) : OkC l parts (i + 1) 0 := by
  have hp := pre_next hi
  refine ⟨by rw [hp]; exact h.rng, by rw [hp]; exact h.nd, fun a b h0 hb hab => h.asc a b h0 hb ?_, fun a ha => ?_, fun a h0 ha => ?_⟩
  · rcases Nat.lt_trichotomy a i with e | e | e
    · exact .inl e
    · subst e; exact .inr ⟨rfl, hb⟩
    · omega
  · rcases Nat.lt_or_eq_of_le (Nat.le_of_lt_succ ha) with e | e
    · exact h.part a e
    · subst e; exact ⟨h1, h2⟩
  · rcases Nat.lt_or_eq_of_le (Nat.le_of_lt_succ ha) with e | e
    · exact h.head a h0 e
    · subst e; exact h3 h0
theorem okC_at {l : List Int} {parts : List (List Int)} (h : OkC l parts parts.length 0) {i k : Nat} (hi : i < parts.length) (hk : k < (ix parts i).length) :
    (0 ≤ ix (ix parts i) k ∧ ix (ix parts i) k < l.length) ∧ ix (ix parts i) k ∉ Pre parts i k ∧ (0 < k → ix (ix parts i) (k - 1) < ix (ix parts i) k) := by
  have hs := pre_split hi hk
  have hn := h.nd
  have hr := h.rng
  rw [pre_end, hs] at hn hr
  refine ⟨hr _ (by simp), fun hm => ?_, fun h0 => h.asc i k h0 hk (.inl hi)⟩
  have := (List.nodup_append.1 hn).2.2 _ hm (ix (ix parts i) k) (by simp)
  exact this rfl
def chkB (l : List Int) (parts : List (List Int)) : Prop := OkC l parts parts.length 0 ∧ parts.flatten.length = l.length
theorem cnt_more (p : Nat → Bool) (x : Nat) : ∀ (R : List Nat), R.Nodup → x ∈ R → p x = false → (R.filter fun i => p i || decide (x = i)).length = (R.filter p).length + 1
  | [], _, h, _ => by simp at h
  | r :: R, hn, h, hp => by
    have hn' := List.nodup_cons.1 hn
    by_cases e : x = r
    · subst e
      have e2 : (R.filter fun i => p i || decide (x = i)) = R.filter p := List.filter_congr fun i hi => by
        have : x ≠ i := fun e => hn'.1 (e ▸ hi)
        simp [this]
      simp [List.filter_cons, hp, e2]
    · have ih := cnt_more p x R hn'.2 ((List.mem_cons.1 h).resolve_left e) hp
      cases hr : p r with
      | true => simp [List.filter_cons, hr, ih]
      | false => simp [List.filter_cons, hr, e, ih]
theorem bits_or {s x : Nat} (hx : x < 32) (h : s.testBit x = false) : (bitsL (s ||| 2 ^ x)).length = (bitsL s).length + 1 := by
  unfold bitsL
  have e : (List.range 32).filter (fun i => (s ||| 2 ^ x).testBit i) = (List.range 32).filter fun i => s.testBit i || decide (x = i) :=
    List.filter_congr fun i _ => by rw [Nat.testBit_or, Nat.testBit_two_pow]
  rw [e]
  exact cnt_more _ x _ List.nodup_range (by simpa using hx) h
theorem sumP_succ {l p : List Int} {k : Nat} (hk : k < p.length) : sumP l (p.take (k + 1)) = sumP l (p.take k) + ix l (ix p k).toNat := by
  unfold sumP
  rw [List.take_succ_eq_append_getElem hk, List.map_append, List.sum_append, ix_eq hk]
  simp
theorem sumP_range {l : List Int} (hx : ∀ x ∈ l, -1125899906842624 ≤ x ∧ x ≤ 1125899906842624) (p : List Int) : -(1125899906842624 * (p.length : Int)) ≤ sumP l p ∧ sumP l p ≤ 1125899906842624 * (p.length : Int) := by
  induction p with
  | nil => simp [sumP]
  | cons x p ih =>
    have h := ix_range hx x.toNat
    have e : sumP l (x :: p) = ix l x.toNat + sumP l p := by simp [sumP]
    rw [e, List.length_cons]
    push_cast
    omega
end Go.Proofs.YtapbhppfecfobaaDoor
