/- StepsShort: plain facts on one more at one place. -/
import Derived.Test.YtekokeiajgcfkaaTD
import Derived.Test.YtekokeiajgcfkaaT
import Derived.Test.YtekokeiajgcfkaaP
set_option maxRecDepth 100000
set_option linter.unusedSimpArgs false
set_option linter.unusedVariables false
namespace Go.Proofs.Ytekokeiajgcfkaa
theorem can_first {n : Int} {s : List Stp} (h : CanS n s) (h0 : 0 < s.length) : (ix s 0).v ≠ n := by
  cases s with
  | nil => simp at h0
  | cons p l => exact h.1
theorem can_next : ∀ {s : List Stp} {n : Int} {k : Nat}, CanS n s → 0 < k → k < s.length → (ix s k).v ≠ (ix s (k - 1)).v
  | [], _, k, _, _, h => by simp at h
  | p :: l, n, k + 1, hc, _, h => by
    have hl : k < l.length := by simpa using h
    rw [Nat.add_sub_cancel, show ix (p :: l) (k + 1) = ix l k from rfl]
    cases k with
    | zero => exact can_first hc.2 hl
    | succ m =>
      rw [show ix (p :: l) (m + 1) = ix l m from rfl]
      exact can_next hc.2 (Nat.succ_pos m) hl
theorem valid_mem {l : List Stp} (hv : validB l = true) : ∀ q ∈ l, placeB q.x = true ∧ 0 ≤ q.v ∧ q.v ≤ 1099511627776 := fun q hq => by
  obtain ⟨k, hk, rfl⟩ := List.mem_iff_getElem.1 hq
  have := (valid_yes.1 hv).2 k hk
  unfold okAt at this
  rw [ix_eq hk] at this
  simp only [Bool.and_eq_true, decide_eq_true_eq] at this
  exact ⟨this.1, this.2.1, this.2.2.1⟩
theorem valid_ascS {l : List Stp} (hv : validB l = true) : AscS l := by
  have step : ∀ k, 0 < k → k < l.length → (ix l (k - 1)).x < (ix l k).x := fun k h0 hk => by
    have := (valid_yes.1 hv).2 k hk
    unfold okAt at this
    simp only [Bool.and_eq_true, Bool.or_eq_true, decide_eq_true_eq] at this
    rcases this.2.2.2 with e | e
    · omega
    · exact e
  intro j k hjk
  induction k with
  | zero => omega
  | succ k ih =>
    intro hk
    have h1 := step (k + 1) (by omega) hk
    rw [Nat.add_sub_cancel] at h1
    rcases Nat.lt_or_eq_of_le (Nat.le_of_lt_succ hjk) with h | h
    · have := ih h (by omega); omega
    · subst h; exact h1
theorem valid_mk {l : List Stp} (h0 : l.length ≤ 200) (ha : AscP l) (hm : ∀ q ∈ l, placeB q.x = true ∧ 0 ≤ q.v ∧ q.v ≤ 1099511627776) : validB l = true := valid_all h0 fun k hk => by
  have h1 := hm l[k] (List.getElem_mem hk)
  rw [← ix_eq hk] at h1
  unfold okAt
  simp only [Bool.and_eq_true, Bool.or_eq_true, decide_eq_true_eq]
  refine ⟨h1.1, h1.2.1, h1.2.2, ?_⟩
  rcases Nat.eq_zero_or_pos k with e | e
  · exact .inl e
  · exact .inr (ascS_of ha (k - 1) k (by omega) hk)
theorem short_valid {l : List Stp} (hv : validB l = true) : validB (shortL 0 l) = true :=
  valid_mk (by have := shortL_len l 0; have := (valid_yes.1 hv).1; omega) (short_asc (ascP_of (valid_ascS hv))) fun q hq => valid_mem hv q (short_mem hq)
def oneSt (x : Int) : List Stp := [⟨x, 1⟩, ⟨x + 1, 0⟩]
theorem pul_one {x : Int} (h0 : -1048576 ≤ x) (h1 : x < 1048576) : pulR x (x + 1) 1 = oneSt x ∧ pulE x (x + 1) 1 = 0 := by
  have ok : pulB x (x + 1) 1 = true := by
    simp [pulB, placeB]
    omega
  refine ⟨?_, by rw [pulE, if_pos ok]⟩
  rw [pulR, if_pos ok]
  rfl
theorem one_valid {x : Int} (h0 : -1048576 ≤ x) (h1 : x < 1048576) : validB (oneSt x) = true := by
  refine valid_mk (by simp [oneSt]) ⟨fun q hq => ?_, ⟨fun q hq => by simp at hq, trivial⟩⟩ fun q hq => ?_
  · simp at hq
    subst hq
    simp only
    omega
  · simp only [oneSt, List.mem_cons, List.not_mem_nil, or_false] at hq
    rcases hq with rfl | rfl
    · simp [placeB]; omega
    · simp [placeB]; omega
theorem one_join {l : List Stp} {x : Int} (h0 : -1048576 ≤ x) (h1 : x < 1048576) (hv : validB l = true) :
    joinE addF l (oneSt x) = 5 ∨ joinE addF l (oneSt x) = 4 ∨ (joinE addF l (oneSt x) = 0 ∧ ¬ shortL 0 l = joinR addF l (oneSt x)) := by
  have ho := one_valid h0 h1
  rw [joinE, hv, ho]
  rw [if_neg (by decide)]
  by_cases h : (joinL addF l (oneSt x)).any bigB = true
  · rw [if_pos h]; exact .inl rfl
  · rw [if_neg h]
    by_cases h2 : 200 < (joinL addF l (oneSt x)).length
    · rw [if_pos h2]; exact .inr (.inl rfl)
    · rw [if_neg h2]
      refine .inr (.inr ⟨rfl, fun e => ?_⟩)
      have hj : joinR addF l (oneSt x) = joinL addF l (oneSt x) := joinR_ok (by rw [joinE, hv, ho, if_neg (by decide), if_neg h, if_neg h2])
      rw [hj] at e
      have a1 := at_short (x := x) (n := 0) (ascI_of_valid hv)
      rw [e, show atF x 0 (joinL addF l (oneSt x)) = atL (joinL addF l (oneSt x)) x from rfl, show atF x 0 l = atL l x from rfl, at_join (ascI_of_valid hv) (ascI_of_valid ho) rfl] at a1
      have : atL (oneSt x) x = 1 := by simp [oneSt, atL, atF]; omega
      rw [this] at a1
      unfold addF at a1
      omega
/-- The list with the step put in, where none stands there. -/
theorem putStep_ok {l : List Stp} {x : Int} {k : Nat} (h0 : -1048576 ≤ x) (h1 : x < 1048576) (hv : validB l = true) (hn : l.length ≤ 199) (hk : k ≤ l.length) (hb : ∀ j, j < k → (ix l j).x < x) (ha : k < l.length → x < (ix l k).x) :
    ∃ m, l.take k ++ ⟨x, atL l x⟩ :: l.drop k = m ∧ m.length = l.length + 1 ∧ validB m = true ∧ shortL 0 m = shortL 0 l := by
  have hasc := ascI_of_valid hv
  have hx : ∀ q ∈ l, q.x ≠ x := fun q hq => by
    obtain ⟨j, hj, rfl⟩ := List.mem_iff_getElem.1 hq
    rw [← ix_eq hj]
    rcases Nat.lt_or_ge j k with h | h
    · have := hb j h; omega
    · have h3 := ha (by omega)
      rcases Nat.lt_or_eq_of_le h with h4 | h4
      · have := ascS_of hasc k j h4 hj; omega
      · subst h4; omega
  refine ⟨putL x (atL l x) l, put_take hk hb (fun h => by have := ha h; omega), put_len, ?_, short_put hasc hx⟩
  refine valid_mk (by rw [put_len]; omega) (put_asc hasc hx) fun q hq => ?_
  rcases put_mem hq with rfl | hq
  · have := at_range hv x
    refine ⟨?_, this.1, this.2⟩
    simp [placeB]
    omega
  · have := mem_ok hv hq
    refine ⟨?_, this.2.2.1, this.2.2.2⟩
    simp [placeB]
    omega
end Go.Proofs.Ytekokeiajgcfkaa
