/- The search of exact loads: its objects, and what stays. -/
import Derived.Test.YtdinkpefoljigaaAI
import Derived.Test.YtdinkpefoljigaaAK
set_option maxRecDepth 100000
set_option linter.unusedSimpArgs false
set_option linter.unusedVariables false
namespace Go.Proofs.Ytdinkpefoljigaa
open Go.RowKit
theorem ix_app_lt {l : List Int} {q : Nat} {x : Int} (h : q < l.length) : ix (l ++ [x]) q = ix l q := ix_app_ne (by omega) _
/-- A family of loads. -/
def oFm (M : Nat) (fl fc : Nat → Nat) (ff : Nat → Nat → Int) : Ob := ⟨3, false, .row 1 M fl fc (fun p q => [.v (.int .i64 (ff p q))])⟩
/-- A list of loads that lie in a family. -/
def oLd (F d oc : Nat) (pi ln fc : Nat → Nat) : Ob := ⟨36, false, .row 1 1 (fun _ => d) (fun _ => oc) (fun _ k => [.s F (pi k) 0 (ln k) (fc (pi k)) 1])⟩
attribute [push_cast] oFm oLd
def lnF (L : List (List Int)) (k : Nat) : Nat := (ix L k).length
/-- A family, and where a list's loads lie in it. -/
structure VS where
  M : Nat
  fl : Nat → Nat
  fc : Nat → Nat
  ff : Nat → Nat → Int
  pi : Nat → Nat
structure VOk (L : List (List Int)) (s : VS) : Prop where
  lt : ∀ k, k < L.length → s.pi k < s.M
  len : ∀ k, k < L.length → (ix L k).length ≤ s.fl (s.pi k)
  val : ∀ k, k < L.length → ∀ q, q < (ix L k).length → s.ff (s.pi k) q = ix (ix L k) q
  inj : ∀ a b, a < L.length → b < L.length → s.pi a = s.pi b → a = b
  cap : ∀ k, k < L.length → (ix L k).length ≤ s.fc (s.pi k)
/-- What stays of a family while loads are tried. -/
structure Keep (d : Nat) (ln : Nat → Nat) (s t : VS) : Prop where
  le : s.M ≤ t.M
  pi : ∀ k, k < d → t.pi k = s.pi k ∨ s.M ≤ t.pi k
  cap : ∀ p, p < s.M → t.fc p = s.fc p
  cur : ∀ k, k < d → s.pi k < s.M → ln k ≤ t.fl (s.pi k) ∧ ∀ q, q < ln k → t.ff (s.pi k) q = s.ff (s.pi k) q
  oth : ∀ p, p < s.M → (∀ k, k < d → s.pi k ≠ p) → s.fl p ≤ t.fl p ∧ ∀ q, q < s.fl p → t.ff p q = s.ff p q
theorem Keep.refl {d : Nat} {ln : Nat → Nat} {s : VS} (h : ∀ k, k < d → ln k ≤ s.fl (s.pi k)) : Keep d ln s s :=
  ⟨Nat.le_refl _, fun _ _ => .inl rfl, fun _ _ => rfl, fun k hk _ => ⟨h k hk, fun _ _ => rfl⟩, fun _ _ _ => ⟨Nat.le_refl _, fun _ _ => rfl⟩⟩
theorem Keep.trans {d : Nat} {ln ln' : Nat → Nat} {s t u : VS} (h : Keep d ln s t) (h' : Keep d ln' t u) (hl : ∀ k, k < d → ln k ≤ ln' k) (hlt : ∀ k, k < d → s.pi k < s.M) (hi : ∀ a b, a < d → b < d → s.pi a = s.pi b → a = b) : Keep d ln s u := by
  have back : ∀ k p, k < d → p < s.M → t.pi k = p → s.pi k = p := fun k p hk hp e => by
    rcases h.pi k hk with h1 | h1 <;> omega
  refine ⟨Nat.le_trans h.le h'.le, fun k hk => ?_, fun p hp => ?_, fun k hk hm => ?_, fun p hp hne => ?_⟩
  · rcases h'.pi k hk with h1 | h1
    · rcases h.pi k hk with h2 | h2
      · exact .inl (h1.trans h2)
      · right; omega
    · right; have := h.le; omega
  · rw [h'.cap p (Nat.lt_of_lt_of_le hp h.le), h.cap p hp]
  · obtain ⟨a1, a2⟩ := h.cur k hk hm
    by_cases hc : ∃ k', k' < d ∧ t.pi k' = s.pi k
    · obtain ⟨k', hk', e⟩ := hc
      have e2 := hi k' k hk' hk (back k' _ hk' hm e)
      subst e2
      obtain ⟨b1, b2⟩ := h'.cur k' hk' (by rw [e]; exact Nat.lt_of_lt_of_le hm h.le)
      rw [e] at b1 b2
      have := hl k' hk'
      exact ⟨by omega, fun q hq => (b2 q (by omega)).trans (a2 q hq)⟩
    · obtain ⟨b1, b2⟩ := h'.oth (s.pi k) (Nat.lt_of_lt_of_le hm h.le) fun k' hk' e => hc ⟨k', hk', e⟩
      exact ⟨by omega, fun q hq => (b2 q (by omega)).trans (a2 q hq)⟩
  · obtain ⟨a1, a2⟩ := h.oth p hp hne
    obtain ⟨b1, b2⟩ := h'.oth p (Nat.lt_of_lt_of_le hp h.le) fun k hk e => hne k hk (back k p hk hp e)
    exact ⟨by omega, fun q hq => (b2 q (by omega)).trans (a2 q hq)⟩
/-- A load gets a bundle. -/
theorem grow_keep {L : List (List Int)} {s : VS} {j : Nat} {i : Int} {M : Nat} {ln' cp' : Nat → Nat} {f' : Nat → Nat → List SV} {p : Nat} (h : VOk L s) (hj : j < L.length)
    (hg : GrowF s.M (ix L j).length 1 (s.pi j) s.fl s.fc (fun p q => [.v (.int .i64 (s.ff p q))]) (fun _ => [.v (.int .i64 i)]) M ln' cp' f' p) :
    ∃ t : VS, t.M = M ∧ t.fl = ln' ∧ t.fc = cp' ∧ t.pi j = p ∧ (∀ k, k ≠ j → t.pi k = s.pi k) ∧ (∀ a, a < M → ∀ q, q < ln' a → f' a q = [.v (.int .i64 (t.ff a q))]) ∧ VOk (L.set j (ix L j ++ [i])) t ∧ Keep L.length (lnF L) s t := by
  have hpj := h.lt j hj
  have hne : ∀ k, k < L.length → k ≠ j → s.pi k ≠ p := fun k hk hk2 e => by
    have := h.lt k hk
    rcases hg.pos with h1 | h1
    · exact hk2 (h.inj k j hk hj (by omega))
    · omega
  refine ⟨⟨M, ln', cp', fun a q => if a = p then (if q < (ix L j).length then s.ff (s.pi j) q else i) else s.ff a q, fun k => if k = j then p else s.pi k⟩, rfl, rfl, rfl, if_pos rfl, fun k hk => if_neg hk, fun a ha q hq => ?_, ⟨fun k hk => ?_, fun k hk => ?_, fun k hk q hq => ?_, fun a b ha hb e => ?_, fun k hk => ?_⟩, ⟨hg.hle, fun k hk => ?_, hg.caps, fun k hk hm => ?_, fun a ha hn => ?_⟩⟩
  · simp only
    by_cases e : a = p
    · subst e
      rw [if_pos rfl]
      rw [hg.hlen] at hq
      by_cases h2 : q < (ix L j).length
      · rw [if_pos h2, hg.old q h2]
      · rw [if_neg h2]
        obtain rfl : q = (ix L j).length := by omega
        exact hg.nws 0 (by omega)
    · rw [if_neg e]
      rcases hg.all a ha with h2 | h2
      · exact (hg.oth a h2 e).2 q
      · exact absurd h2 e
  · simp only
    have := hg.hle
    split
    · exact hg.hlt
    · have := h.lt k (by simpa using hk); omega
  · simp only
    by_cases e : k = j
    · subst e
      rw [if_pos rfl, ix_set_self hj, hg.hlen]; simp
    · have hk : k < L.length := by simpa using hk
      rw [if_neg e, ix_set_ne e, (hg.oth _ (h.lt k hk) (hne k hk e)).1]
      exact h.len k hk
  · simp only at hq ⊢
    by_cases e : k = j
    · subst e
      rw [ix_set_self hj] at hq ⊢
      rw [if_pos rfl, if_pos rfl]
      by_cases h2 : q < (ix L k).length
      · rw [if_pos h2, h.val k hj q h2, ix_app_lt h2]
      · rw [if_neg h2]
        obtain rfl : q = (ix L k).length := by simp at hq; omega
        exact (ix_app_last _ _).symm
    · have hk : k < L.length := by simpa using hk
      rw [ix_set_ne e] at hq ⊢
      rw [if_neg e, if_neg (hne k hk e)]
      exact h.val k hk q hq
  · simp only at e
    have ha : a < L.length := by simpa using ha
    have hb : b < L.length := by simpa using hb
    by_cases e1 : a = j <;> by_cases e2 : b = j
    · omega
    · rw [if_pos e1, if_neg e2] at e
      exact absurd e.symm (hne b hb e2)
    · rw [if_neg e1, if_pos e2] at e
      exact absurd e (hne a ha e1)
    · rw [if_neg e1, if_neg e2] at e
      exact h.inj a b ha hb e
  · simp only
    by_cases e : k = j
    · subst e
      rw [if_pos rfl, ix_set_self hj, List.length_append, List.length_cons, List.length_nil]
      exact hg.hcap
    · have hk : k < L.length := by simpa using hk
      rw [if_neg e, ix_set_ne e, hg.caps _ (h.lt k hk)]
      exact h.cap k hk
  · simp only
    split
    · rename_i e
      subst e
      rcases hg.pos with h1 | h1
      · exact .inl h1
      · exact .inr h1
    · exact .inl rfl
  · simp only [lnF]
    have hk1 := h.len k hk
    by_cases e : s.pi k = p
    · have hkj : k = j := by
        rcases hg.pos with h1 | h1
        · exact h.inj k j hk hj (by omega)
        · omega
      subst hkj
      refine ⟨by rw [e, hg.hlen]; omega, fun q hq => ?_⟩
      rw [if_pos e, if_pos hq]
    · refine ⟨by rw [(hg.oth _ hm e).1]; exact hk1, fun q hq => ?_⟩
      rw [if_neg e]
  · simp only
    have e : a ≠ p := fun e => by
      rcases hg.pos with h1 | h1
      · exact hn j hj (by omega)
      · omega
    refine ⟨by rw [(hg.oth a ha e).1]; exact Nat.le_refl _, fun q hq => ?_⟩
    rw [if_neg e]
/-- The last bundle of a load is taken away again. -/
theorem VOk.back {L : List (List Int)} {s : VS} {j : Nat} {i : Int} (h : VOk (L.set j (ix L j ++ [i])) s) (hj : j < L.length) : VOk L s := by
  have hl : (L.set j (ix L j ++ [i])).length = L.length := by simp
  have key : ∀ k, k < L.length → (ix L k).length ≤ (ix (L.set j (ix L j ++ [i])) k).length ∧ ∀ q, q < (ix L k).length → ix (ix (L.set j (ix L j ++ [i])) k) q = ix (ix L k) q := fun k hk => by
    by_cases e : k = j
    · subst e
      rw [ix_set_self hj]
      exact ⟨by simp, fun q hq => ix_app_lt hq⟩
    · rw [ix_set_ne e]
      exact ⟨Nat.le_refl _, fun _ _ => rfl⟩
  refine ⟨fun k hk => h.lt k (by omega), fun k hk => Nat.le_trans (key k hk).1 (h.len k (by omega)), fun k hk q hq => ?_, fun a b ha hb => h.inj a b (by omega) (by omega), fun k hk => Nat.le_trans (key k hk).1 (h.cap k (by omega))⟩
  rw [h.val k (by omega) q (Nat.lt_of_lt_of_le hq (key k hk).1), (key k hk).2 q hq]
theorem lnF_set {L : List (List Int)} {j : Nat} {i : Int} (hj : j < L.length) (k : Nat) : lnF L k ≤ lnF (L.set j (ix L j ++ [i])) k := by
  unfold lnF
  by_cases e : k = j
  · subst e; rw [ix_set_self hj]; simp
  · rw [ix_set_ne e]; exact Nat.le_refl _
/-- A load more, in a further member. -/
def addV (s : VS) (d : Nat) (i : Int) (c : Nat) : VS := ⟨s.M + 1, fun a => bif a == s.M then 1 else s.fl a, fun a => bif a == s.M then c else s.fc a, fun a q => bif a == s.M then i else s.ff a q, fun k => bif decide (k < d) then s.pi k else s.M⟩
theorem add_ok {L : List (List Int)} {s : VS} {i : Int} {c : Nat} (h : VOk L s) (hc : 1 ≤ c) : VOk (L ++ [[i]]) (addV s L.length i c) := by
  have hx : ∀ k, k < L.length → ix (L ++ [[i]]) k = ix L k := fun k hk => ix_app_ne (by omega) _
  have hl : ix (L ++ [[i]]) L.length = [i] := ix_app_last _ _
  have hb : ∀ k, k < L.length → (s.pi k == s.M) = false := fun k hk => by have := h.lt k hk; simp; omega
  have cases' : ∀ k, k < (L ++ [[i]]).length → k < L.length ∨ k = L.length := fun k hk => by simp at hk; omega
  have hd : decide (L.length < L.length) = false := by simp
  refine ⟨fun k hk => ?_, fun k hk => ?_, fun k hk q hq => ?_, fun a b ha hb' e => ?_, fun k hk => ?_⟩
  · rcases cases' k hk with h1 | rfl
    · have := h.lt k h1
      simp only [addV, h1, decide_true, cond_true]; omega
    · simp only [addV, hd, cond_false]; omega
  · rcases cases' k hk with h1 | rfl
    · rw [hx k h1]
      simp only [addV, h1, decide_true, cond_true, hb k h1, cond_false]
      exact h.len k h1
    · rw [hl]; simp [addV]
  · rcases cases' k hk with h1 | rfl
    · rw [hx k h1] at hq ⊢
      simp only [addV, h1, decide_true, cond_true, hb k h1, cond_false]
      exact h.val k h1 q hq
    · rw [hl] at hq ⊢
      obtain rfl : q = 0 := by simpa using hq
      simp [addV]; rfl
  · rcases cases' a ha with h1 | rfl <;> rcases cases' b hb' with h2 | rfl
    · simp only [addV, h1, h2, decide_true, cond_true] at e
      exact h.inj a b h1 h2 e
    · simp only [addV, h1, hd, decide_true, cond_true, cond_false] at e
      have := h.lt a h1; omega
    · simp only [addV, h2, hd, decide_true, cond_true, cond_false] at e
      have := h.lt b h2; omega
    · rfl
  · rcases cases' k hk with h1 | rfl
    · rw [hx k h1]
      simp only [addV, h1, decide_true, cond_true, hb k h1, cond_false]
      exact h.cap k h1
    · rw [hl]
      simp only [addV, hd, cond_false, beq_self_eq_true, cond_true]
      exact hc
/-- Behind the last try: what the caller's list still is. -/
theorem add_keep {L : List (List Int)} {s t : VS} {i : Int} {c : Nat} (h : VOk L s) (hk : Keep (L.length + 1) (lnF (L ++ [[i]])) (addV s L.length i c) t) : Keep L.length (lnF L) s { t with pi := s.pi } ∧ VOk L { t with pi := s.pi } := by
  have hM : (addV s L.length i c).M = s.M + 1 := rfl
  have hpi : ∀ k, k < L.length → (addV s L.length i c).pi k = s.pi k := fun k hk => by simp [addV, hk]
  have hfl : ∀ a, a < s.M → (addV s L.length i c).fl a = s.fl a ∧ (addV s L.length i c).fc a = s.fc a ∧ ∀ q, (addV s L.length i c).ff a q = s.ff a q := fun a ha => by
    have : (a == s.M) = false := by simp; omega
    simp [addV, this]
  have hln : ∀ k, k < L.length → lnF (L ++ [[i]]) k = lnF L k := fun k hk => by unfold lnF; rw [ix_app_ne (by omega)]
  have K : Keep L.length (lnF L) s { t with pi := s.pi } := by
    refine ⟨by have := hk.le; show s.M ≤ t.M; omega, fun k _ => .inl rfl, fun p hp => ?_, fun k hk' hm => ?_, fun p hp hne => ?_⟩
    · show t.fc p = _
      rw [hk.cap p (by omega), (hfl p hp).2.1]
    · obtain ⟨a1, a2⟩ := hk.cur k (by omega) (by rw [hpi k hk']; omega)
      rw [hpi k hk', hln k hk'] at a1 a2
      exact ⟨a1, fun q hq => (a2 q hq).trans ((hfl _ hm).2.2 q)⟩
    · obtain ⟨a1, a2⟩ := hk.oth p (by omega) fun k hk' e => by
        by_cases h1 : k < L.length
        · rw [hpi k h1] at e; exact hne k h1 e
        · obtain rfl : k = L.length := by omega
          have : (addV s L.length i c).pi L.length = s.M := by simp [addV]
          omega
      rw [(hfl p hp).1] at a1 a2
      exact ⟨a1, fun q hq => (a2 q hq).trans ((hfl p hp).2.2 q)⟩
  refine ⟨K, fun k hk' => ?_, fun k hk' => ?_, fun k hk' q hq => ?_, h.inj, fun k hk' => ?_⟩
  · have := h.lt k hk'; have := K.le
    show s.pi k < t.M
    have : s.M ≤ t.M := this
    omega
  · exact (K.cur k hk' (h.lt k hk')).1
  · exact ((K.cur k hk' (h.lt k hk')).2 q hq).trans (h.val k hk' q hq)
  · show _ ≤ t.fc (s.pi k)
    have hK := K.cap (s.pi k) (h.lt k hk')
    have hK : t.fc (s.pi k) = s.fc (s.pi k) := hK
    rw [hK]
    exact h.cap k hk'
/-- The best loads: in a family that grows. -/
def addB (s : VS) (d n c : Nat) (f : Nat → Int) : VS := ⟨s.M + 1, fun a => bif a == s.M then n else s.fl a, fun a => bif a == s.M then c else s.fc a, fun a q => bif a == s.M then f q else s.ff a q, fun k => bif decide (k < d) then s.pi k else s.M⟩
theorem addB_ok {L : List (List Int)} {s : VS} {y : List Int} {c : Nat} {f : Nat → Int} (h : VOk L s) (hc : y.length ≤ c) (hf : ∀ q, q < y.length → f q = ix y q) : VOk (L ++ [y]) (addB s L.length y.length c f) := by
  have hx : ∀ k, k < L.length → ix (L ++ [y]) k = ix L k := fun k hk => ix_app_ne (by omega) _
  have hl : ix (L ++ [y]) L.length = y := ix_app_last _ _
  have hb : ∀ k, k < L.length → (s.pi k == s.M) = false := fun k hk => by have := h.lt k hk; simp; omega
  have cases' : ∀ k, k < (L ++ [y]).length → k < L.length ∨ k = L.length := fun k hk => by simp at hk; omega
  have hd : decide (L.length < L.length) = false := by simp
  refine ⟨fun k hk => ?_, fun k hk => ?_, fun k hk q hq => ?_, fun a b ha hb' e => ?_, fun k hk => ?_⟩
  · rcases cases' k hk with h1 | rfl
    · have := h.lt k h1
      simp only [addB, h1, decide_true, cond_true]; omega
    · simp only [addB, hd, cond_false]; omega
  · rcases cases' k hk with h1 | rfl
    · rw [hx k h1]
      simp only [addB, h1, decide_true, cond_true, hb k h1, cond_false]
      exact h.len k h1
    · rw [hl]; simp [addB]
  · rcases cases' k hk with h1 | rfl
    · rw [hx k h1] at hq ⊢
      simp only [addB, h1, decide_true, cond_true, hb k h1, cond_false]
      exact h.val k h1 q hq
    · rw [hl] at hq ⊢
      simp only [addB, hd, cond_false, beq_self_eq_true, cond_true]
      exact hf q hq
  · rcases cases' a ha with h1 | rfl <;> rcases cases' b hb' with h2 | rfl
    · simp only [addB, h1, h2, decide_true, cond_true] at e
      exact h.inj a b h1 h2 e
    · simp only [addB, h1, hd, decide_true, cond_true, cond_false] at e
      have := h.lt a h1; omega
    · simp only [addB, h2, hd, decide_true, cond_true, cond_false] at e
      have := h.lt b h2; omega
    · rfl
  · rcases cases' k hk with h1 | rfl
    · rw [hx k h1]
      simp only [addB, h1, decide_true, cond_true, hb k h1, cond_false]
      exact h.cap k h1
    · rw [hl]
      simp only [addB, hd, cond_false, beq_self_eq_true, cond_true]
      exact hc
theorem cloneF_sp (M p n : Nat) (fl fc : Nat → Nat) (ff : Nat → Nat → Int) (hp : p < M) (h0 : 0 < n) (hn : n ≤ 2000) (hl : n ≤ fl p) : Sp Try.prog 21 [.s 0 p 0 n (fc p) 1] [oFm M fl fc ff] (fun r H => ∃ cap, n ≤ cap ∧ r = .s 1 0 0 n cap 1 ∧ H = [oFm M fl fc ff, rOwn 3 n cap (fun q => ff p q)]) := by
  refine sp_know (p := n ≤ fc p) Try.call21 (fun β w vals hI _ => ?_) fun hc => ?_
  · rcases hI.ob 0 _ rfl p hp with ⟨h1, _⟩ | ⟨_, _, _, _, _, h1, _⟩
    · have h1 : fl p = 0 := h1
      omega
    · have h1 : fl p ≤ fc p := h1
      omega
  refine sp_weak ?_
  refine sp_of_ex true [] mixed Try.call21 Try.func21 rfl Try.ntmps21 Try.results21 (by decide +kernel) rfl ?_
  simp only [push_cast, ↓branch_true, ↓branch_false, Nat.reduceBEq, Nat.reduceAdd, Nat.reduceMul, Nat.reduceSub, Int.reduceToNat, reduceCtorEq, branch_decide, branch_not, branch_beq, branch_bne]
  intro b hb
  rw [hb (by omega)]
  simp only [push_cast, ↓branch_true, ↓branch_false, Nat.reduceBEq, Nat.reduceAdd, Nat.reduceMul, Nat.reduceSub, Int.reduceToNat, reduceCtorEq, branch_decide, branch_not, branch_beq, branch_bne]
  repeat (with_reducible refine And.intro (by omega) ?_)
  refine ⟨?_, appZ_of (fun h => by omega) fun _ => .inl ⟨by omega, by omega, fun cap hcap => ?_⟩⟩
  · unfold srcOk
    split <;> simp [lenP, lenIs, ones, one1]
  · refine ⟨_, _, [0, 2], ?_, by kernel_rfl, ?_, cap, hcap, rfl, rfl⟩
    · simp only [push_cast, ↓branch_true, ↓branch_false, Nat.reduceBEq, Nat.reduceAdd, Nat.reduceMul, Nat.reduceSub, Int.reduceToNat, reduceCtorEq, branch_decide, branch_not, branch_beq, branch_bne]
    · simp only [push_cast, ↓branch_true, ↓branch_false, Nat.reduceBEq, Nat.reduceAdd, Nat.reduceMul, Nat.reduceSub, Int.reduceToNat, reduceCtorEq, branch_decide, branch_not, branch_beq, branch_bne]
theorem clipL_sp (d oc : Nat) (pi ln fc : Nat → Nat) (M : Nat) (fl : Nat → Nat) (ff : Nat → Nat → Int) : Sp Try.prog 61 [.s 0 0 0 d oc 1] [oLd 1 d oc pi ln fc, oFm M fl fc ff] (fun r H => r = .s 0 0 0 d d 1 ∧ H = [oLd 1 d oc pi ln fc, oFm M fl fc ff]) := by
  refine sp_know (p := d ≤ oc) Try.call61 (fun β w vals _ ha => ?_) fun hd => ?_
  · simp only [OkL, Ok] at ha
    obtain ⟨u, us, _, ⟨A, _, h, _⟩, _⟩ := ha
    exact h
  refine sp_weak ?_
  refine sp_of_ex true [] mixed Try.call61 Try.func61 rfl Try.ntmps61 Try.results61 (by decide +kernel) rfl ?_
  simp only [push_cast, ↓branch_true, ↓branch_false, Nat.reduceBEq, Nat.reduceAdd, Nat.reduceMul, Nat.reduceSub, Int.reduceToNat, reduceCtorEq, branch_decide, branch_not, branch_beq, branch_bne]
  repeat (with_reducible refine And.intro (by omega) ?_)
  simp only [Nat.sub_zero]
  refine ⟨_, _, [0, 1], ?_, by kernel_rfl, ?_, rfl, rfl⟩
  · simp only [push_cast, ↓branch_true, ↓branch_false, Nat.reduceBEq, Nat.reduceAdd, Nat.reduceMul, Nat.reduceSub, Int.reduceToNat, reduceCtorEq, branch_decide, branch_not, branch_beq, branch_bne]
  · simp only [push_cast, ↓branch_true, ↓branch_false, Nat.reduceBEq, Nat.reduceAdd, Nat.reduceMul, Nat.reduceSub, Int.reduceToNat, reduceCtorEq, branch_decide, branch_not, branch_beq, branch_bne]
theorem clipI_sp (l : List Int) (cap : Nat) : Sp Try.prog 62 [.s 0 0 0 l.length cap 1] [rIO l cap] (fun r H => r = .s 0 0 0 l.length l.length 1 ∧ H = [rIO l cap]) := by
  refine sp_know (p := l.length ≤ cap) Try.call62 (fun β w vals _ ha => ?_) fun hd => ?_
  · simp only [OkL, Ok] at ha
    obtain ⟨u, us, _, ⟨A, _, h, _⟩, _⟩ := ha
    exact h
  refine sp_weak ?_
  refine sp_of_ex true [] mixed Try.call62 Try.func62 rfl Try.ntmps62 Try.results62 (by decide +kernel) rfl ?_
  simp only [push_cast, ↓branch_true, ↓branch_false, Nat.reduceBEq, Nat.reduceAdd, Nat.reduceMul, Nat.reduceSub, Int.reduceToNat, reduceCtorEq, branch_decide, branch_not, branch_beq, branch_bne]
  repeat (with_reducible refine And.intro (by omega) ?_)
  simp only [Nat.sub_zero]
  refine ⟨_, _, [0], ?_, by kernel_rfl, ?_, rfl, rfl⟩
  · simp only [push_cast, ↓branch_true, ↓branch_false, Nat.reduceBEq, Nat.reduceAdd, Nat.reduceMul, Nat.reduceSub, Int.reduceToNat, reduceCtorEq, branch_decide, branch_not, branch_beq, branch_bne]
  · simp only [push_cast, ↓branch_true, ↓branch_false, Nat.reduceBEq, Nat.reduceAdd, Nat.reduceMul, Nat.reduceSub, Int.reduceToNat, reduceCtorEq, branch_decide, branch_not, branch_beq, branch_bne]
end Go.Proofs.Ytdinkpefoljigaa
