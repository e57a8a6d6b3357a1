/- Contract: the lists of neighbours. -/
import Derived.Test.YtmmabnoemckdiaaE
import Derived.Test.YtmmabnoemckdiaaSB
import Derived.Test.YtmmabnoemckdiaaFB
set_option maxRecDepth 100000
set_option linter.unusedSimpArgs false
set_option linter.unusedVariables false
namespace Go.Proofs.Ytmmabnoemckdiaa
open Go.RowKit Bip
theorem ixs_self {α : Type} [Inhabited α] {l : List α} {f : Nat} (h : f < l.length) (x : α) : ix (l.set f x) f = x := by
  rw [ix_eq (by simpa using h)]; simp
theorem ixs_ne {α : Type} [Inhabited α] {l : List α} {f q : Nat} (h : q ≠ f) (x : α) : ix (l.set f x) q = ix l q := by
  unfold ix
  rw [List.getD_eq_getElem?_getD, List.getD_eq_getElem?_getD, List.getElem?_set_ne (Ne.symm h)]
theorem ix_app_lt {α : Type} [Inhabited α] {l : List α} {q : Nat} {x : α} (h : q < l.length) : ix (l ++ [x]) q = ix l q := ix_app_ne (by omega) _
/-- A family of loads. -/
def oFm (M : Nat) (fl fc : Nat → Nat) (ff : Nat → Nat → Int) : Ob := ⟨3, false, .row 1 M fl fc (fun p q => [.v (.int .i64 (ff p q))])⟩
/-- A list of loads that lie in a family. -/
def oLd (F d oc : Nat) (pi ln fc : Nat → Nat) : Ob := ⟨25, false, .row 1 1 (fun _ => d) (fun _ => oc) (fun _ k => [.s F (pi k) 0 (ln k) (fc (pi k)) 1])⟩
attribute [push_cast] oFm oLd
def lnF (L : List (List Int)) (k : Nat) : Nat := (ix L k).length
/-- A family, and where a list's loads lie in it. -/
structure VS where
  M : Nat
  fl : Nat → Nat
  fc : Nat → Nat
  ff : Nat → Nat → Int
  pi : Nat → Nat
structure VOk (L : List (List Int)) (s : VS) : Prop where
  lt : ∀ k, k < L.length → s.pi k < s.M
  len : ∀ k, k < L.length → (ix L k).length ≤ s.fl (s.pi k)
  val : ∀ k, k < L.length → ∀ q, q < (ix L k).length → s.ff (s.pi k) q = ix (ix L k) q
  inj : ∀ a b, a < L.length → b < L.length → s.pi a = s.pi b → a = b
  cap : ∀ k, k < L.length → (ix L k).length ≤ s.fc (s.pi k)
/-- What stays of a family while loads are tried. -/
structure Keep (d : Nat) (ln : Nat → Nat) (s t : VS) : Prop where
  le : s.M ≤ t.M
  pi : ∀ k, k < d → t.pi k = s.pi k ∨ s.M ≤ t.pi k
  cap : ∀ p, p < s.M → t.fc p = s.fc p
  cur : ∀ k, k < d → s.pi k < s.M → ln k ≤ t.fl (s.pi k) ∧ ∀ q, q < ln k → t.ff (s.pi k) q = s.ff (s.pi k) q
  oth : ∀ p, p < s.M → (∀ k, k < d → s.pi k ≠ p) → s.fl p ≤ t.fl p ∧ ∀ q, q < s.fl p → t.ff p q = s.ff p q
theorem Keep.refl {d : Nat} {ln : Nat → Nat} {s : VS} (h : ∀ k, k < d → ln k ≤ s.fl (s.pi k)) : Keep d ln s s :=
  ⟨Nat.le_refl _, fun _ _ => .inl rfl, fun _ _ => rfl, fun k hk _ => ⟨h k hk, fun _ _ => rfl⟩, fun _ _ _ => ⟨Nat.le_refl _, fun _ _ => rfl⟩⟩
theorem Keep.trans {d : Nat} {ln ln' : Nat → Nat} {s t u : VS} (h : Keep d ln s t) (h' : Keep d ln' t u) (hl : ∀ k, k < d → ln k ≤ ln' k) (hlt : ∀ k, k < d → s.pi k < s.M) (hi : ∀ a b, a < d → b < d → s.pi a = s.pi b → a = b) : Keep d ln s u := by
  have back : ∀ k p, k < d → p < s.M → t.pi k = p → s.pi k = p := fun k p hk hp e => by
    rcases h.pi k hk with h1 | h1 <;> omega
  refine ⟨Nat.le_trans h.le h'.le, fun k hk => ?_, fun p hp => ?_, fun k hk hm => ?_, fun p hp hne => ?_⟩
  · rcases h'.pi k hk with h1 | h1
    · rcases h.pi k hk with h2 | h2
      · exact .inl (h1.trans h2)
      · right; omega
    · right; have := h.le; omega
  · rw [h'.cap p (Nat.lt_of_lt_of_le hp h.le), h.cap p hp]
  · obtain ⟨a1, a2⟩ := h.cur k hk hm
    by_cases hc : ∃ k', k' < d ∧ t.pi k' = s.pi k
    · obtain ⟨k', hk', e⟩ := hc
      have e2 := hi k' k hk' hk (back k' _ hk' hm e)
      subst e2
      obtain ⟨b1, b2⟩ := h'.cur k' hk' (by rw [e]; exact Nat.lt_of_lt_of_le hm h.le)
      rw [e] at b1 b2
      have := hl k' hk'
      exact ⟨by omega, fun q hq => (b2 q (by omega)).trans (a2 q hq)⟩
    · obtain ⟨b1, b2⟩ := h'.oth (s.pi k) (Nat.lt_of_lt_of_le hm h.le) fun k' hk' e => hc ⟨k', hk', e⟩
      exact ⟨by omega, fun q hq => (b2 q (by omega)).trans (a2 q hq)⟩
  · obtain ⟨a1, a2⟩ := h.oth p hp hne
    obtain ⟨b1, b2⟩ := h'.oth p (Nat.lt_of_lt_of_le hp h.le) fun k hk e => hne k hk (back k p hk hp e)
    exact ⟨by omega, fun q hq => (b2 q (by omega)).trans (a2 q hq)⟩
/-- A load gets a bundle. -/
theorem grow_keep {L : List (List Int)} {s : VS} {j : Nat} {i : Int} {M : Nat} {ln' cp' : Nat → Nat} {f' : Nat → Nat → List SV} {p : Nat} (h : VOk L s) (hj : j < L.length)
    (hg : GrowF s.M (ix L j).length 1 (s.pi j) s.fl s.fc (fun p q => [.v (.int .i64 (s.ff p q))]) (fun _ => [.v (.int .i64 i)]) M ln' cp' f' p) :
    ∃ t : VS, t.M = M ∧ t.fl = ln' ∧ t.fc = cp' ∧ t.pi j = p ∧ (∀ k, k ≠ j → t.pi k = s.pi k) ∧ (∀ a, a < M → ∀ q, q < ln' a → f' a q = [.v (.int .i64 (t.ff a q))]) ∧ VOk (L.set j (ix L j ++ [i])) t ∧ Keep L.length (lnF L) s t := by
  have hpj := h.lt j hj
  have hne : ∀ k, k < L.length → k ≠ j → s.pi k ≠ p := fun k hk hk2 e => by
    have := h.lt k hk
    rcases hg.pos with h1 | h1
    · exact hk2 (h.inj k j hk hj (by omega))
    · omega
  refine ⟨⟨M, ln', cp', fun a q => if a = p then (if q < (ix L j).length then s.ff (s.pi j) q else i) else s.ff a q, fun k => if k = j then p else s.pi k⟩, rfl, rfl, rfl, if_pos rfl, fun k hk => if_neg hk, fun a ha q hq => ?_, ⟨fun k hk => ?_, fun k hk => ?_, fun k hk q hq => ?_, fun a b ha hb e => ?_, fun k hk => ?_⟩, ⟨hg.hle, fun k hk => ?_, hg.caps, fun k hk hm => ?_, fun a ha hn => ?_⟩⟩
  · simp only
    by_cases e : a = p
    · subst e
      rw [if_pos rfl]
      rw [hg.hlen] at hq
      by_cases h2 : q < (ix L j).length
      · rw [if_pos h2, hg.old q h2]
      · rw [if_neg h2]
        obtain rfl : q = (ix L j).length := by omega
        exact hg.nws 0 (by omega)
    · rw [if_neg e]
      rcases hg.all a ha with h2 | h2
      · exact (hg.oth a h2 e).2 q
      · exact absurd h2 e
  · simp only
    have := hg.hle
    split
    · exact hg.hlt
    · have := h.lt k (by simpa using hk); omega
  · simp only
    by_cases e : k = j
    · subst e
      rw [if_pos rfl, ixs_self hj, hg.hlen]; simp
    · have hk : k < L.length := by simpa using hk
      rw [if_neg e, ixs_ne e, (hg.oth _ (h.lt k hk) (hne k hk e)).1]
      exact h.len k hk
  · simp only at hq ⊢
    by_cases e : k = j
    · subst e
      rw [ixs_self hj] at hq ⊢
      rw [if_pos rfl, if_pos rfl]
      by_cases h2 : q < (ix L k).length
      · rw [if_pos h2, h.val k hj q h2, ix_app_lt h2]
      · rw [if_neg h2]
        obtain rfl : q = (ix L k).length := by simp at hq; omega
        exact (ix_app_last _ _).symm
    · have hk : k < L.length := by simpa using hk
      rw [ixs_ne e] at hq ⊢
      rw [if_neg e, if_neg (hne k hk e)]
      exact h.val k hk q hq
  · simp only at e
    have ha : a < L.length := by simpa using ha
    have hb : b < L.length := by simpa using hb
    by_cases e1 : a = j <;> by_cases e2 : b = j
    · omega
    · rw [if_pos e1, if_neg e2] at e
      exact absurd e.symm (hne b hb e2)
    · rw [if_neg e1, if_pos e2] at e
      exact absurd e (hne a ha e1)
    · rw [if_neg e1, if_neg e2] at e
      exact h.inj a b ha hb e
  · simp only
    by_cases e : k = j
    · subst e
      rw [if_pos rfl, ixs_self hj, List.length_append, List.length_cons, List.length_nil]
      exact hg.hcap
    · have hk : k < L.length := by simpa using hk
      rw [if_neg e, ixs_ne e, hg.caps _ (h.lt k hk)]
      exact h.cap k hk
  · simp only
    split
    · rename_i e
      subst e
      rcases hg.pos with h1 | h1
      · exact .inl h1
      · exact .inr h1
    · exact .inl rfl
  · simp only [lnF]
    have hk1 := h.len k hk
    by_cases e : s.pi k = p
    · have hkj : k = j := by
        rcases hg.pos with h1 | h1
        · exact h.inj k j hk hj (by omega)
        · omega
      subst hkj
      refine ⟨by rw [e, hg.hlen]; omega, fun q hq => ?_⟩
      rw [if_pos e, if_pos hq]
    · refine ⟨by rw [(hg.oth _ hm e).1]; exact hk1, fun q hq => ?_⟩
      rw [if_neg e]
  · simp only
    have e : a ≠ p := fun e => by
      rcases hg.pos with h1 | h1
      · exact hn j hj (by omega)
      · omega
    refine ⟨by rw [(hg.oth a ha e).1]; exact Nat.le_refl _, fun q hq => ?_⟩
    rw [if_neg e]

theorem lnF_self {L : List (List Int)} {j : Nat} {i : Int} (h : j < L.length) : lnF (L.set j (ix L j ++ [i])) j = lnF L j + 1 := by
  unfold lnF
  rw [ixs_self h]; simp
theorem lnF_ne {L : List (List Int)} {j q : Nat} {y : List Int} (h : q ≠ j) : lnF (L.set j y) q = lnF L q := by
  unfold lnF
  rw [ixs_ne h]
theorem set_ix {L : List (List Int)} {k : Nat} (h : k < L.length) : L.set k (ix L k) = L := by
  rw [ix_eq h]
  exact List.set_getElem_self h
/-- A list of a family is another one. -/
def setV (s : VS) (j : Nat) (y : List Int) : VS := { s with fl := fun p => bif p == s.pi j then y.length else s.fl p, ff := fun p q => bif p == s.pi j then ix y q else s.ff p q }
theorem setV_ok {L : List (List Int)} {s : VS} {j : Nat} {y : List Int} (h : VOk L s) (hj : j < L.length) (hy : y.length ≤ s.fc (s.pi j)) : VOk (L.set j y) (setV s j y) := by
  have pne : ∀ k, k < L.length → k ≠ j → (s.pi k == s.pi j) = false := fun k hk hkj => by
    simpa using fun e => hkj (h.inj k j hk hj e)
  refine ⟨fun k hk => h.lt k (by simpa using hk), fun k hk => ?_, fun k hk q hq => ?_, fun a b ha hb e => h.inj a b (by simpa using ha) (by simpa using hb) e, fun k hk => ?_⟩
  · have hk : k < L.length := by simpa using hk
    show _ ≤ (bif s.pi k == s.pi j then y.length else s.fl (s.pi k))
    by_cases e : k = j
    · subst e; rw [ixs_self hj]; simp
    · rw [ixs_ne e, pne k hk e]; exact h.len k hk
  · have hk : k < L.length := by simpa using hk
    show (bif s.pi k == s.pi j then ix y q else s.ff (s.pi k) q) = _
    by_cases e : k = j
    · subst e; rw [ixs_self hj]; simp
    · rw [ixs_ne e] at hq ⊢
      rw [pne k hk e]
      exact h.val k hk q hq
  · have hk : k < L.length := by simpa using hk
    show _ ≤ s.fc (s.pi k)
    by_cases e : k = j
    · subst e; rw [ixs_self hj]; exact hy
    · rw [ixs_ne e]; exact h.cap k hk
/-- The lists while they are sorted. -/
def srt (L : List (List Int)) : Nat → List (List Int)
  | 0 => L
  | k + 1 => (srt L k).set k (cmpL (sortI (ix L k)))
theorem srt_len (L : List (List Int)) : ∀ k, (srt L k).length = L.length
  | 0 => rfl
  | k + 1 => by rw [srt, List.length_set, srt_len L k]
theorem srt_old (L : List (List Int)) : ∀ {k i : Nat}, k ≤ i → ix (srt L k) i = ix L i
  | 0, _, _ => rfl
  | k + 1, i, h => by rw [srt, ixs_ne (by omega), srt_old L (by omega)]
theorem srt_new (L : List (List Int)) : ∀ {k i : Nat}, i < k → i < L.length → ix (srt L k) i = cmpL (sortI (ix L i))
  | k + 1, i, h, hi => by
    rw [srt]
    by_cases e : i = k
    · subst e; rw [ixs_self (by rw [srt_len]; exact hi)]
    · rw [ixs_ne e, srt_new L (by omega) hi]
/-- The lists while the edges are gone through. -/
def putE (L : List (List Int)) (e : Ed) : List (List Int) := L.set e.x.toNat (ix L e.x.toNat ++ [e.y])
def bags (N : Nat) (l : List Ed) : List (List Int) := l.foldl putE (List.replicate N [])
theorem bags_len (N : Nat) (l : List Ed) : (bags N l).length = N := by
  have key : ∀ (l : List Ed) (L : List (List Int)), (l.foldl putE L).length = L.length := by
    intro l
    induction l with
    | nil => intro L; rfl
    | cons e l ih => intro L; rw [List.foldl_cons, ih]; simp [putE]
  rw [bags, key]; simp
theorem bags_snoc (N : Nat) (l : List Ed) (e : Ed) : bags N (l ++ [e]) = putE (bags N l) e := by simp [bags]
theorem bags_each (N : Nat) (l : List Ed) (i : Nat) : (ix (bags N l) i).length ≤ l.length := by
  have key : ∀ (l : List Ed) (L : List (List Int)) (b : Nat), (∀ i, (ix L i).length ≤ b) → ∀ i, (ix (l.foldl putE L) i).length ≤ b + l.length := by
    intro l
    induction l with
    | nil => intro L b h i; simpa using h i
    | cons e l ih =>
      intro L b h i
      rw [List.foldl_cons, List.length_cons]
      have := ih (putE L e) (b + 1) (fun i => by
        unfold putE
        by_cases he : i = e.x.toNat
        · subst he
          by_cases hl : e.x.toNat < L.length
          · rw [ixs_self hl]; simpa using h e.x.toNat
          · rw [List.set_eq_of_length_le (by omega)]; have := h e.x.toNat; omega
        · rw [ixs_ne he]; have := h i; omega) i
      omega
  have := key l (List.replicate N []) 0 (fun i => by
    unfold ix
    rw [List.getD_eq_getElem?_getD]
    by_cases h : i < N
    · simp [h]
    · simp [h]; rfl) i
  rw [bags]
  omega
theorem ix_rep {N i : Nat} : ix (List.replicate N ([] : List Int)) i = [] := by
  unfold ix
  rw [List.getD_eq_getElem?_getD]
  by_cases h : i < N
  · simp [h]
  · simp [h]; rfl
set_option maxHeartbeats 4000000 in
theorem lists0_sp (l : List Ed) (N m c : Nat) (hN : N ≤ 1000) (hl : l.length ≤ 100000) (hv : ∀ e ∈ l, inE N m e = true) : Sp Try.prog 51 [.v (.int .i64 N), .s 0 0 0 l.length c 2] [rEd l] (fun r H => ∃ s, VOk (srt (bags N l) N) s ∧ r = .s 1 0 0 N N 1 ∧ H = [rEd l, oLd 2 N N s.pi (lnF (srt (bags N l) N)) s.fc, oFm s.M s.fl s.fc s.ff]) := by
  refine sp_weak ?_
  refine sp_of_exa true true [(5, .pre [3] [0, 1, 2, 3, 4, 5, 6, 8, 9] (.alt [(7, .one 10 (.one 11 (.one 12 (.one 13 .fin)))), (10, .one 7 (.one 11 (.one 12 (.one 13 .fin))))]))] mixed Try.call51 Try.func51 rfl Try.ntmps51 Try.results51 (by decide +kernel) rfl ?_
  simp only [push_cast, ↓branch_true, ↓branch_false, Nat.reduceBEq, Nat.reduceAdd, Nat.reduceMul, Nat.reduceSub, Int.reduceToNat, reduceCtorEq, branch_decide, branch_not, branch_beq, branch_bne, Int.reduceAdd, Int.reduceEq, Int.reduceLE, Int.reduceLT, Nat.reduceLT, Nat.reduceLeDiff, false_imp_iff, true_imp_iff]
  repeat (with_reducible refine And.intro (by omega) ?_)
  refine Or.inl ?_
  repeat (with_reducible refine And.intro (by omega) ?_)
  refine tr_loop mixed (by kernel_rfl) (fun (x : Nat × VS) => [(13, .v (.int .i64 x.1)), (12, .v (.int .i64 l.length)), (11, .s 0 0 0 l.length c 2), (5, .s 1 0 0 N N 1)])
    (fun x => [rEd l, oLd 2 N N x.2.pi (lnF (bags N (l.take x.1))) x.2.fc, oFm x.2.M x.2.fl x.2.fc x.2.ff]) (fun x => x.1 ≤ l.length ∧ VOk (bags N (l.take x.1)) x.2) (fun x => l.length - x.1) (0, ⟨N, fun _ => 0, fun _ => 0, fun _ _ => 0, fun k => k⟩)
    ⟨Nat.zero_le _, ?_⟩ (Mt.wk (rl := [0, 1, 1000]) ⟨by kernel_rfl, ?_, ?_⟩) ?_
  · rw [List.take_zero]
    exact ⟨fun k hk => by simpa [bags] using hk, fun k hk => by simp [bags, ix_rep], fun k hk q hq => by simp [bags, ix_rep] at hq, fun a b _ _ e => e, fun k hk => by simp [bags, ix_rep]⟩
  · simp only [push_cast, ↓branch_true, ↓branch_false, Nat.reduceBEq, Nat.reduceAdd, Nat.reduceMul, Nat.reduceSub, Int.reduceToNat, reduceCtorEq, branch_decide, branch_not, branch_beq, branch_bne, Int.reduceAdd, Int.reduceEq, Int.reduceLE, Int.reduceLT, Nat.reduceLT, Nat.reduceLeDiff, false_imp_iff, true_imp_iff]
    try trivial
  · simp only [push_cast, ↓branch_true, ↓branch_false, Nat.reduceBEq, Nat.reduceAdd, Nat.reduceMul, Nat.reduceSub, Int.reduceToNat, reduceCtorEq, branch_decide, branch_not, branch_beq, branch_bne, Int.reduceAdd, Int.reduceEq, Int.reduceLE, Int.reduceLT, Nat.reduceLT, Nat.reduceLeDiff, false_imp_iff, true_imp_iff]
    exact fun _ _ _ _ => by simp [lnF, bags, ix_rep]
  rintro ⟨k, s⟩ ⟨h1, h2⟩
  simp only at h1 h2
  have hbl := bags_len N (l.take k)
  have hbe := bags_each N (l.take k)
  simp only [push_cast, ↓branch_true, ↓branch_false, Nat.reduceBEq, Nat.reduceAdd, Nat.reduceMul, Nat.reduceSub, Int.reduceToNat, reduceCtorEq, branch_decide, branch_not, branch_beq, branch_bne, Int.reduceAdd, Int.reduceEq, Int.reduceLE, Int.reduceLT, Nat.reduceLT, Nat.reduceLeDiff, false_imp_iff, true_imp_iff]
  refine ⟨fun h0 => ?_, fun h0 => ?_⟩
  · have hk : k < l.length := by omega
    have hx := hv _ (ix_mem hk)
    have hX := take_snoc hk
    have hB : bags N (l.take (k + 1)) = (bags N (l.take k)).set (ix l k).x.toNat (ix (bags N (l.take k)) (ix l k).x.toNat ++ [(ix l k).y]) := by rw [hX, bags_snoc]; rfl
    simp only [inE, Bool.and_eq_true, decide_eq_true_eq] at hx
    generalize hee : ix l k = e at *
    generalize hLL : bags N (l.take k) = L at *
    have hj : e.x.toNat < L.length := by omega
    have hlj := hbe e.x.toNat
    have htl : (l.take k).length ≤ k := by simp; omega
    have hlj2 : lnF L e.x.toNat ≤ 100000 := by unfold lnF; omega
    have hpj := h2.lt _ hj
    have hfl : lnF L e.x.toNat ≤ s.fl (s.pi e.x.toNat) := h2.len _ hj
    repeat' (with_reducible apply And.intro)
    all_goals try omega
    all_goals
      refine Or.inl ?_
      repeat (with_reducible refine And.intro (by omega) ?_)
      refine Or.inr (Or.inr (Or.inr (Or.inr ?_)))
      repeat (with_reducible refine And.intro (by omega) ?_)
      intro M ln' cp' f' p hg
      have hg2 : GrowF s.M (ix L e.x.toNat).length 1 (s.pi e.x.toNat) s.fl s.fc (fun p q => [.v (.int .i64 (s.ff p q))]) (fun _ => [.v (.int .i64 e.y)]) M ln' cp' f' p := ⟨hg.hle, hg.hlt, hg.pos, hg.all, hg.hlen, hg.hcap, hg.old, fun q hq => by
        obtain rfl : q = 0 := by omega
        exact hg.nws 0 (by omega), hg.caps, hg.oth⟩
      obtain ⟨s2, e1, e2, e3, e4, e5, e6, e7, e8⟩ := grow_keep h2 hj hg2
      subst e1 e2 e3 e4
      rw [← hB] at e7
      repeat (with_reducible refine And.intro (by omega) ?_)
      refine lpK_normal (k + 1, s2) [0, 1, 2] ⟨by simp only; omega, e7⟩ (by simp only; omega) (by kernel_rfl) ?_ ?_
      · simp only [push_cast, ↓branch_true, ↓branch_false, Nat.reduceBEq, Nat.reduceAdd, Nat.reduceMul, Nat.reduceSub, Int.reduceToNat, reduceCtorEq, branch_decide, branch_not, branch_beq, branch_bne, Int.reduceAdd, Int.reduceEq, Int.reduceLE, Int.reduceLT, Nat.reduceLT, Nat.reduceLeDiff, false_imp_iff, true_imp_iff]
      · simp only [push_cast, ↓branch_true, ↓branch_false, Nat.reduceBEq, Nat.reduceAdd, Nat.reduceMul, Nat.reduceSub, Int.reduceToNat, reduceCtorEq, branch_decide, branch_not, branch_beq, branch_bne, Int.reduceAdd, Int.reduceEq, Int.reduceLE, Int.reduceLT, Nat.reduceLT, Nat.reduceLeDiff, false_imp_iff, true_imp_iff]
        refine ⟨fun i1 hi1 q hq => ?_, fun a ha q hq => ?_⟩
        · obtain rfl : i1 = 0 := by omega
          rw [hB]
          by_cases eq : q = e.x.toNat
          · subst eq
            simp only [beq_self_eq_true, Bool.and_self, cond_true, lnF_self hj]
            simp only [push_cast, ↓branch_true, ↓branch_false, Nat.reduceBEq, Nat.reduceAdd, Nat.reduceMul, Nat.reduceSub, Int.reduceToNat, reduceCtorEq, branch_decide, branch_not, branch_beq, branch_bne, Int.reduceAdd, Int.reduceEq, Int.reduceLE, Int.reduceLT, Nat.reduceLT, Nat.reduceLeDiff, false_imp_iff, true_imp_iff]
          · have hb : (q == e.x.toNat) = false := by simpa using eq
            simp only [hb, Bool.and_false, cond_false, lnF_ne eq, e5 q eq, e8.cap _ (h2.lt q (by omega))]
            simp only [push_cast, ↓branch_true, ↓branch_false, Nat.reduceBEq, Nat.reduceAdd, Nat.reduceMul, Nat.reduceSub, Int.reduceToNat, reduceCtorEq, branch_decide, branch_not, branch_beq, branch_bne, Int.reduceAdd, Int.reduceEq, Int.reduceLE, Int.reduceLT, Nat.reduceLT, Nat.reduceLeDiff, false_imp_iff, true_imp_iff]
        · rw [e6 a ha q hq]
          simp only [push_cast, ↓branch_true, ↓branch_false, Nat.reduceBEq, Nat.reduceAdd, Nat.reduceMul, Nat.reduceSub, Int.reduceToNat, reduceCtorEq, branch_decide, branch_not, branch_beq, branch_bne, Int.reduceAdd, Int.reduceEq, Int.reduceLE, Int.reduceLT, Nat.reduceLT, Nat.reduceLeDiff, false_imp_iff, true_imp_iff]
  obtain rfl : k = l.length := by omega
  rw [List.take_length] at h2 hbl hbe ⊢
  generalize hLL : bags N l = L at *
  refine tr_loop mixed (by kernel_rfl) (fun (x : Nat × VS) => [(33, .v (.int .i64 x.1)), (32, .v (.int .i64 N)), (5, .s 1 0 0 N N 1)])
    (fun x => [rEd l, oLd 2 N N x.2.pi (lnF (srt L x.1)) x.2.fc, oFm x.2.M x.2.fl x.2.fc x.2.ff]) (fun x => x.1 ≤ N ∧ VOk (srt L x.1) x.2) (fun x => N - x.1) (0, s) ⟨Nat.zero_le _, h2⟩ (Mt.wk (rl := [0, 1, 2]) ⟨by kernel_rfl, ?_, ?_⟩) ?_
  · simp only [push_cast, ↓branch_true, ↓branch_false, Nat.reduceBEq, Nat.reduceAdd, Nat.reduceMul, Nat.reduceSub, Int.reduceToNat, reduceCtorEq, branch_decide, branch_not, branch_beq, branch_bne, Int.reduceAdd, Int.reduceEq, Int.reduceLE, Int.reduceLT, Nat.reduceLT, Nat.reduceLeDiff, false_imp_iff, true_imp_iff]
    try trivial
  · simp only [push_cast, ↓branch_true, ↓branch_false, Nat.reduceBEq, Nat.reduceAdd, Nat.reduceMul, Nat.reduceSub, Int.reduceToNat, reduceCtorEq, branch_decide, branch_not, branch_beq, branch_bne, Int.reduceAdd, Int.reduceEq, Int.reduceLE, Int.reduceLT, Nat.reduceLT, Nat.reduceLeDiff, false_imp_iff, true_imp_iff, srt]
    try trivial
  clear h2 s
  rintro ⟨k, s⟩ ⟨h1, h2⟩
  simp only at h1 h2
  have hsl := srt_len L k
  simp only [push_cast, ↓branch_true, ↓branch_false, Nat.reduceBEq, Nat.reduceAdd, Nat.reduceMul, Nat.reduceSub, Int.reduceToNat, reduceCtorEq, branch_decide, branch_not, branch_beq, branch_bne, Int.reduceAdd, Int.reduceEq, Int.reduceLE, Int.reduceLT, Nat.reduceLT, Nat.reduceLeDiff, false_imp_iff, true_imp_iff]
  refine ⟨fun h3 => ?_, fun h3 => ?_⟩
  · have hk : k < N := by omega
    have hkL : k < (srt L k).length := by omega
    have hso : ix (srt L k) k = ix L k := srt_old L (Nat.le_refl k)
    have hS : srt L (k + 1) = (srt L k).set k (cmpL (sortI (ix (srt L k) k))) := by rw [hso]; rfl
    have hbk := hbe k
    rw [← hso] at hbk
    generalize srt L k = LK at *
    have hpk := h2.lt k hkL
    have hle := h2.len k hkL
    have hcp := h2.cap k hkL
    have hvl := h2.val k hkL
    have hln : lnF LK k = (ix LK k).length := rfl
    repeat (with_reducible refine And.intro (by omega) ?_)
    rw [hln]
    generalize hy : ix LK k = y at *
    rcases Nat.eq_zero_or_pos y.length with h4 | h4
    · obtain rfl : y = [] := List.length_eq_zero_iff.1 h4
      rw [List.length_nil]
      refine Or.inl ?_
      refine (sort0_sp _ _ _ _).mono ?_
      rintro _ _ ⟨rfl, rfl⟩
      have hln0 : lnF LK k = 0 := hln
      simp only [push_cast, ↓branch_true, ↓branch_false, Nat.reduceBEq, Nat.reduceAdd, Nat.reduceMul, Nat.reduceSub, Int.reduceToNat, reduceCtorEq, branch_decide, branch_not, branch_beq, branch_bne, Int.reduceAdd, Int.reduceEq, Int.reduceLE, Int.reduceLT, Nat.reduceLT, Nat.reduceLeDiff, false_imp_iff, true_imp_iff, hln0]
      repeat (with_reducible refine And.intro (by omega) ?_)
      refine Or.inl ?_
      refine (compact0_sp _ _ _ _).mono ?_
      rintro _ _ ⟨rfl, rfl⟩
      simp only [push_cast, ↓branch_true, ↓branch_false, Nat.reduceBEq, Nat.reduceAdd, Nat.reduceMul, Nat.reduceSub, Int.reduceToNat, reduceCtorEq, branch_decide, branch_not, branch_beq, branch_bne, Int.reduceAdd, Int.reduceEq, Int.reduceLE, Int.reduceLT, Nat.reduceLT, Nat.reduceLeDiff, false_imp_iff, true_imp_iff]
      repeat (with_reducible refine And.intro (by omega) ?_)
      have hS' : srt L (k + 1) = LK := by
        rw [hS, show cmpL (sortI []) = [] by simp [cmpL, sortI, cmpT], ← hy]
        exact set_ix hkL
      refine lpK_normal (k + 1, s) [0, 1, 2] ⟨by simp only; omega, by rw [hS']; exact h2⟩ (by simp only; omega) (by kernel_rfl) ?_ ?_
      · simp only [push_cast, ↓branch_true, ↓branch_false, Nat.reduceBEq, Nat.reduceAdd, Nat.reduceMul, Nat.reduceSub, Int.reduceToNat, reduceCtorEq, branch_decide, branch_not, branch_beq, branch_bne, Int.reduceAdd, Int.reduceEq, Int.reduceLE, Int.reduceLT, Nat.reduceLT, Nat.reduceLeDiff, false_imp_iff, true_imp_iff]
      · simp only [push_cast, ↓branch_true, ↓branch_false, Nat.reduceBEq, Nat.reduceAdd, Nat.reduceMul, Nat.reduceSub, Int.reduceToNat, reduceCtorEq, branch_decide, branch_not, branch_beq, branch_bne, Int.reduceAdd, Int.reduceEq, Int.reduceLE, Int.reduceLT, Nat.reduceLT, Nat.reduceLeDiff, false_imp_iff, true_imp_iff, hS']
        intro i1 hi1 q hq
        obtain rfl : i1 = 0 := by omega
        by_cases eq : q = k
        · subst eq
          simp only [beq_self_eq_true, Bool.and_self, cond_true, hln0]
          simp only [push_cast, ↓branch_true, ↓branch_false, Nat.reduceBEq, Nat.reduceAdd, Nat.reduceMul, Nat.reduceSub, Int.reduceToNat, reduceCtorEq, branch_decide, branch_not, branch_beq, branch_bne, Int.reduceAdd, Int.reduceEq, Int.reduceLE, Int.reduceLT, Nat.reduceLT, Nat.reduceLeDiff, false_imp_iff, true_imp_iff]
        · have hb : (q == k) = false := by simpa using eq
          simp only [hb, Bool.and_false, cond_false]
          simp only [push_cast, ↓branch_true, ↓branch_false, Nat.reduceBEq, Nat.reduceAdd, Nat.reduceMul, Nat.reduceSub, Int.reduceToNat, reduceCtorEq, branch_decide, branch_not, branch_beq, branch_bne, Int.reduceAdd, Int.reduceEq, Int.reduceLE, Int.reduceLT, Nat.reduceLT, Nat.reduceLeDiff, false_imp_iff, true_imp_iff]
    · refine Or.inl ?_
      refine sp_mem (F := 2) (N := s.M) (len := s.fl) (cp := s.fc) (ff := s.ff) (X := Unit) (R := fun _ => .t []) (n' := fun _ => (sortI y).length) (g := ix y) (g' := fun _ => ix (sortI y)) ((sort_sp y (s.fc (s.pi k)) h4 (by omega)).mono fun r H' h => ⟨(), h.1, h.2⟩) (fun _ => .inl rfl) rfl hpk (by omega) rfl (by omega) (fun q hq => hvl q hq) ?_
      intro _
      have hln2 : lnF LK k = (sortI y).length := by rw [hln, sortI_len]
      have hsy := sortI_len y
      have hcl := cmpT_len (sortI y) (sortI y).length
      simp only [push_cast, ↓branch_true, ↓branch_false, Nat.reduceBEq, Nat.reduceAdd, Nat.reduceMul, Nat.reduceSub, Int.reduceToNat, reduceCtorEq, branch_decide, branch_not, branch_beq, branch_bne, Int.reduceAdd, Int.reduceEq, Int.reduceLE, Int.reduceLT, Nat.reduceLT, Nat.reduceLeDiff, false_imp_iff, true_imp_iff, atMem, hln2]
      repeat (with_reducible refine And.intro (by omega) ?_)
      refine Or.inl ?_
      refine sp_mem (F := 2) (N := s.M) (len := fun i => bif i == s.pi k then (sortI y).length else s.fl i) (cp := s.fc) (ff := fun i q => bif i == s.pi k then ix (sortI y) q else s.ff i q) (X := Unit) (R := fun _ => .s 0 0 0 (cmpL (sortI y)).length (s.fc (s.pi k)) 1) (n' := fun _ => (cmpL (sortI y)).length) (g := ix (sortI y)) (g' := fun _ => ix (cmpL (sortI y))) ((compact_sp (sortI y) (s.fc (s.pi k)) (by omega) (by omega)).mono fun r H' h => ⟨(), h.1, h.2⟩) (fun _ => .inr rfl) rfl hpk (by simp) rfl (by omega) (fun q hq => by simp) ?_
      intro _
      simp only [push_cast, ↓branch_true, ↓branch_false, Nat.reduceBEq, Nat.reduceAdd, Nat.reduceMul, Nat.reduceSub, Int.reduceToNat, reduceCtorEq, branch_decide, branch_not, branch_beq, branch_bne, Int.reduceAdd, Int.reduceEq, Int.reduceLE, Int.reduceLT, Nat.reduceLT, Nat.reduceLeDiff, false_imp_iff, true_imp_iff, atMem]
      repeat (with_reducible refine And.intro (by omega) ?_)
      refine lpK_normal (k + 1, setV s k (cmpL (sortI y))) [0, 1, 2] ⟨by simp only; omega, by rw [hS]; exact setV_ok h2 hkL (by unfold cmpL; omega)⟩ (by simp only; omega) (by kernel_rfl) ?_ ?_
      · simp only [push_cast, ↓branch_true, ↓branch_false, Nat.reduceBEq, Nat.reduceAdd, Nat.reduceMul, Nat.reduceSub, Int.reduceToNat, reduceCtorEq, branch_decide, branch_not, branch_beq, branch_bne, Int.reduceAdd, Int.reduceEq, Int.reduceLE, Int.reduceLT, Nat.reduceLT, Nat.reduceLeDiff, false_imp_iff, true_imp_iff]
      · simp only [push_cast, ↓branch_true, ↓branch_false, Nat.reduceBEq, Nat.reduceAdd, Nat.reduceMul, Nat.reduceSub, Int.reduceToNat, reduceCtorEq, branch_decide, branch_not, branch_beq, branch_bne, Int.reduceAdd, Int.reduceEq, Int.reduceLE, Int.reduceLT, Nat.reduceLT, Nat.reduceLeDiff, false_imp_iff, true_imp_iff, hS, setV]
        refine ⟨fun i1 hi1 q hq => ?_, fun p hp => ?_⟩
        · obtain rfl : i1 = 0 := by omega
          by_cases eq : q = k
          · subst eq
            have e9 : lnF (LK.set q (cmpL (sortI y))) q = (cmpL (sortI y)).length := by unfold lnF; rw [ixs_self hkL]
            simp only [beq_self_eq_true, Bool.and_self, cond_true, e9]
            simp only [push_cast, ↓branch_true, ↓branch_false, Nat.reduceBEq, Nat.reduceAdd, Nat.reduceMul, Nat.reduceSub, Int.reduceToNat, reduceCtorEq, branch_decide, branch_not, branch_beq, branch_bne, Int.reduceAdd, Int.reduceEq, Int.reduceLE, Int.reduceLT, Nat.reduceLT, Nat.reduceLeDiff, false_imp_iff, true_imp_iff]
          · have hb : (q == k) = false := by simpa using eq
            simp only [hb, Bool.and_false, cond_false, lnF_ne eq]
            simp only [push_cast, ↓branch_true, ↓branch_false, Nat.reduceBEq, Nat.reduceAdd, Nat.reduceMul, Nat.reduceSub, Int.reduceToNat, reduceCtorEq, branch_decide, branch_not, branch_beq, branch_bne, Int.reduceAdd, Int.reduceEq, Int.reduceLE, Int.reduceLT, Nat.reduceLT, Nat.reduceLeDiff, false_imp_iff, true_imp_iff]
        · cases hpb : p == s.pi k with
          | true =>
            simp only [cond_true]
            exact ⟨Nat.le_refl _, fun _ _ => trivial⟩
          | false =>
            simp only [cond_false]
            exact ⟨Nat.le_refl _, fun _ _ => trivial⟩
  · obtain rfl : k = N := by omega
    refine ⟨_, _, [0, 1, 2], ?_, by kernel_rfl, ?_, s, h2, rfl, rfl⟩
    · simp only [push_cast, ↓branch_true, ↓branch_false, Nat.reduceBEq, Nat.reduceAdd, Nat.reduceMul, Nat.reduceSub, Int.reduceToNat, reduceCtorEq, branch_decide, branch_not, branch_beq, branch_bne, Int.reduceAdd, Int.reduceEq, Int.reduceLE, Int.reduceLT, Nat.reduceLT, Nat.reduceLeDiff, false_imp_iff, true_imp_iff]
    · simp only [push_cast, ↓branch_true, ↓branch_false, Nat.reduceBEq, Nat.reduceAdd, Nat.reduceMul, Nat.reduceSub, Int.reduceToNat, reduceCtorEq, branch_decide, branch_not, branch_beq, branch_bne, Int.reduceAdd, Int.reduceEq, Int.reduceLE, Int.reduceLT, Nat.reduceLT, Nat.reduceLeDiff, false_imp_iff, true_imp_iff]
end Go.Proofs.Ytmmabnoemckdiaa
