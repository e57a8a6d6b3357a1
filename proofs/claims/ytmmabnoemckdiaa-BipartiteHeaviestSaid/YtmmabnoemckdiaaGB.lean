/- Plain law: the lists of neighbours are the rows of the table. -/
import Derived.Test.YtmmabnoemckdiaaGA
set_option maxRecDepth 100000
set_option linter.unusedSimpArgs false
set_option linter.unusedVariables false
namespace Go.Proofs.Ytmmabnoemckdiaa
open Go.RowKit Bip
/-- Two ascending lists with the same members are one. -/
theorem asc_ext : ∀ (a b : List Int), a.Pairwise (· < ·) → b.Pairwise (· < ·) → (∀ x, x ∈ a ↔ x ∈ b) → a = b
  | [], [], _, _, _ => rfl
  | [], y :: b, _, _, h => by have := (h y).2 (by simp); simp at this
  | x :: a, [], _, _, h => by have := (h x).1 (by simp); simp at this
  | x :: a, y :: b, ha, hb, h => by
    have ha' := List.pairwise_cons.1 ha
    have hb' := List.pairwise_cons.1 hb
    have hxy : x = y := by
      rcases List.mem_cons.1 ((h x).1 (by simp)) with e | e
      · exact e
      · rcases List.mem_cons.1 ((h y).2 (by simp)) with e2 | e2
        · exact e2.symm
        · have := ha'.1 _ e2
          have := hb'.1 _ e
          omega
    subst hxy
    rw [asc_ext a b ha'.2 hb'.2 fun z => ⟨fun hz => ?_, fun hz => ?_⟩]
    · rcases List.mem_cons.1 ((h z).1 (by simp [hz])) with e | e
      · subst e; exact absurd (ha'.1 _ hz) (Int.lt_irrefl _)
      · exact e
    · rcases List.mem_cons.1 ((h z).2 (by simp [hz])) with e | e
      · subst e; exact absurd (hb'.1 _ hz) (Int.lt_irrefl _)
      · exact e
theorem cmpT_fact {l : List Int} (hs : l.Pairwise (· ≤ ·)) : ∀ p, p ≤ l.length → (∀ x, x ∈ cmpT l p ↔ ∃ q, q < p ∧ x = ix l q) ∧ (cmpT l p).Pairwise (· < ·)
  | 0, _ => ⟨by simp [cmpT], .nil⟩
  | p + 1, hp => by
    obtain ⟨h1, h2⟩ := cmpT_fact hs p (by omega)
    have hle : ∀ a b, a < b → b < l.length → ix l a ≤ ix l b := fun a b hab hb => by
      rw [ix_eq hb, ix_eq (Nat.lt_trans hab hb)]
      exact List.pairwise_iff_getElem.1 hs a b _ _ hab
    unfold cmpT
    by_cases h : p = 0 ∨ ix l p ≠ ix l (p - 1)
    · rw [if_pos h]
      refine ⟨fun x => ?_, List.pairwise_append.2 ⟨h2, List.pairwise_singleton _ _, fun a ha b hb => ?_⟩⟩
      · rw [List.mem_append, h1, List.mem_singleton]
        exact ⟨fun h => h.elim (fun ⟨q, hq, e⟩ => ⟨q, by omega, e⟩) fun e => ⟨p, by omega, e⟩, fun ⟨q, hq, e⟩ => by
          rcases Nat.lt_or_eq_of_le (Nat.le_of_lt_succ hq) with h3 | h3
          · exact .inl ⟨q, h3, e⟩
          · subst h3; exact .inr e⟩
      · obtain ⟨q, hq, rfl⟩ := (h1 a).1 ha
        obtain rfl : b = ix l p := by simpa using hb
        have h3 := hle (p - 1) p (by omega) (by omega)
        have h4 : ix l q ≤ ix l (p - 1) := by
          rcases Nat.lt_or_eq_of_le (show q ≤ p - 1 by omega) with h5 | h5
          · exact hle q (p - 1) h5 (by omega)
          · subst h5; exact Int.le_refl _
        have h6 := h.resolve_left (by omega)
        omega
    · rw [if_neg h]
      have hp0 : p ≠ 0 := fun e => h (.inl e)
      have he : ix l p = ix l (p - 1) := Classical.not_not.1 fun e => h (.inr e)
      refine ⟨fun x => ?_, h2⟩
      rw [h1]
      exact ⟨fun ⟨q, hq, e⟩ => ⟨q, by omega, e⟩, fun ⟨q, hq, e⟩ => by
        rcases Nat.lt_or_eq_of_le (Nat.le_of_lt_succ hq) with h3 | h3
        · exact ⟨q, h3, e⟩
        · subst h3; exact ⟨q - 1, by omega, by rw [e, he]⟩⟩
theorem sortI_asc (l : List Int) : (sortI l).Pairwise (· ≤ ·) := by
  have := List.pairwise_mergeSort (le := fun (x y : Int) => decide (x ≤ y)) (fun a b c h1 h2 => by simp at *; omega) (fun a b => by simp; omega) l
  exact this.imp fun h => by simpa using h
theorem mem_ix {l : List Int} {x : Int} : x ∈ l ↔ ∃ q, q < l.length ∧ x = ix l q := by
  constructor
  · intro h
    obtain ⟨q, hq, e⟩ := List.getElem_of_mem h
    exact ⟨q, hq, by rw [ix_eq hq, e]⟩
  · rintro ⟨q, hq, rfl⟩
    rw [ix_eq hq]
    exact List.getElem_mem hq
theorem cmp_mem {l : List Int} {x : Int} : x ∈ cmpL (sortI l) ↔ x ∈ l := by
  have h := (cmpT_fact (sortI_asc l) _ (Nat.le_refl _)).1 x
  unfold cmpL
  rw [h, ← mem_ix, (List.mergeSort_perm _ _).mem_iff (l₁ := sortI _)]
theorem cmp_asc (l : List Int) : (cmpL (sortI l)).Pairwise (· < ·) := (cmpT_fact (sortI_asc l) _ (Nat.le_refl _)).2
theorem bags_mem (N : Nat) : ∀ (l : List Ed) (L : List (List Int)) (i : Nat) (x : Int), i < L.length → (x ∈ ix (l.foldl putE L) i ↔ x ∈ ix L i ∨ ∃ e ∈ l, e.x.toNat = i ∧ e.y = x)
  | [], L, i, x, _ => by simp
  | e :: l, L, i, x, hi => by
    rw [List.foldl_cons, bags_mem N l (putE L e) i x (by simpa [putE] using hi)]
    unfold putE
    by_cases h : i = e.x.toNat
    · subst h
      rw [ixs_self hi]
      simp only [List.mem_append, List.mem_cons, List.not_mem_nil, or_false]
      constructor
      · rintro ((h | h) | ⟨e', h1, h2⟩)
        · exact .inl h
        · exact .inr ⟨e, .inl rfl, rfl, h.symm⟩
        · exact .inr ⟨e', .inr h1, h2⟩
      · rintro (h | ⟨e', h1 | h1, h2⟩)
        · exact .inl (.inl h)
        · subst h1; exact .inl (.inr h2.2.symm)
        · exact .inr ⟨e', h1, h2⟩
    · rw [ixs_ne h]
      constructor
      · rintro (h1 | ⟨e', h1, h2⟩)
        · exact .inl h1
        · exact .inr ⟨e', List.mem_cons_of_mem _ h1, h2⟩
      · rintro (h1 | ⟨e', h1, h2⟩)
        · exact .inl h1
        · rcases List.mem_cons.1 h1 with rfl | h1
          · exact absurd h2.1.symm h
          · exact .inr ⟨e', h1, h2⟩
theorem nearL_eq {l : List Ed} {N m i : Nat} (hv : ∀ e ∈ l, inE N m e = true) (hi : i < N) : nearL l N m i = nearT (tab l) m i := by
  have hbl := bags_len N l
  unfold nearL
  rw [srt_new _ hi (by omega)]
  refine asc_ext _ _ (cmp_asc _) ?_ fun x => ?_
  · unfold nearT
    rw [List.pairwise_map]
    exact (List.pairwise_lt_range.filter _).imp fun h => by simpa using h
  · rw [cmp_mem, bags, bags_mem N l _ i x (by simpa using hi), nearT_mem, ix_rep]
    simp only [List.not_mem_nil, false_or]
    constructor
    · rintro ⟨e, h1, h2, rfl⟩
      have := hv e h1
      simp only [inE, Bool.and_eq_true, decide_eq_true_eq] at this
      refine ⟨e.y.toNat, by omega, by omega, ?_⟩
      unfold tab
      rw [List.any_eq_true]
      exact ⟨e, h1, by simp [h2]⟩
    · rintro ⟨j, rfl, h1, h2⟩
      unfold tab at h2
      rw [List.any_eq_true] at h2
      obtain ⟨e, h3, h4⟩ := h2
      have := hv e h3
      simp only [inE, Bool.and_eq_true, decide_eq_true_eq] at this
      simp only [Bool.and_eq_true, beq_iff_eq] at h4
      exact ⟨e, h3, h4.1, by omega⟩
/-- The lists of neighbours. -/
def nbr (l : List Ed) (m i : Nat) : List Int := nearT (tab l) m i
theorem nbr_ok (l : List Ed) (N m : Nat) (hm : m ≤ 1000000) : Nbr N m (nbr l m) := ⟨fun i x hx => by
  obtain ⟨j, rfl, h1, _⟩ := nearT_mem.1 hx
  omega, fun i => by
  unfold nbr nearT
  have := List.length_filter_le (tab l i) (List.range m)
  simp at this ⊢
  omega⟩
theorem lists_sp (l : List Ed) (N m c : Nat) (hN : N ≤ 1000) (hl : l.length ≤ 100000) (hv : ∀ e ∈ l, inE N m e = true) : Sp Try.prog 51 [.v (.int .i64 N), .s 0 0 0 l.length c 2] [rEd l] (fun r H => ∃ cp, r = .s 1 0 0 N N 1 ∧ H = [rEd l, oNe 2 N (nbr l m) cp, oNf N (nbr l m)]) := by
  refine sp_weak ((lists1_sp l N m c hN hl hv).mono ?_)
  rintro _ _ ⟨cp, rfl, rfl⟩
  refine ⟨_, _, [0, 1, 2], ?_, by kernel_rfl, ?_, cp, rfl, rfl⟩
  · simp only [push_cast, ↓branch_true, ↓branch_false, Nat.reduceBEq, Nat.reduceAdd, Nat.reduceMul, Nat.reduceSub, Int.reduceToNat, reduceCtorEq, branch_decide, branch_not, branch_beq, branch_bne, Int.reduceAdd, Int.reduceEq, Int.reduceLE, Int.reduceLT, Nat.reduceLT, Nat.reduceLeDiff, false_imp_iff, true_imp_iff]
  · simp only [push_cast, ↓branch_true, ↓branch_false, Nat.reduceBEq, Nat.reduceAdd, Nat.reduceMul, Nat.reduceSub, Int.reduceToNat, reduceCtorEq, branch_decide, branch_not, branch_beq, branch_bne, Int.reduceAdd, Int.reduceEq, Int.reduceLE, Int.reduceLT, Nat.reduceLT, Nat.reduceLeDiff, false_imp_iff, true_imp_iff]
    refine ⟨fun _ _ k hk => by rw [nearL_eq hv hk]; rfl, fun i hi => ?_⟩
    rw [nearL_eq hv hi]
    exact ⟨Nat.le_refl _, fun _ _ => rfl⟩
end Go.Proofs.Ytmmabnoemckdiaa
