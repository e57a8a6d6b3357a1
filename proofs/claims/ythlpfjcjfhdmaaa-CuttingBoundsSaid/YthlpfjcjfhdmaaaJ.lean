/- Contracts: the reference's longest and kind; plain facts on the order of the pieces. -/
import Derived.Test.YthlpfjcjfhdmaaaH
set_option maxRecDepth 100000
set_option linter.unusedSimpArgs false
set_option linter.unusedVariables false
namespace Go.Proofs.Ythlpfjcjfhdmaaa
open Go.RowKit
theorem pieces_pu (l : List Pc) (c : Nat) (ho : orderB l = true) : Pu Try.prog 19 [.s 0 0 0 l.length c 2] [rPc l] (.v (.int .i64 (cntL l))) := by
  have hlen := order_len ho
  refine pu_of_ex true [] mixed Try.call19 Try.func19 rfl Try.ntmps19 Try.results19 (by decide +kernel) rfl rfl rfl ?_
  simp only [push_cast, ↓branch_true, ↓branch_false, Nat.reduceBEq, Nat.reduceAdd, Nat.reduceMul, Nat.reduceSub, Int.reduceToNat, reduceCtorEq, branch_decide, branch_not, branch_beq, branch_bne]
  refine tr_loop0 mixed (by kernel_rfl) (fun (k : Nat) => [(4, .v (.int .i64 k)), (3, .v (.int .i64 (cntT l k))), (0, .s 0 0 0 l.length c 2)]) (fun k => k ≤ l.length) (fun k => l.length - k) 0 (Nat.zero_le _) ?_ ?_
  · simp only [push_cast, ↓branch_true, ↓branch_false, Nat.reduceBEq, Nat.reduceAdd, Nat.reduceMul, Nat.reduceSub, Int.reduceToNat, reduceCtorEq, branch_decide, branch_not, branch_beq, branch_bne]
    rfl
  intro k hk
  have hr := cntT_range ho k hk
  simp only [push_cast, ↓branch_true, ↓branch_false, Nat.reduceBEq, Nat.reduceAdd, Nat.reduceMul, Nat.reduceSub, Int.reduceToNat, reduceCtorEq, branch_decide, branch_not, branch_beq, branch_bne]
  refine ⟨fun h => ?_, fun h => ?_⟩
  · have h2 := order_at ho (k := k) (by omega)
    have e1 := cntT_succ (l := l) (k := k) (by omega)
    repeat (with_reducible refine And.intro (by omega) ?_)
    refine lp0_normal (k + 1) (by omega) (by omega) ?_
    simp only [push_cast, ↓branch_true, ↓branch_false, Nat.reduceBEq, Nat.reduceAdd, Nat.reduceMul, Nat.reduceSub, Int.reduceToNat, reduceCtorEq, branch_decide, branch_not, branch_beq, branch_bne, e1]
  · obtain rfl : k = l.length := by omega
    rfl
theorem rkind_pu (s : List Pc) (u : List Int) (n : Int) (c c2 : Nat) (hs : s.length ≤ 10) (hu : u.length = s.length) : Pu Try.prog 55 [.s 0 0 0 s.length c 2, .s 1 0 0 u.length c2 1, .v (.int .i64 n)] [rSt s, rInt 3 u] (.v (.int .i64 (kindT s u n s.length))) := by
  refine pu_of_ex true [] mixed Try.call55 Try.func55 rfl Try.ntmps55 Try.results55 (by decide +kernel) rfl rfl rfl ?_
  simp only [push_cast, ↓branch_true, ↓branch_false, Nat.reduceBEq, Nat.reduceAdd, Nat.reduceMul, Nat.reduceSub, Int.reduceToNat, reduceCtorEq, branch_decide, branch_not, branch_beq, branch_bne]
  refine tr_loop0 mixed (by kernel_rfl) (fun (j : Nat) => [(8, .v (.int .i64 j)), (7, .v (.int .i64 (kindT s u n j))), (0, .s 0 0 0 s.length c 2), (1, .s 1 0 0 u.length c2 1), (2, .v (.int .i64 n))]) (fun j => j ≤ s.length) (fun j => s.length - j) 0 (Nat.zero_le _) ?_ ?_
  · simp only [push_cast, ↓branch_true, ↓branch_false, Nat.reduceBEq, Nat.reduceAdd, Nat.reduceMul, Nat.reduceSub, Int.reduceToNat, reduceCtorEq, branch_decide, branch_not, branch_beq, branch_bne]
    rfl
  intro j hj
  have hkr := kindT_range s u n j
  simp only [push_cast, ↓branch_true, ↓branch_false, Nat.reduceBEq, Nat.reduceAdd, Nat.reduceMul, Nat.reduceSub, Int.reduceToNat, reduceCtorEq, branch_decide, branch_not, branch_beq, branch_bne]
  refine ⟨fun h => ?_, fun h => ?_⟩
  · repeat (with_reducible refine And.intro (by omega) ?_)
    have e1 : kindT s u n (j + 1) = if n ≤ (ix s j).len ∧ ((ix s j).cnt < 0 ∨ ix u j < (ix s j).cnt) ∧ (kindT s u n j < 0 ∨ (ix s j).len < (ix s (kindT s u n j).toNat).len) then (j : Int) else kindT s u n j := rfl
    repeat' (with_reducible (first | apply And.intro | intro _))
    all_goals try omega
    all_goals first
      | (have e2 : kindT s u n (j + 1) = j := by rw [e1, if_pos (by omega)]
         refine lp0_normal (j + 1) (by omega) (by omega) ?_
         simp only [push_cast, ↓branch_true, ↓branch_false, Nat.reduceBEq, Nat.reduceAdd, Nat.reduceMul, Nat.reduceSub, Int.reduceToNat, reduceCtorEq, branch_decide, branch_not, branch_beq, branch_bne, e2]
         )
      | (have e2 : kindT s u n (j + 1) = kindT s u n j := by rw [e1, if_neg (by omega)]
         refine lp0_normal (j + 1) (by omega) (by omega) ?_
         simp only [push_cast, ↓branch_true, ↓branch_false, Nat.reduceBEq, Nat.reduceAdd, Nat.reduceMul, Nat.reduceSub, Int.reduceToNat, reduceCtorEq, branch_decide, branch_not, branch_beq, branch_bne, e2]
         )
  · obtain rfl : j = s.length := by omega
    rfl
/-- The line of the longest pieces of which some are left, of the first ones. -/
def rlT (l : List Pc) (f : List Int) : Nat → Int
  | 0 => -1
  | j + 1 => if 0 < ix f j ∧ (rlT l f j < 0 ∨ (ix l (rlT l f j).toNat).len < (ix l j).len) then (j : Int) else rlT l f j
theorem rlT_range (l : List Pc) (f : List Int) : ∀ j, -1 ≤ rlT l f j ∧ rlT l f j < j
  | 0 => by simp [rlT]
  | j + 1 => by
    have ih := rlT_range l f j
    unfold rlT
    split <;> omega
theorem rlong_pu (l : List Pc) (f : List Int) (c c2 : Nat) (hl : l.length ≤ 200) (hf : f.length = l.length) : Pu Try.prog 54 [.s 0 0 0 l.length c 2, .s 1 0 0 f.length c2 1] [rPc l, rInt 3 f] (.v (.int .i64 (rlT l f l.length))) := by
  refine pu_of_ex true [] mixed Try.call54 Try.func54 rfl Try.ntmps54 Try.results54 (by decide +kernel) rfl rfl rfl ?_
  simp only [push_cast, ↓branch_true, ↓branch_false, Nat.reduceBEq, Nat.reduceAdd, Nat.reduceMul, Nat.reduceSub, Int.reduceToNat, reduceCtorEq, branch_decide, branch_not, branch_beq, branch_bne]
  refine tr_loop0 mixed (by kernel_rfl) (fun (j : Nat) => [(6, .v (.int .i64 j)), (5, .v (.int .i64 (rlT l f j))), (0, .s 0 0 0 l.length c 2), (1, .s 1 0 0 f.length c2 1)]) (fun j => j ≤ l.length) (fun j => l.length - j) 0 (Nat.zero_le _) ?_ ?_
  · simp only [push_cast, ↓branch_true, ↓branch_false, Nat.reduceBEq, Nat.reduceAdd, Nat.reduceMul, Nat.reduceSub, Int.reduceToNat, reduceCtorEq, branch_decide, branch_not, branch_beq, branch_bne]
    rfl
  intro j hj
  have hkr := rlT_range l f j
  simp only [push_cast, ↓branch_true, ↓branch_false, Nat.reduceBEq, Nat.reduceAdd, Nat.reduceMul, Nat.reduceSub, Int.reduceToNat, reduceCtorEq, branch_decide, branch_not, branch_beq, branch_bne]
  refine ⟨fun h => ?_, fun h => ?_⟩
  · repeat (with_reducible refine And.intro (by omega) ?_)
    have e1 : rlT l f (j + 1) = if 0 < ix f j ∧ (rlT l f j < 0 ∨ (ix l (rlT l f j).toNat).len < (ix l j).len) then (j : Int) else rlT l f j := rfl
    repeat' (with_reducible (first | apply And.intro | intro _))
    all_goals try omega
    all_goals first
      | (have e2 : rlT l f (j + 1) = j := by rw [e1, if_pos (by omega)]
         refine lp0_normal (j + 1) (by omega) (by omega) ?_
         simp only [push_cast, ↓branch_true, ↓branch_false, Nat.reduceBEq, Nat.reduceAdd, Nat.reduceMul, Nat.reduceSub, Int.reduceToNat, reduceCtorEq, branch_decide, branch_not, branch_beq, branch_bne, e2]
         )
      | (have e2 : rlT l f (j + 1) = rlT l f j := by rw [e1, if_neg (by omega)]
         refine lp0_normal (j + 1) (by omega) (by omega) ?_
         simp only [push_cast, ↓branch_true, ↓branch_false, Nat.reduceBEq, Nat.reduceAdd, Nat.reduceMul, Nat.reduceSub, Int.reduceToNat, reduceCtorEq, branch_decide, branch_not, branch_beq, branch_bne, e2]
         )
  · obtain rfl : j = l.length := by omega
    rfl
theorem rlT_spec {l : List Pc} (hl : l.length ≤ 200) (f : List Int) : ∀ j, j ≤ l.length → (rlT l f j = -1 ∧ ∀ i, i < j → ix f i ≤ 0) ∨ (0 ≤ rlT l f j ∧ 0 < ix f (rlT l f j).toNat ∧ ∀ i : Nat, i < j → 0 < ix f i → KH l (rlT l f j) ≤ KH l i)
  | 0, _ => .inl ⟨rfl, fun i hi => by omega⟩
  | j + 1, hj => by
    have hr := rlT_range l f j
    have ih := rlT_spec hl f j (by omega)
    have e1 : rlT l f (j + 1) = if 0 < ix f j ∧ (rlT l f j < 0 ∨ (ix l (rlT l f j).toNat).len < (ix l j).len) then (j : Int) else rlT l f j := rfl
    rw [e1]
    split
    · rename_i h
      refine .inr ⟨by omega, by rw [Int.toNat_natCast]; exact h.1, fun i hi h0 => ?_⟩
      by_cases e : i = j
      · rw [e]; exact Int.le_refl _
      rcases ih with ⟨h1, h2⟩ | ⟨h1, h2, h3⟩
      · have := h2 i (by omega); omega
      · have h4 := h3 i (by omega) h0
        have h5 := h.2.resolve_left (by omega)
        simp only [KH, Int.toNat_natCast] at h4 ⊢
        omega
    · rename_i h
      rcases ih with ⟨h1, h2⟩ | ⟨h1, h2, h3⟩
      · refine .inl ⟨h1, fun i hi => ?_⟩
        by_cases e : i = j
        · subst e; omega
        · exact h2 i (by omega)
      · refine .inr ⟨h1, h2, fun i hi h0 => ?_⟩
        by_cases e : i = j
        · subst e
          have : ¬ (ix l (rlT l f i).toNat).len < (ix l i).len := fun h5 => h ⟨h0, .inr h5⟩
          simp only [KH, Int.toNat_natCast]
          omega
        · exact h3 i (by omega) h0
theorem rep_count {l : List Pc} (i : Int) : ∀ {x : List Int}, x.Nodup → (repF l x).count i = if i ∈ x then (ix l i.toNat).cnt.toNat else 0
  | [], _ => by simp [repF]
  | j :: x, h => by
    rw [List.nodup_cons] at h
    have ih := rep_count (l := l) i h.2
    have e : repF l (j :: x) = List.replicate (ix l j.toNat).cnt.toNat j ++ repF l x := rfl
    rw [e, List.count_append, ih, List.count_replicate]
    by_cases e2 : i = j
    · subst e2
      simp [h.1]
    · have : (j == i) = false := by simp; exact fun e => e2 e.symm
      simp [this, e2]
theorem rng_nodup (n : Nat) : (rng n).Nodup := by
  unfold rng
  exact List.Pairwise.map _ (fun a b h e => h (by omega)) List.nodup_range
theorem long_count {l : List Pc} {i : Nat} (hi : i < l.length) : (longL l).count (i : Int) = (ix l i).cnt.toNat := by
  unfold longL lnO
  rw [rep_count _ ((sortK_perm _ _).nodup_iff.2 (rng_nodup _)), if_pos]
  · rw [Int.toNat_natCast]
  · refine (sortK_perm _ _).mem_iff.2 ?_
    unfold rng
    exact List.mem_map.2 ⟨i, List.mem_range.2 hi, rfl⟩
theorem rep_up {l : List Pc} : ∀ {x : List Int}, x.Pairwise (fun a b => KH l a ≤ KH l b) → (repF l x).Pairwise fun a b => KH l a ≤ KH l b
  | [], _ => by simp [repF]
  | j :: x, h => by
    rw [List.pairwise_cons] at h
    have e : repF l (j :: x) = List.replicate (ix l j.toNat).cnt.toNat j ++ repF l x := rfl
    rw [e, List.pairwise_append]
    refine ⟨?_, rep_up h.2, fun a ha b hb => ?_⟩
    · rw [List.pairwise_replicate]; exact .inr (Int.le_refl _)
    · rw [List.eq_of_mem_replicate ha]
      obtain ⟨c, hc, hb⟩ := List.mem_flatMap.1 hb
      rw [List.eq_of_mem_replicate hb]
      exact h.1 c hc
theorem long_up (l : List Pc) : (longL l).Pairwise fun a b => KH l a ≤ KH l b := rep_up (sortK_up (KH l) (rng l.length))
/-- The line of the next piece. -/
def headZ (l : List Pc) (k : Nat) : Int := if k < (longL l).length then ix (longL l) k else -1
def LeftIs (l : List Pc) (k : Nat) (f : List Int) : Prop := f.length = l.length ∧ ∀ i : Nat, i < l.length → ix f i = (((longL l).drop k).count (i : Int) : Nat)
theorem rl_head {l : List Pc} (hl : l.length ≤ 200) {k : Nat} {f : List Int} (h : LeftIs l k f) : rlT l f l.length = headZ l k := by
  have hs := rlT_spec hl f l.length (Nat.le_refl _)
  have hr := rlT_range l f l.length
  unfold headZ
  split
  · rename_i hk
    have hm := longL_mem (ix_mem hk)
    have hd := drop_ix hk
    have h1 : 0 < ix f (ix (longL l) k).toNat := by
      rw [h.2 _ (by omega), Int.toNat_of_nonneg hm.1, hd, List.count_cons_self]; omega
    rcases hs with ⟨_, h2⟩ | ⟨h2, h3, h4⟩
    · have := h2 _ (show (ix (longL l) k).toNat < l.length by omega)
      omega
    · have h5 := h4 _ (show (ix (longL l) k).toNat < l.length by omega) h1
      rw [Int.toNat_of_nonneg hm.1] at h5
      rw [h.2 _ (by omega), Int.toNat_of_nonneg h2] at h3
      have h6 : rlT l f l.length ∈ (longL l).drop k := List.count_pos_iff.1 (by omega)
      have hp := (long_up l).drop (i := k)
      rw [hd, List.pairwise_cons] at hp
      refine kH_inj (l := l) (by omega) ⟨h2, by omega⟩ ⟨hm.1, hm.2⟩ (Int.le_antisymm h5 ?_)
      rw [hd] at h6
      rcases List.mem_cons.1 h6 with h6 | h6
      · rw [h6]; exact Int.le_refl _
      · exact hp.1 _ h6
  · rename_i hk
    rcases hs with ⟨h2, _⟩ | ⟨h2, h3, h4⟩
    · exact h2
    · rw [h.2 _ (by omega), List.drop_eq_nil_of_le (by omega), List.count_nil] at h3
      omega
theorem left_next {l : List Pc} {k : Nat} {f : List Int} (h : LeftIs l k f) (hk : k < (longL l).length) : LeftIs l (k + 1) (f.set (ix (longL l) k).toNat (ix f (ix (longL l) k).toNat - 1)) := by
  have hm := longL_mem (ix_mem hk)
  refine ⟨by rw [List.length_set]; exact h.1, fun i hi => ?_⟩
  have h1 := h.2 i hi
  rw [drop_ix hk, List.count_cons] at h1
  by_cases e : i = (ix (longL l) k).toNat
  · subst e
    rw [ix_set_self (by rw [h.1]; exact hi), h1]
    rw [Int.toNat_of_nonneg hm.1]
    simp
  · rw [ix_set_ne e, h1]
    have : (ix (longL l) k == (i : Int)) = false := by simp; omega
    rw [this]; simp
theorem fitAt_eq {n : Int} {o : List Br} {j : Nat} (hj : j ≤ o.length) (h1 : ∀ q, q < j → (ix o q).left < n) (h2 : j < o.length → n ≤ (ix o j).left) : fitAt n o = j := by
  have h3 := fitAt_le n o
  rcases Nat.lt_trichotomy (fitAt n o) j with h | h | h
  · have := fitAt_fits (n := n) (o := o) (by omega)
    have := h1 _ h
    omega
  · exact h
  · have := fitAt_no h (by omega)
    have := h2 (by omega)
    omega
end Go.Proofs.Ythlpfjcjfhdmaaa
