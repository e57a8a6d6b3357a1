/- Contracts: slices.Delete; open. -/
import Derived.Test.YtmmabnoemckdiaaH
set_option maxRecDepth 100000
set_option linter.unusedSimpArgs false
set_option linter.unusedVariables false
namespace Go.Proofs.Ytmmabnoemckdiaa
open Go.RowKit Bip
theorem erase_ix {l : List Int} {i k : Nat} (hk : k + 1 < l.length ∨ (k < i ∧ k < l.length)) (hi : i < l.length) : ix (l.eraseIdx i) k = if k < i then ix l k else ix l (k + 1) := by
  have hl : (l.eraseIdx i).length = l.length - 1 := List.length_eraseIdx_of_lt hi
  rw [ix_eq (by omega), List.getElem_eraseIdx]
  by_cases h : k < i
  · rw [dif_pos h, if_pos h, ix_eq]
  · rw [dif_neg h, if_neg h, ix_eq (by omega)]
set_option maxHeartbeats 4000000 in
theorem delete_sp (l : List Int) (c i : Nat) (hi : i < l.length) (hl : l.length ≤ 100000) (hc : l.length ≤ c) :
    Sp Try.prog 73 [.s 0 0 0 l.length c 1, .v (.int .i64 i), .v (.int .i64 (i + 1))] [rIO l c] (fun r H => r = .s 0 0 0 (l.length - 1) c 1 ∧ H = [rIO (l.eraseIdx i) c]) := by
  have hel : (l.eraseIdx i).length = l.length - 1 := List.length_eraseIdx_of_lt hi
  refine sp_weak ?_
  refine sp_of_exa true true [] mixed Try.call73 Try.func73 rfl Try.ntmps73 Try.results73 (by decide +kernel) rfl ?_
  simp only [push_cast, ↓branch_true, ↓branch_false, Nat.reduceBEq, Nat.reduceAdd, Nat.reduceMul, Nat.reduceSub, Int.reduceToNat, reduceCtorEq, branch_decide, branch_not, branch_beq, branch_bne, Int.reduceAdd, Int.reduceEq, Int.reduceLE, Int.reduceLT, Nat.reduceLT, Nat.reduceLeDiff, false_imp_iff, true_imp_iff]
  repeat (with_reducible refine And.intro (by omega) ?_)
  have e1 : ((i : Int) + 1).toNat = i + 1 := by omega
  rw [e1]
  intro _
  repeat (with_reducible refine And.intro (by omega) ?_)
  refine ⟨src_ints _ _, appZ_of (fun h => ?_) fun h => ?_⟩
  · repeat (with_reducible refine And.intro (by omega) ?_)
    refine ⟨_, _, [0], ?_, by kernel_rfl, ?_, rfl, rfl⟩
    · simp only [push_cast, ↓branch_true, ↓branch_false, Nat.reduceBEq, Nat.reduceAdd, Nat.reduceMul, Nat.reduceSub, Int.reduceToNat, reduceCtorEq, branch_decide, branch_not, branch_beq, branch_bne, Int.reduceAdd, Int.reduceEq, Int.reduceLE, Int.reduceLT, Nat.reduceLT, Nat.reduceLeDiff, false_imp_iff, true_imp_iff]
      omega
    · simp only [push_cast, ↓branch_true, ↓branch_false, Nat.reduceBEq, Nat.reduceAdd, Nat.reduceMul, Nat.reduceSub, Int.reduceToNat, reduceCtorEq, branch_decide, branch_not, branch_beq, branch_bne, Int.reduceAdd, Int.reduceEq, Int.reduceLE, Int.reduceLT, Nat.reduceLT, Nat.reduceLeDiff, false_imp_iff, true_imp_iff]
      intro i9 hi9
      rw [hel]
      refine ⟨by omega, fun k hk => ?_⟩
      obtain rfl : i9 = 0 := by omega
      have hk2 : k < i := by omega
      have hb : (decide (i - 0 ≤ k) && decide (k < i - 0 + (l.length - (i - 0)))) = false := by simp; omega
      rw [hb, erase_ix (by omega) hi, if_pos hk2]
      simp only [push_cast, ↓branch_true, ↓branch_false, Nat.reduceBEq, Nat.reduceAdd, Nat.reduceMul, Nat.reduceSub, Int.reduceToNat, reduceCtorEq, branch_decide, branch_not, branch_beq, branch_bne, Int.reduceAdd, Int.reduceEq, Int.reduceLE, Int.reduceLT, Nat.reduceLT, Nat.reduceLeDiff, false_imp_iff, true_imp_iff]
      try trivial
  · refine Or.inr (Or.inr (Or.inl ⟨fun h1 => ?_, fun h1 => by omega⟩))
    repeat (with_reducible refine And.intro (by omega) ?_)
    refine ⟨_, _, [0], ?_, by kernel_rfl, ?_, rfl, rfl⟩
    · simp only [push_cast, ↓branch_true, ↓branch_false, Nat.reduceBEq, Nat.reduceAdd, Nat.reduceMul, Nat.reduceSub, Int.reduceToNat, reduceCtorEq, branch_decide, branch_not, branch_beq, branch_bne, Int.reduceAdd, Int.reduceEq, Int.reduceLE, Int.reduceLT, Nat.reduceLT, Nat.reduceLeDiff, false_imp_iff, true_imp_iff]
      omega
    · simp only [push_cast, ↓branch_true, ↓branch_false, Nat.reduceBEq, Nat.reduceAdd, Nat.reduceMul, Nat.reduceSub, Int.reduceToNat, reduceCtorEq, branch_decide, branch_not, branch_beq, branch_bne, Int.reduceAdd, Int.reduceEq, Int.reduceLE, Int.reduceLT, Nat.reduceLT, Nat.reduceLeDiff, false_imp_iff, true_imp_iff]
      intro i9 hi9
      obtain rfl : i9 = 0 := by omega
      rw [hel]
      refine ⟨by simp; omega, fun k hk => ?_⟩
      have hb : (decide ((((i - 0 : Nat) : Int) + ((l.length - (i + 1) : Nat) : Int)).toNat ≤ k) && decide (k < (((i - 0 : Nat) : Int) + ((l.length - (i + 1) : Nat) : Int)).toNat + (l.length - (((i - 0 : Nat) : Int) + ((l.length - (i + 1) : Nat) : Int)).toNat))) = false := by simp; omega
      rw [hb, Bool.and_false, mrgL_no]
      simp only [beq_self_eq_true, cond_true]
      rw [appF_val (sz := 1) (fun k _ => rfl) (by omega) (by omega) (fun _ => rfl), erase_ix (by omega) hi]
      by_cases hk2 : k < i
      · rw [if_pos hk2, if_pos (by omega)]
        simp only [push_cast, ↓branch_true, ↓branch_false, Nat.reduceBEq, Nat.reduceAdd, Nat.reduceMul, Nat.reduceSub, Int.reduceToNat, reduceCtorEq, branch_decide, branch_not, branch_beq, branch_bne, Int.reduceAdd, Int.reduceEq, Int.reduceLE, Int.reduceLT, Nat.reduceLT, Nat.reduceLeDiff, false_imp_iff, true_imp_iff]
        try trivial
      · rw [if_neg hk2, if_neg (by omega), show i + 1 + (k - (i - 0)) = k + 1 by omega]
        simp only [push_cast, ↓branch_true, ↓branch_false, Nat.reduceBEq, Nat.reduceAdd, Nat.reduceMul, Nat.reduceSub, Int.reduceToNat, reduceCtorEq, branch_decide, branch_not, branch_beq, branch_bne, Int.reduceAdd, Int.reduceEq, Int.reduceLE, Int.reduceLT, Nat.reduceLT, Nat.reduceLeDiff, false_imp_iff, true_imp_iff]
        try trivial
theorem map_erase {α β : Type} (f : α → β) : ∀ (l : List α) (i : Nat), (l.eraseIdx i).map f = (l.map f).eraseIdx i
  | [], _ => rfl
  | _ :: _, 0 => rfl
  | x :: l, i + 1 => by simp [map_erase f l i]
theorem erase_mem {N i a : Nat} (hi : i < N) : a ∈ lftN ((allL N).eraseIdx i) ↔ a < N ∧ a ≠ i := by
  rw [lftN, map_erase, ← lftN, lftN_all, List.mem_eraseIdx_iff_getElem]
  constructor
  · rintro ⟨q, h1, h2, rfl⟩
    simp at h1 ⊢
    omega
  · rintro ⟨h1, h2⟩
    exact ⟨a, by simpa using h1, h2, by simp⟩
theorem size_erase {l : List Ed} {N m i : Nat} (hi : i < N) : szOf (nbr l m) m (fun _ => false) (lftN ((allL N).eraseIdx i)) = nuT N m (delL (tab l) i) := by
  unfold nbr
  rw [size_eq (n := N) (fun a ha => ((erase_mem hi).1 ha).1) (by rw [lftN, map_erase, ← lftN, lftN_all]; exact List.nodup_range.sublist (List.eraseIdx_sublist _ _))]
  refine nuT_congr fun a b ha _ => ?_
  unfold delL
  have : (lftN ((allL N).eraseIdx i)).contains a = !(a == i) := by
    rw [Bool.eq_iff_iff, List.contains_iff_mem, erase_mem hi]
    simp [ha]
  rw [this]
  cases tab l a b <;> cases (a == i) <;> rfl
/-- The right nodes that are marked when so many left ones have been looked at. -/
def rgtK (N m : Nat) (E : Nat → Nat → Bool) (k j : Nat) : Bool := (List.range k).any fun i => opn N m E i && E i j
theorem rgtK_succ (N m : Nat) (E : Nat → Nat → Bool) (k j : Nat) : rgtK N m E (k + 1) j = (rgtK N m E k j || (opn N m E k && E k j)) := by
  unfold rgtK
  rw [List.range_succ, List.any_append]
  simp
def opnK (N m : Nat) (E : Nat → Nat → Bool) (k i : Nat) : Bool := decide (i < k) && opn N m E i
theorem opnK_succ (N m : Nat) (E : Nat → Nat → Bool) (k i : Nat) : opnK N m E (k + 1) i = bif i == k then opn N m E k else opnK N m E k i := by
  unfold opnK
  by_cases e : i = k
  · subst e; simp
  · have : (i == k) = false := by simpa using e
    rw [this, cond_false]
    congr 1
    rw [decide_eq_decide]
    omega
/-- Marks at a list of places. -/
def mkL (f : Nat → Bool) (l : List Int) (j : Nat) : Bool := f j || l.any fun x => x.toNat == j
theorem mkL_snoc (f : Nat → Bool) (l : List Int) (x : Int) (j : Nat) : mkL f (l ++ [x]) j = bif j == x.toNat then true else mkL f l j := by
  unfold mkL
  rw [List.any_append]
  by_cases e : j = x.toNat
  · subst e; simp
  · have h1 : (j == x.toNat) = false := by simpa using e
    have h2 : (x.toNat == j) = false := by simpa using fun h => e h.symm
    simp [h1, h2]
theorem mkL_nbr {l : List Ed} {f : Nat → Bool} {m i j : Nat} (hj : j < m) : mkL f (nbr l m i) j = (f j || tab l i j) := by
  unfold mkL nbr
  rw [nearT_any hj]
set_option maxHeartbeats 4000000 in
theorem open_sp (l : List Ed) (N M c : Nat) (hN : N ≤ 60) (hM : M ≤ 60) (hl2 : l.length ≤ 1000) (hve : ∀ e ∈ l, inE N M e = true) : Sp Try.prog 58 [.v (.int .i64 N), .v (.int .i64 M), .s 0 0 0 l.length c 2] [rEd l]
    (fun r H => r = .t [.s 1 0 0 N N 1, .s 2 0 0 M M 1] ∧ H = [rEd l, oB N N (opn N M (tab l)), oB M M (rgt N M (tab l))]) := by
  refine sp_weak ?_
  refine sp_of_ex true [(1, .one 0 (.one 1 (.one 3 (.alt [(2, .one 5 (.one 4 (.one 6 .fin))), (4, .one 2 (.one 5 (.one 6 .fin)))])))), (3, .jn (.one 0 (.one 2 (.alt [(1, .one 4 (.one 3 (.one 5 .fin))), (3, .one 1 (.one 4 (.one 5 .fin)))]))))] mixed Try.call58 Try.func58 rfl Try.ntmps58 Try.results58 (by decide +kernel) rfl ?_
  simp only [push_cast, ↓branch_true, ↓branch_false, Nat.reduceBEq, Nat.reduceAdd, Nat.reduceMul, Nat.reduceSub, Int.reduceToNat, reduceCtorEq, branch_decide, branch_not, branch_beq, branch_bne, Int.reduceAdd, Int.reduceEq, Int.reduceLE, Int.reduceLT, Nat.reduceLT, Nat.reduceLeDiff, false_imp_iff, true_imp_iff]
  apply both (α := Nat → Nat)
  case h1 =>
    intro key
    refine sp_at (lists_sp l N M c (by omega) (by omega) hve) [0] rfl ?_ ?_ ?_
    · simp only [push_cast, ↓branch_true, ↓branch_false, Nat.reduceBEq, Nat.reduceAdd, Nat.reduceMul, Nat.reduceSub, Int.reduceToNat, reduceCtorEq, branch_decide, branch_not, branch_beq, branch_bne, Int.reduceAdd, Int.reduceEq, Int.reduceLE, Int.reduceLT, Nat.reduceLT, Nat.reduceLeDiff, false_imp_iff, true_imp_iff]
      try trivial
    · simp only [push_cast, ↓branch_true, ↓branch_false, Nat.reduceBEq, Nat.reduceAdd, Nat.reduceMul, Nat.reduceSub, Int.reduceToNat, reduceCtorEq, branch_decide, branch_not, branch_beq, branch_bne, Int.reduceAdd, Int.reduceEq, Int.reduceLE, Int.reduceLT, Nat.reduceLT, Nat.reduceLeDiff, false_imp_iff, true_imp_iff]
      try trivial
    rintro _ _ ⟨cp, rfl, rfl⟩
    simp only [push_cast, ↓branch_true, ↓branch_false, Nat.reduceBEq, Nat.reduceAdd, Nat.reduceMul, Nat.reduceSub, Int.reduceToNat, reduceCtorEq, branch_decide, branch_not, branch_beq, branch_bne, Int.reduceAdd, Int.reduceEq, Int.reduceLE, Int.reduceLT, Nat.reduceLT, Nat.reduceLeDiff, false_imp_iff, true_imp_iff]
    repeat (with_reducible refine And.intro (by omega) ?_)
    refine sp_at (all_sp N (by omega)) [] rfl ?_ ?_ ?_
    · simp only [push_cast, ↓branch_true, ↓branch_false, Nat.reduceBEq, Nat.reduceAdd, Nat.reduceMul, Nat.reduceSub, Int.reduceToNat, reduceCtorEq, branch_decide, branch_not, branch_beq, branch_bne, Int.reduceAdd, Int.reduceEq, Int.reduceLE, Int.reduceLT, Nat.reduceLT, Nat.reduceLeDiff, false_imp_iff, true_imp_iff]
      try trivial
    · simp only [push_cast, ↓branch_true, ↓branch_false, Nat.reduceBEq, Nat.reduceAdd, Nat.reduceMul, Nat.reduceSub, Int.reduceToNat, reduceCtorEq, branch_decide, branch_not, branch_beq, branch_bne, Int.reduceAdd, Int.reduceEq, Int.reduceLE, Int.reduceLT, Nat.reduceLT, Nat.reduceLeDiff, false_imp_iff, true_imp_iff]
      try trivial
    rintro _ _ ⟨oc, hoc, rfl, rfl⟩
    simp only [push_cast, ↓branch_true, ↓branch_false, Nat.reduceBEq, Nat.reduceAdd, Nat.reduceMul, Nat.reduceSub, Int.reduceToNat, reduceCtorEq, branch_decide, branch_not, branch_beq, branch_bne, Int.reduceAdd, Int.reduceEq, Int.reduceLE, Int.reduceLT, Nat.reduceLT, Nat.reduceLeDiff, false_imp_iff, true_imp_iff]
    have hs := size_pu N oc M cp (fun _ => false) (allL N) (allL N) 0 (by simp) (by omega) (by omega : N ≤ 1000000) (by omega : M ≤ 1000000) (nbr_ok l N M (by omega)) (by rw [allL_len]; omega) (fun x hx => by
      obtain ⟨a, ha, rfl⟩ := List.mem_map.1 hx
      have := List.mem_range.1 ha
      omega) (Nat.le_refl M)
    rw [allL_len, lftN_all, size_all] at hs
    refine sp_call hs rfl [1, 2, 4, 3] rfl ?_ ?_ ?_
    · simp only [push_cast, ↓branch_true, ↓branch_false, Nat.reduceBEq, Nat.reduceAdd, Nat.reduceMul, Nat.reduceSub, Int.reduceToNat, reduceCtorEq, branch_decide, branch_not, branch_beq, branch_bne, Int.reduceAdd, Int.reduceEq, Int.reduceLE, Int.reduceLT, Nat.reduceLT, Nat.reduceLeDiff, false_imp_iff, true_imp_iff]
      try trivial
    · simp only [push_cast, ↓branch_true, ↓branch_false, Nat.reduceBEq, Nat.reduceAdd, Nat.reduceMul, Nat.reduceSub, Int.reduceToNat, reduceCtorEq, branch_decide, branch_not, branch_beq, branch_bne, Int.reduceAdd, Int.reduceEq, Int.reduceLE, Int.reduceLT, Nat.reduceLT, Nat.reduceLeDiff, false_imp_iff, true_imp_iff]
      try trivial
    simp only [push_cast, ↓branch_true, ↓branch_false, Nat.reduceBEq, Nat.reduceAdd, Nat.reduceMul, Nat.reduceSub, Int.reduceToNat, reduceCtorEq, branch_decide, branch_not, branch_beq, branch_bne, Int.reduceAdd, Int.reduceEq, Int.reduceLE, Int.reduceLT, Nat.reduceLT, Nat.reduceLeDiff, false_imp_iff, true_imp_iff]
    refine ⟨[(11, .s 4 0 0 N N 1), (12, .s 5 0 0 M M 1), (10, .v (.int .i64 (nuT N M (tab l) : Nat))), (9, .s 3 0 0 M M 1), (8, .s 1 0 0 N N 1), (0, .v (.int .i64 N))], [rEd l, oNe 2 N (nbr l M) cp, oNf N (nbr l M), oB M M (fun _ => false), oB N N (fun _ => false), oB M M (fun _ => false)], ?_, ?_⟩
    · repeat' (first | (with_reducible apply And.intro) | omega)
      all_goals first
        | omega
        | (refine Mt.wk (rl := [0, 1, 2, 3, 5, 6]) ⟨by kernel_rfl, ?_, ?_⟩
           · simp only [push_cast, ↓branch_true, ↓branch_false, Nat.reduceBEq, Nat.reduceAdd, Nat.reduceMul, Nat.reduceSub, Int.reduceToNat, reduceCtorEq, branch_decide, branch_not, branch_beq, branch_bne, Int.reduceAdd, Int.reduceEq, Int.reduceLE, Int.reduceLT, Nat.reduceLT, Nat.reduceLeDiff, false_imp_iff, true_imp_iff]
             try trivial
           · simp only [push_cast, ↓branch_true, ↓branch_false, Nat.reduceBEq, Nat.reduceAdd, Nat.reduceMul, Nat.reduceSub, Int.reduceToNat, reduceCtorEq, branch_decide, branch_not, branch_beq, branch_bne, Int.reduceAdd, Int.reduceEq, Int.reduceLE, Int.reduceLT, Nat.reduceLT, Nat.reduceLeDiff, false_imp_iff, true_imp_iff]
             try trivial
           )
        | (refine Mt.wk (rl := [0, 1, 2, 3, 6, 5]) ⟨by kernel_rfl, ?_, ?_⟩
           · simp only [push_cast, ↓branch_true, ↓branch_false, Nat.reduceBEq, Nat.reduceAdd, Nat.reduceMul, Nat.reduceSub, Int.reduceToNat, reduceCtorEq, branch_decide, branch_not, branch_beq, branch_bne, Int.reduceAdd, Int.reduceEq, Int.reduceLE, Int.reduceLT, Nat.reduceLT, Nat.reduceLeDiff, false_imp_iff, true_imp_iff]
             try trivial
           · simp only [push_cast, ↓branch_true, ↓branch_false, Nat.reduceBEq, Nat.reduceAdd, Nat.reduceMul, Nat.reduceSub, Int.reduceToNat, reduceCtorEq, branch_decide, branch_not, branch_beq, branch_bne, Int.reduceAdd, Int.reduceEq, Int.reduceLE, Int.reduceLT, Nat.reduceLT, Nat.reduceLeDiff, false_imp_iff, true_imp_iff]
             try trivial
           )
    simp only [push_cast, ↓branch_true, ↓branch_false, Nat.reduceBEq, Nat.reduceAdd, Nat.reduceMul, Nat.reduceSub, Int.reduceToNat, reduceCtorEq, branch_decide, branch_not, branch_beq, branch_bne, Int.reduceAdd, Int.reduceEq, Int.reduceLE, Int.reduceLT, Nat.reduceLT, Nat.reduceLeDiff, false_imp_iff, true_imp_iff, jnK]
    refine tr_mt (σ' := [(31, .v (.int .i64 0)), (30, .v (.int .i64 N)), (11, .s 4 0 0 N N 1), (12, .s 5 0 0 M M 1), (10, .v (.int .i64 (nuT N M (tab l) : Nat))), (9, .s 3 0 0 M M 1), (8, .s 1 0 0 N N 1), (0, .v (.int .i64 N))]) (H' := [rEd l, oNe 2 N (nbr l M) cp, oNf N (nbr l M), oB M M (fun _ => false), oB N N (fun _ => false), oB M M (fun _ => false)]) [0, 1, 2, 3, 4, 5] ⟨by kernel_rfl, ?_, ?_⟩ (key cp)
    · simp only [push_cast, ↓branch_true, ↓branch_false, Nat.reduceBEq, Nat.reduceAdd, Nat.reduceMul, Nat.reduceSub, Int.reduceToNat, reduceCtorEq, branch_decide, branch_not, branch_beq, branch_bne, Int.reduceAdd, Int.reduceEq, Int.reduceLE, Int.reduceLT, Nat.reduceLT, Nat.reduceLeDiff, false_imp_iff, true_imp_iff]
      try trivial
    · simp only [push_cast, ↓branch_true, ↓branch_false, Nat.reduceBEq, Nat.reduceAdd, Nat.reduceMul, Nat.reduceSub, Int.reduceToNat, reduceCtorEq, branch_decide, branch_not, branch_beq, branch_bne, Int.reduceAdd, Int.reduceEq, Int.reduceLE, Int.reduceLT, Nat.reduceLT, Nat.reduceLeDiff, false_imp_iff, true_imp_iff]
      try trivial
  case h2 =>
    intro key
    repeat (with_reducible refine And.intro (by omega) ?_)
    refine sp_at (lists_sp l N M c (by omega) (by omega) hve) [0] rfl ?_ ?_ ?_
    · simp only [push_cast, ↓branch_true, ↓branch_false, Nat.reduceBEq, Nat.reduceAdd, Nat.reduceMul, Nat.reduceSub, Int.reduceToNat, reduceCtorEq, branch_decide, branch_not, branch_beq, branch_bne, Int.reduceAdd, Int.reduceEq, Int.reduceLE, Int.reduceLT, Nat.reduceLT, Nat.reduceLeDiff, false_imp_iff, true_imp_iff]
      try trivial
    · simp only [push_cast, ↓branch_true, ↓branch_false, Nat.reduceBEq, Nat.reduceAdd, Nat.reduceMul, Nat.reduceSub, Int.reduceToNat, reduceCtorEq, branch_decide, branch_not, branch_beq, branch_bne, Int.reduceAdd, Int.reduceEq, Int.reduceLE, Int.reduceLT, Nat.reduceLT, Nat.reduceLeDiff, false_imp_iff, true_imp_iff]
      try trivial
    rintro _ _ ⟨cp, rfl, rfl⟩
    simp only [push_cast, ↓branch_true, ↓branch_false, Nat.reduceBEq, Nat.reduceAdd, Nat.reduceMul, Nat.reduceSub, Int.reduceToNat, reduceCtorEq, branch_decide, branch_not, branch_beq, branch_bne, Int.reduceAdd, Int.reduceEq, Int.reduceLE, Int.reduceLT, Nat.reduceLT, Nat.reduceLeDiff, false_imp_iff, true_imp_iff]
    repeat (with_reducible refine And.intro (by omega) ?_)
    refine sp_at (all_sp N (by omega)) [] rfl ?_ ?_ ?_
    · simp only [push_cast, ↓branch_true, ↓branch_false, Nat.reduceBEq, Nat.reduceAdd, Nat.reduceMul, Nat.reduceSub, Int.reduceToNat, reduceCtorEq, branch_decide, branch_not, branch_beq, branch_bne, Int.reduceAdd, Int.reduceEq, Int.reduceLE, Int.reduceLT, Nat.reduceLT, Nat.reduceLeDiff, false_imp_iff, true_imp_iff]
      try trivial
    · simp only [push_cast, ↓branch_true, ↓branch_false, Nat.reduceBEq, Nat.reduceAdd, Nat.reduceMul, Nat.reduceSub, Int.reduceToNat, reduceCtorEq, branch_decide, branch_not, branch_beq, branch_bne, Int.reduceAdd, Int.reduceEq, Int.reduceLE, Int.reduceLT, Nat.reduceLT, Nat.reduceLeDiff, false_imp_iff, true_imp_iff]
      try trivial
    rintro _ _ ⟨oc, hoc, rfl, rfl⟩
    simp only [push_cast, ↓branch_true, ↓branch_false, Nat.reduceBEq, Nat.reduceAdd, Nat.reduceMul, Nat.reduceSub, Int.reduceToNat, reduceCtorEq, branch_decide, branch_not, branch_beq, branch_bne, Int.reduceAdd, Int.reduceEq, Int.reduceLE, Int.reduceLT, Nat.reduceLT, Nat.reduceLeDiff, false_imp_iff, true_imp_iff]
    have hs := size_pu N oc M cp (fun _ => false) (allL N) (allL N) 0 (by simp) (by omega) (by omega : N ≤ 1000000) (by omega : M ≤ 1000000) (nbr_ok l N M (by omega)) (by rw [allL_len]; omega) (fun x hx => by
      obtain ⟨a, ha, rfl⟩ := List.mem_map.1 hx
      have := List.mem_range.1 ha
      omega) (Nat.le_refl M)
    rw [allL_len, lftN_all, size_all] at hs
    refine sp_call hs rfl [2, 3, 4, 1] rfl ?_ ?_ ?_
    · simp only [push_cast, ↓branch_true, ↓branch_false, Nat.reduceBEq, Nat.reduceAdd, Nat.reduceMul, Nat.reduceSub, Int.reduceToNat, reduceCtorEq, branch_decide, branch_not, branch_beq, branch_bne, Int.reduceAdd, Int.reduceEq, Int.reduceLE, Int.reduceLT, Nat.reduceLT, Nat.reduceLeDiff, false_imp_iff, true_imp_iff]
      try trivial
    · simp only [push_cast, ↓branch_true, ↓branch_false, Nat.reduceBEq, Nat.reduceAdd, Nat.reduceMul, Nat.reduceSub, Int.reduceToNat, reduceCtorEq, branch_decide, branch_not, branch_beq, branch_bne, Int.reduceAdd, Int.reduceEq, Int.reduceLE, Int.reduceLT, Nat.reduceLT, Nat.reduceLeDiff, false_imp_iff, true_imp_iff]
      try trivial
    simp only [push_cast, ↓branch_true, ↓branch_false, Nat.reduceBEq, Nat.reduceAdd, Nat.reduceMul, Nat.reduceSub, Int.reduceToNat, reduceCtorEq, branch_decide, branch_not, branch_beq, branch_bne, Int.reduceAdd, Int.reduceEq, Int.reduceLE, Int.reduceLT, Nat.reduceLT, Nat.reduceLeDiff, false_imp_iff, true_imp_iff]
    refine ⟨[(11, .s 4 0 0 N N 1), (12, .s 5 0 0 M M 1), (10, .v (.int .i64 (nuT N M (tab l) : Nat))), (9, .s 3 0 0 M M 1), (8, .s 1 0 0 N N 1), (0, .v (.int .i64 N))], [rEd l, oNe 2 N (nbr l M) cp, oNf N (nbr l M), oB M M (fun _ => false), oB N N (fun _ => false), oB M M (fun _ => false)], ?_, ?_⟩
    · repeat' (first | (with_reducible apply And.intro) | omega)
      all_goals first
        | omega
        | (refine Mt.wk (rl := [0, 2, 3, 1, 5, 6]) ⟨by kernel_rfl, ?_, ?_⟩
           · simp only [push_cast, ↓branch_true, ↓branch_false, Nat.reduceBEq, Nat.reduceAdd, Nat.reduceMul, Nat.reduceSub, Int.reduceToNat, reduceCtorEq, branch_decide, branch_not, branch_beq, branch_bne, Int.reduceAdd, Int.reduceEq, Int.reduceLE, Int.reduceLT, Nat.reduceLT, Nat.reduceLeDiff, false_imp_iff, true_imp_iff]
             try trivial
           · simp only [push_cast, ↓branch_true, ↓branch_false, Nat.reduceBEq, Nat.reduceAdd, Nat.reduceMul, Nat.reduceSub, Int.reduceToNat, reduceCtorEq, branch_decide, branch_not, branch_beq, branch_bne, Int.reduceAdd, Int.reduceEq, Int.reduceLE, Int.reduceLT, Nat.reduceLT, Nat.reduceLeDiff, false_imp_iff, true_imp_iff]
             try trivial
           )
        | (refine Mt.wk (rl := [0, 2, 3, 1, 6, 5]) ⟨by kernel_rfl, ?_, ?_⟩
           · simp only [push_cast, ↓branch_true, ↓branch_false, Nat.reduceBEq, Nat.reduceAdd, Nat.reduceMul, Nat.reduceSub, Int.reduceToNat, reduceCtorEq, branch_decide, branch_not, branch_beq, branch_bne, Int.reduceAdd, Int.reduceEq, Int.reduceLE, Int.reduceLT, Nat.reduceLT, Nat.reduceLeDiff, false_imp_iff, true_imp_iff]
             try trivial
           · simp only [push_cast, ↓branch_true, ↓branch_false, Nat.reduceBEq, Nat.reduceAdd, Nat.reduceMul, Nat.reduceSub, Int.reduceToNat, reduceCtorEq, branch_decide, branch_not, branch_beq, branch_bne, Int.reduceAdd, Int.reduceEq, Int.reduceLE, Int.reduceLT, Nat.reduceLT, Nat.reduceLeDiff, false_imp_iff, true_imp_iff]
             try trivial
           )
    simp only [push_cast, ↓branch_true, ↓branch_false, Nat.reduceBEq, Nat.reduceAdd, Nat.reduceMul, Nat.reduceSub, Int.reduceToNat, reduceCtorEq, branch_decide, branch_not, branch_beq, branch_bne, Int.reduceAdd, Int.reduceEq, Int.reduceLE, Int.reduceLT, Nat.reduceLT, Nat.reduceLeDiff, false_imp_iff, true_imp_iff, jnK]
    refine tr_mt (σ' := [(31, .v (.int .i64 0)), (30, .v (.int .i64 N)), (11, .s 4 0 0 N N 1), (12, .s 5 0 0 M M 1), (10, .v (.int .i64 (nuT N M (tab l) : Nat))), (9, .s 3 0 0 M M 1), (8, .s 1 0 0 N N 1), (0, .v (.int .i64 N))]) (H' := [rEd l, oNe 2 N (nbr l M) cp, oNf N (nbr l M), oB M M (fun _ => false), oB N N (fun _ => false), oB M M (fun _ => false)]) [0, 1, 2, 3, 4, 5] ⟨by kernel_rfl, ?_, ?_⟩ (key cp)
    · simp only [push_cast, ↓branch_true, ↓branch_false, Nat.reduceBEq, Nat.reduceAdd, Nat.reduceMul, Nat.reduceSub, Int.reduceToNat, reduceCtorEq, branch_decide, branch_not, branch_beq, branch_bne, Int.reduceAdd, Int.reduceEq, Int.reduceLE, Int.reduceLT, Nat.reduceLT, Nat.reduceLeDiff, false_imp_iff, true_imp_iff]
      try trivial
    · simp only [push_cast, ↓branch_true, ↓branch_false, Nat.reduceBEq, Nat.reduceAdd, Nat.reduceMul, Nat.reduceSub, Int.reduceToNat, reduceCtorEq, branch_decide, branch_not, branch_beq, branch_bne, Int.reduceAdd, Int.reduceEq, Int.reduceLE, Int.reduceLT, Nat.reduceLT, Nat.reduceLeDiff, false_imp_iff, true_imp_iff]
      try trivial
  case h =>
    intro cp
    have E0 : ∀ i, opnK N M (tab l) 0 i = false := fun i => by simp [opnK]
    have R0 : ∀ j, rgtK N M (tab l) 0 j = false := fun j => rfl
    refine tr_loop mixed (by kernel_rfl) (fun (k : Nat) => [(31, .v (.int .i64 k)), (30, .v (.int .i64 N)), (11, .s 4 0 0 N N 1), (12, .s 5 0 0 M M 1), (10, .v (.int .i64 (nuT N M (tab l) : Nat))), (9, .s 3 0 0 M M 1), (8, .s 1 0 0 N N 1), (0, .v (.int .i64 N))])
      (fun k => [rEd l, oNe 2 N (nbr l M) cp, oNf N (nbr l M), oB M M (fun _ => false), oB N N (opnK N M (tab l) k), oB M M (rgtK N M (tab l) k)]) (fun k => k ≤ N) (fun k => N - k) 0 (Nat.zero_le _) (Mt.wk (rl := [0, 1, 2, 3, 4, 5]) ⟨by kernel_rfl, ?_, ?_⟩) ?_
    · simp only [push_cast, ↓branch_true, ↓branch_false, Nat.reduceBEq, Nat.reduceAdd, Nat.reduceMul, Nat.reduceSub, Int.reduceToNat, reduceCtorEq, branch_decide, branch_not, branch_beq, branch_bne, Int.reduceAdd, Int.reduceEq, Int.reduceLE, Int.reduceLT, Nat.reduceLT, Nat.reduceLeDiff, false_imp_iff, true_imp_iff]
      try trivial
    · simp only [push_cast, ↓branch_true, ↓branch_false, Nat.reduceBEq, Nat.reduceAdd, Nat.reduceMul, Nat.reduceSub, Int.reduceToNat, reduceCtorEq, branch_decide, branch_not, branch_beq, branch_bne, Int.reduceAdd, Int.reduceEq, Int.reduceLE, Int.reduceLT, Nat.reduceLT, Nat.reduceLeDiff, false_imp_iff, true_imp_iff, E0, R0]
      try trivial
    intro k hk
    simp only [push_cast, ↓branch_true, ↓branch_false, Nat.reduceBEq, Nat.reduceAdd, Nat.reduceMul, Nat.reduceSub, Int.reduceToNat, reduceCtorEq, branch_decide, branch_not, branch_beq, branch_bne, Int.reduceAdd, Int.reduceEq, Int.reduceLE, Int.reduceLT, Nat.reduceLT, Nat.reduceLeDiff, false_imp_iff, true_imp_iff]
    refine ⟨fun h0 => ?_, fun h0 => ?_⟩
    · have hkN : k < N := by omega
      repeat (with_reducible refine And.intro (by omega) ?_)
      refine sp_at (all_sp N (by omega)) [] rfl ?_ ?_ ?_
      · simp only [push_cast, ↓branch_true, ↓branch_false, Nat.reduceBEq, Nat.reduceAdd, Nat.reduceMul, Nat.reduceSub, Int.reduceToNat, reduceCtorEq, branch_decide, branch_not, branch_beq, branch_bne, Int.reduceAdd, Int.reduceEq, Int.reduceLE, Int.reduceLT, Nat.reduceLT, Nat.reduceLeDiff, false_imp_iff, true_imp_iff]
        try trivial
      · simp only [push_cast, ↓branch_true, ↓branch_false, Nat.reduceBEq, Nat.reduceAdd, Nat.reduceMul, Nat.reduceSub, Int.reduceToNat, reduceCtorEq, branch_decide, branch_not, branch_beq, branch_bne, Int.reduceAdd, Int.reduceEq, Int.reduceLE, Int.reduceLT, Nat.reduceLT, Nat.reduceLeDiff, false_imp_iff, true_imp_iff]
        try trivial
      rintro _ _ ⟨ac, hac, rfl, rfl⟩
      simp only [push_cast, ↓branch_true, ↓branch_false, Nat.reduceBEq, Nat.reduceAdd, Nat.reduceMul, Nat.reduceSub, Int.reduceToNat, reduceCtorEq, branch_decide, branch_not, branch_beq, branch_bne, Int.reduceAdd, Int.reduceEq, Int.reduceLE, Int.reduceLT, Nat.reduceLT, Nat.reduceLeDiff, false_imp_iff, true_imp_iff]
      repeat (with_reducible refine And.intro (by omega) ?_)
      have hd := delete_sp (allL N) ac k (by rw [allL_len]; omega) (by rw [allL_len]; omega) (by rw [allL_len]; omega)
      rw [allL_len] at hd
      refine sp_at hd [6] rfl ?_ ?_ ?_
      · simp only [push_cast, ↓branch_true, ↓branch_false, Nat.reduceBEq, Nat.reduceAdd, Nat.reduceMul, Nat.reduceSub, Int.reduceToNat, reduceCtorEq, branch_decide, branch_not, branch_beq, branch_bne, Int.reduceAdd, Int.reduceEq, Int.reduceLE, Int.reduceLT, Nat.reduceLT, Nat.reduceLeDiff, false_imp_iff, true_imp_iff]
        try trivial
      · simp only [push_cast, ↓branch_true, ↓branch_false, Nat.reduceBEq, Nat.reduceAdd, Nat.reduceMul, Nat.reduceSub, Int.reduceToNat, reduceCtorEq, branch_decide, branch_not, branch_beq, branch_bne, Int.reduceAdd, Int.reduceEq, Int.reduceLE, Int.reduceLT, Nat.reduceLT, Nat.reduceLeDiff, false_imp_iff, true_imp_iff]
        try trivial
      rintro _ _ ⟨rfl, rfl⟩
      simp only [push_cast, ↓branch_true, ↓branch_false, Nat.reduceBEq, Nat.reduceAdd, Nat.reduceMul, Nat.reduceSub, Int.reduceToNat, reduceCtorEq, branch_decide, branch_not, branch_beq, branch_bne, Int.reduceAdd, Int.reduceEq, Int.reduceLE, Int.reduceLT, Nat.reduceLT, Nat.reduceLeDiff, false_imp_iff, true_imp_iff]
      have hln : ((allL N).eraseIdx k).length = N - 1 := by rw [List.length_eraseIdx_of_lt (by rw [allL_len]; omega), allL_len]
      have hs := size_pu N ac M cp (fun _ => false) ((allL N).eraseIdx k) ((allL N).eraseIdx k) 0 (by simp) (by omega) (by omega : N ≤ 1000000) (by omega : M ≤ 1000000) (nbr_ok l N M (by omega)) (by omega) (fun x hx => by
        obtain ⟨a, ha, rfl⟩ := List.mem_map.1 (List.mem_of_mem_eraseIdx hx)
        have := List.mem_range.1 ha
        omega) (Nat.le_refl M)
      rw [hln, size_erase hkN] at hs
      refine sp_call hs rfl [1, 2, 6, 3] rfl ?_ ?_ ?_
      · simp only [push_cast, ↓branch_true, ↓branch_false, Nat.reduceBEq, Nat.reduceAdd, Nat.reduceMul, Nat.reduceSub, Int.reduceToNat, reduceCtorEq, branch_decide, branch_not, branch_beq, branch_bne, Int.reduceAdd, Int.reduceEq, Int.reduceLE, Int.reduceLT, Nat.reduceLT, Nat.reduceLeDiff, false_imp_iff, true_imp_iff]
        try trivial
      · simp only [push_cast, ↓branch_true, ↓branch_false, Nat.reduceBEq, Nat.reduceAdd, Nat.reduceMul, Nat.reduceSub, Int.reduceToNat, reduceCtorEq, branch_decide, branch_not, branch_beq, branch_bne, Int.reduceAdd, Int.reduceEq, Int.reduceLE, Int.reduceLT, Nat.reduceLT, Nat.reduceLeDiff, false_imp_iff, true_imp_iff]
        try trivial
      have hEs := opnK_succ N M (tab l) k
      have hRs := rgtK_succ N M (tab l) k
      have hop : opn N M (tab l) k = !decide (nuT N M (delL (tab l) k) < nuT N M (tab l)) := rfl
      simp only [push_cast, ↓branch_true, ↓branch_false, Nat.reduceBEq, Nat.reduceAdd, Nat.reduceMul, Nat.reduceSub, Int.reduceToNat, reduceCtorEq, branch_decide, branch_not, branch_beq, branch_bne, Int.reduceAdd, Int.reduceEq, Int.reduceLE, Int.reduceLT, Nat.reduceLT, Nat.reduceLeDiff, false_imp_iff, true_imp_iff]
      refine ⟨fun h1 => ?_, fun h1 => ?_⟩
      · have ho : opn N M (tab l) k = false := by rw [hop, decide_eq_true (by omega)]; rfl
        repeat (with_reducible refine And.intro (by omega) ?_)
        refine lpK_normal (k + 1) [0, 1, 2, 3, 4, 5] (by omega) (by omega) (by kernel_rfl) ?_ ?_
        · simp only [push_cast, ↓branch_true, ↓branch_false, Nat.reduceBEq, Nat.reduceAdd, Nat.reduceMul, Nat.reduceSub, Int.reduceToNat, reduceCtorEq, branch_decide, branch_not, branch_beq, branch_bne, Int.reduceAdd, Int.reduceEq, Int.reduceLE, Int.reduceLT, Nat.reduceLT, Nat.reduceLeDiff, false_imp_iff, true_imp_iff]
        · simp only [push_cast, ↓branch_true, ↓branch_false, Nat.reduceBEq, Nat.reduceAdd, Nat.reduceMul, Nat.reduceSub, Int.reduceToNat, reduceCtorEq, branch_decide, branch_not, branch_beq, branch_bne, Int.reduceAdd, Int.reduceEq, Int.reduceLE, Int.reduceLT, Nat.reduceLT, Nat.reduceLeDiff, false_imp_iff, true_imp_iff, hEs, hRs, ho]
          refine ⟨fun _ _ q _ => ?_, fun _ _ q _ => by rw [Bool.or_false]⟩
          cases e : q == k with
          | true =>
            have : q = k := by simpa using e
            subst this
            simp [opnK]
          | false => rfl
      · have ho : opn N M (tab l) k = true := by rw [hop, decide_eq_false (by omega)]; rfl
        repeat (with_reducible refine And.intro (by omega) ?_)
        have hnl := (nbr_ok l N M (by omega)).len k
        refine tr_loop mixed (by kernel_rfl) (fun (q : Nat) => [(53, .v (.int .i64 q)), (52, .v (.int .i64 (nbr l M k).length)), (51, .s 2 k 0 (nbr l M k).length (cp k) 1), (31, .v (.int .i64 k)), (30, .v (.int .i64 N)), (11, .s 4 0 0 N N 1), (12, .s 5 0 0 M M 1), (10, .v (.int .i64 (nuT N M (tab l) : Nat))), (9, .s 3 0 0 M M 1), (8, .s 1 0 0 N N 1), (0, .v (.int .i64 N))])
          (fun q => [rEd l, oNe 2 N (nbr l M) cp, oNf N (nbr l M), oB M M (fun _ => false), oB N N (opnK N M (tab l) (k + 1)), oB M M (mkL (rgtK N M (tab l) k) ((nbr l M k).take q))]) (fun q => q ≤ (nbr l M k).length) (fun q => (nbr l M k).length - q) 0 (Nat.zero_le _) (Mt.wk (rl := [0, 1, 2, 3, 4, 5]) ⟨by kernel_rfl, ?_, ?_⟩) ?_
        · simp only [push_cast, ↓branch_true, ↓branch_false, Nat.reduceBEq, Nat.reduceAdd, Nat.reduceMul, Nat.reduceSub, Int.reduceToNat, reduceCtorEq, branch_decide, branch_not, branch_beq, branch_bne, Int.reduceAdd, Int.reduceEq, Int.reduceLE, Int.reduceLT, Nat.reduceLT, Nat.reduceLeDiff, false_imp_iff, true_imp_iff]
          try trivial
        · simp only [push_cast, ↓branch_true, ↓branch_false, Nat.reduceBEq, Nat.reduceAdd, Nat.reduceMul, Nat.reduceSub, Int.reduceToNat, reduceCtorEq, branch_decide, branch_not, branch_beq, branch_bne, Int.reduceAdd, Int.reduceEq, Int.reduceLE, Int.reduceLT, Nat.reduceLT, Nat.reduceLeDiff, false_imp_iff, true_imp_iff, hEs, ho]
          exact ⟨fun _ hi q _ => upB hi, fun _ _ q _ => by simp [mkL]⟩
        intro q hq
        simp only [push_cast, ↓branch_true, ↓branch_false, Nat.reduceBEq, Nat.reduceAdd, Nat.reduceMul, Nat.reduceSub, Int.reduceToNat, reduceCtorEq, branch_decide, branch_not, branch_beq, branch_bne, Int.reduceAdd, Int.reduceEq, Int.reduceLE, Int.reduceLT, Nat.reduceLT, Nat.reduceLeDiff, false_imp_iff, true_imp_iff]
        refine ⟨fun h2 => ?_, fun h2 => ?_⟩
        · have hq2 : q < (nbr l M k).length := by omega
          have hx := (nbr_ok l N M (by omega)).nn k _ (ix_mem hq2)
          have hX := take_snoc hq2
          have hms : ∀ j, mkL (rgtK N M (tab l) k) ((nbr l M k).take (q + 1)) j = bif j == (ix (nbr l M k) q).toNat then true else mkL (rgtK N M (tab l) k) ((nbr l M k).take q) j := fun j => by rw [hX, mkL_snoc]
          repeat (with_reducible refine And.intro (by omega) ?_)
          refine lpK_normal (q + 1) [0, 1, 2, 3, 4, 5] (by omega) (by omega) (by kernel_rfl) ?_ ?_
          · simp only [push_cast, ↓branch_true, ↓branch_false, Nat.reduceBEq, Nat.reduceAdd, Nat.reduceMul, Nat.reduceSub, Int.reduceToNat, reduceCtorEq, branch_decide, branch_not, branch_beq, branch_bne, Int.reduceAdd, Int.reduceEq, Int.reduceLE, Int.reduceLT, Nat.reduceLT, Nat.reduceLeDiff, false_imp_iff, true_imp_iff]
          · simp only [push_cast, ↓branch_true, ↓branch_false, Nat.reduceBEq, Nat.reduceAdd, Nat.reduceMul, Nat.reduceSub, Int.reduceToNat, reduceCtorEq, branch_decide, branch_not, branch_beq, branch_bne, Int.reduceAdd, Int.reduceEq, Int.reduceLE, Int.reduceLT, Nat.reduceLT, Nat.reduceLeDiff, false_imp_iff, true_imp_iff, hms]
            exact fun _ hi _ _ => upB hi
        · obtain rfl : q = (nbr l M k).length := by omega
          repeat (with_reducible refine And.intro (by omega) ?_)
          refine lpK_normal (k + 1) [0, 1, 2, 3, 4, 5] (by omega) (by omega) (by kernel_rfl) ?_ ?_
          · simp only [push_cast, ↓branch_true, ↓branch_false, Nat.reduceBEq, Nat.reduceAdd, Nat.reduceMul, Nat.reduceSub, Int.reduceToNat, reduceCtorEq, branch_decide, branch_not, branch_beq, branch_bne, Int.reduceAdd, Int.reduceEq, Int.reduceLE, Int.reduceLT, Nat.reduceLT, Nat.reduceLeDiff, false_imp_iff, true_imp_iff]
          · simp only [push_cast, ↓branch_true, ↓branch_false, Nat.reduceBEq, Nat.reduceAdd, Nat.reduceMul, Nat.reduceSub, Int.reduceToNat, reduceCtorEq, branch_decide, branch_not, branch_beq, branch_bne, Int.reduceAdd, Int.reduceEq, Int.reduceLE, Int.reduceLT, Nat.reduceLT, Nat.reduceLeDiff, false_imp_iff, true_imp_iff, List.take_length, hRs, ho]
            exact fun _ _ j hj => by rw [mkL_nbr hj]
    · obtain rfl : k = N := by omega
      refine ⟨_, _, [0, 4, 5], ?_, by kernel_rfl, ?_, rfl, rfl⟩
      · simp only [push_cast, ↓branch_true, ↓branch_false, Nat.reduceBEq, Nat.reduceAdd, Nat.reduceMul, Nat.reduceSub, Int.reduceToNat, reduceCtorEq, branch_decide, branch_not, branch_beq, branch_bne, Int.reduceAdd, Int.reduceEq, Int.reduceLE, Int.reduceLT, Nat.reduceLT, Nat.reduceLeDiff, false_imp_iff, true_imp_iff]
      · simp only [push_cast, ↓branch_true, ↓branch_false, Nat.reduceBEq, Nat.reduceAdd, Nat.reduceMul, Nat.reduceSub, Int.reduceToNat, reduceCtorEq, branch_decide, branch_not, branch_beq, branch_bne, Int.reduceAdd, Int.reduceEq, Int.reduceLE, Int.reduceLT, Nat.reduceLT, Nat.reduceLeDiff, false_imp_iff, true_imp_iff]
        refine ⟨fun _ _ q hq => ?_, fun _ _ q hq => ?_⟩
        · unfold opnK
          rw [decide_eq_true hq]
          rfl
        · rfl
end Go.Proofs.Ytmmabnoemckdiaa
