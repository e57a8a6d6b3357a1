/- Law: Dual. -/
import Derived.Test.YtmmabnoemckdiaaX
import Derived.Test.YtmmabnoemckdiaaEA
set_option maxRecDepth 100000
set_option linter.unusedSimpArgs false
set_option linter.unusedVariables false
namespace Go.Proofs.Ytmmabnoemckdiaa
open Go.RowKit Bip
def usedK (L : List Int) (k j : Nat) : Bool := (L.take k).contains (j : Int)
theorem usedK_succ {L : List Int} {k : Nat} (hk : k < L.length) (j : Nat) : usedK L (k + 1) j = (decide ((j : Int) = ix L k) || usedK L k j) := by
  unfold usedK
  rw [take_snoc hk, Bool.eq_iff_iff, Bool.or_eq_true, List.contains_iff_mem, List.contains_iff_mem, decide_eq_true_eq, List.mem_append, List.mem_singleton]
  exact Or.comm
theorem found_succ {L : List Int} {k : Nat} (hk : k < L.length) : found (L.take (k + 1)) = found (L.take k) + (bif decide (0 ≤ ix L k) then 1 else 0) := by
  unfold found
  rw [take_snoc hk, List.filter_append, List.length_append]
  by_cases h : 0 ≤ ix L k <;> simp [h]
theorem found_le (L : List Int) (k : Nat) : found (L.take k) ≤ k := by
  have := List.length_filter_le (fun x : Int => decide (0 ≤ x)) (L.take k)
  unfold found
  simp at this ⊢
  omega
theorem edge_mem {l : List Ed} {N M : Nat} (hve : ∀ e ∈ l, inE N M e = true) {i : Nat} {x : Int} (hx : 0 ≤ x) : tab l i x.toNat = true ↔ (⟨(i : Int), x⟩ : Ed) ∈ l := by
  unfold tab
  rw [List.any_eq_true]
  constructor
  · rintro ⟨e, h1, h2⟩
    have h3 := hve e h1
    simp only [inE, Bool.and_eq_true, decide_eq_true_eq, beq_iff_eq] at h2 h3
    have : e = ⟨(i : Int), x⟩ := Ed.ext' (by show e.x = (i : Int); omega) (by show e.y = x; omega)
    rw [← this]; exact h1
  · intro h
    exact ⟨_, h, by simp⟩
set_option maxHeartbeats 4000000 in
theorem matching_pu (l : List Ed) (N M c c2 : Nat) (L : List Int) (hN : N ≤ 60) (hM : M ≤ 60) (hl2 : l.length ≤ 1000000) (hve : ∀ e ∈ l, inE N M e = true) (hL : L.length = N) (hm : IsM (tab l) M 0 (fun _ => false) L) :
    Pu Try.prog 27 [.v (.int .i64 N), .v (.int .i64 M), .s 0 0 0 l.length c 2, .s 1 0 0 L.length c2 1] [rEd l, rR L] (.t [.v (.int .i64 (found L : Nat)), .v (.bool true)]) := by
  refine pu_of_ex true [] mixed Try.call27 Try.func27 rfl Try.ntmps27 Try.results27 (by decide +kernel) rfl rfl rfl ?_
  simp only [push_cast, ↓branch_true, ↓branch_false, Nat.reduceBEq, Nat.reduceAdd, Nat.reduceMul, Nat.reduceSub, Int.reduceToNat, reduceCtorEq, branch_decide, branch_not, branch_beq, branch_bne, Int.reduceAdd, Int.reduceEq, Int.reduceLE, Int.reduceLT, Nat.reduceLT, Nat.reduceLeDiff, false_imp_iff, true_imp_iff]
  refine ⟨fun _ => ?_, fun h0 => absurd (by omega) h0⟩
  repeat (with_reducible refine And.intro (by omega) ?_)
  refine tr_loop mixed (by kernel_rfl) (fun (k : Nat) => [(22, .v (.int .i64 k)), (21, .v (.int .i64 L.length)), (20, .s 1 0 0 L.length c2 1), (11, .v (.int .i64 (found (L.take k) : Nat))), (10, .s 2 0 0 M M 1), (0, .v (.int .i64 N)), (1, .v (.int .i64 M)), (2, .s 0 0 0 l.length c 2)])
    (fun k => [rEd l, rR L, oB M M (usedK L k)]) (fun k => k ≤ L.length) (fun k => L.length - k) 0 (Nat.zero_le _) (Mt.wk (rl := [0, 1, 2]) ⟨by kernel_rfl, ?_, ?_⟩) ?_
  · simp only [push_cast, ↓branch_true, ↓branch_false, Nat.reduceBEq, Nat.reduceAdd, Nat.reduceMul, Nat.reduceSub, Int.reduceToNat, reduceCtorEq, branch_decide, branch_not, branch_beq, branch_bne, Int.reduceAdd, Int.reduceEq, Int.reduceLE, Int.reduceLT, Nat.reduceLT, Nat.reduceLeDiff, false_imp_iff, true_imp_iff]
    try trivial
  · simp only [push_cast, ↓branch_true, ↓branch_false, Nat.reduceBEq, Nat.reduceAdd, Nat.reduceMul, Nat.reduceSub, Int.reduceToNat, reduceCtorEq, branch_decide, branch_not, branch_beq, branch_bne, Int.reduceAdd, Int.reduceEq, Int.reduceLE, Int.reduceLT, Nat.reduceLT, Nat.reduceLeDiff, false_imp_iff, true_imp_iff]
    exact fun _ _ _ _ => rfl
  intro k hk
  simp only [push_cast, ↓branch_true, ↓branch_false, Nat.reduceBEq, Nat.reduceAdd, Nat.reduceMul, Nat.reduceSub, Int.reduceToNat, reduceCtorEq, branch_decide, branch_not, branch_beq, branch_bne, Int.reduceAdd, Int.reduceEq, Int.reduceLE, Int.reduceLT, Nat.reduceLT, Nat.reduceLeDiff, false_imp_iff, true_imp_iff]
  refine ⟨fun h1 => ?_, fun h1 => ?_⟩
  · have hkl : k < L.length := by omega
    have hus := usedK_succ hkl
    have hfs := found_succ hkl
    have hfl := found_le L k
    have h2 := hm.ok k hkl
    rw [← ix_eq hkl] at h2
    repeat (with_reducible refine And.intro (by omega) ?_)
    rcases h2 with h2 | ⟨h2, h3, h4, _⟩
    · rw [h2] at hus hfs ⊢
      refine ⟨fun _ => ?_, fun h => absurd rfl h⟩
      have hfs : found (L.take (k + 1)) = found (L.take k) := hfs
      have hus : ∀ j, usedK L (k + 1) j = usedK L k j := fun j => by
        rw [hus, show decide ((j : Int) = -1) = false by simp]
        rfl
      repeat (with_reducible refine And.intro (by omega) ?_)
      refine lpK_normal (k + 1) [0, 1, 2] (by omega) (by omega) (by kernel_rfl) ?_ ?_
      · simp only [push_cast, ↓branch_true, ↓branch_false, Nat.reduceBEq, Nat.reduceAdd, Nat.reduceMul, Nat.reduceSub, Int.reduceToNat, reduceCtorEq, branch_decide, branch_not, branch_beq, branch_bne, Int.reduceAdd, Int.reduceEq, Int.reduceLE, Int.reduceLT, Nat.reduceLT, Nat.reduceLeDiff, false_imp_iff, true_imp_iff, hfs]
      · simp only [push_cast, ↓branch_true, ↓branch_false, Nat.reduceBEq, Nat.reduceAdd, Nat.reduceMul, Nat.reduceSub, Int.reduceToNat, reduceCtorEq, branch_decide, branch_not, branch_beq, branch_bne, Int.reduceAdd, Int.reduceEq, Int.reduceLE, Int.reduceLT, Nat.reduceLT, Nat.reduceLeDiff, false_imp_iff, true_imp_iff, hus]
    · rw [decide_eq_true h2, cond_true] at hfs
      have h5 : usedK L k (ix L k).toNat = false := by
        rw [Bool.eq_false_iff]
        intro h
        unfold usedK at h
        rw [List.contains_iff_mem] at h
        obtain ⟨q, hq, e⟩ := List.getElem_of_mem h
        rw [List.length_take] at hq
        rw [List.getElem_take] at e
        have := hm.inj q k (by omega) hkl (by rw [e]; omega) (by rw [e, ← ix_eq hkl]; omega)
        omega
      rw [Nat.zero_add, edge_mem hve h2] at h4
      generalize ix L k = x at *
      refine ⟨fun h => absurd h (by omega), fun _ => ⟨fun h => absurd h (by omega), fun _ => ⟨fun h => absurd h (by omega), fun _ => ?_⟩⟩⟩
      repeat (with_reducible refine And.intro (by omega) ?_)
      rw [h5]
      simp only [push_cast, ↓branch_true, ↓branch_false, Nat.reduceBEq, Nat.reduceAdd, Nat.reduceMul, Nat.reduceSub, Int.reduceToNat, reduceCtorEq, branch_decide, branch_not, branch_beq, branch_bne, Int.reduceAdd, Int.reduceEq, Int.reduceLE, Int.reduceLT, Nat.reduceLT, Nat.reduceLeDiff, false_imp_iff, true_imp_iff]
      refine sp_call (containsA_pu l ⟨k, x⟩ c (by omega)) rfl [0] rfl ?_ ?_ ?_
      · simp only [push_cast, ↓branch_true, ↓branch_false, Nat.reduceBEq, Nat.reduceAdd, Nat.reduceMul, Nat.reduceSub, Int.reduceToNat, reduceCtorEq, branch_decide, branch_not, branch_beq, branch_bne, Int.reduceAdd, Int.reduceEq, Int.reduceLE, Int.reduceLT, Nat.reduceLT, Nat.reduceLeDiff, false_imp_iff, true_imp_iff]
        try trivial
      · simp only [push_cast, ↓branch_true, ↓branch_false, Nat.reduceBEq, Nat.reduceAdd, Nat.reduceMul, Nat.reduceSub, Int.reduceToNat, reduceCtorEq, branch_decide, branch_not, branch_beq, branch_bne, Int.reduceAdd, Int.reduceEq, Int.reduceLE, Int.reduceLT, Nat.reduceLT, Nat.reduceLeDiff, false_imp_iff, true_imp_iff]
        try trivial
      rw [decide_eq_true h4]
      simp only [push_cast, ↓branch_true, ↓branch_false, Nat.reduceBEq, Nat.reduceAdd, Nat.reduceMul, Nat.reduceSub, Int.reduceToNat, reduceCtorEq, branch_decide, branch_not, branch_beq, branch_bne, Int.reduceAdd, Int.reduceEq, Int.reduceLE, Int.reduceLT, Nat.reduceLT, Nat.reduceLeDiff, false_imp_iff, true_imp_iff]
      repeat (with_reducible refine And.intro (by omega) ?_)
      refine lpK_normal (k + 1) [0, 1, 2] (by omega) (by omega) (by kernel_rfl) ?_ ?_
      · simp only [push_cast, ↓branch_true, ↓branch_false, Nat.reduceBEq, Nat.reduceAdd, Nat.reduceMul, Nat.reduceSub, Int.reduceToNat, reduceCtorEq, branch_decide, branch_not, branch_beq, branch_bne, Int.reduceAdd, Int.reduceEq, Int.reduceLE, Int.reduceLT, Nat.reduceLT, Nat.reduceLeDiff, false_imp_iff, true_imp_iff, hfs]
      · simp only [push_cast, ↓branch_true, ↓branch_false, Nat.reduceBEq, Nat.reduceAdd, Nat.reduceMul, Nat.reduceSub, Int.reduceToNat, reduceCtorEq, branch_decide, branch_not, branch_beq, branch_bne, Int.reduceAdd, Int.reduceEq, Int.reduceLE, Int.reduceLT, Nat.reduceLT, Nat.reduceLeDiff, false_imp_iff, true_imp_iff, hus]
        intro i1 hi1 j hj
        obtain rfl : i1 = 0 := by omega
        by_cases e : j = x.toNat
        · have h6 : (j == x.toNat) = true := by simpa using e
          rw [h6, decide_eq_true (by omega)]
          exact ⟨rfl, trivial⟩
        · have h6 : (j == x.toNat) = false := by simpa using e
          rw [h6, decide_eq_false (by omega)]
          exact ⟨rfl, trivial⟩
  · obtain rfl : k = L.length := by omega
    rw [List.take_length]
theorem dual1_pu (l : List Ed) (A B : List Int) (c1 c2 : Nat) (e : Ed) (hA : A.length ≤ 1000000) (hB : B.length ≤ 1000000) : Pu Try.prog 30 [.a (cEd e), .p 1 0 0, .p 2 0 0] [rEd l, ⟨25, true, .st [.s 3 0 0 A.length c1 1]⟩, ⟨25, true, .st [.s 4 0 0 B.length c2 1]⟩, rR A, rR B] (.v (.bool (!decide (e.x ∈ A) && !decide (e.y ∈ B)))) := by
  refine pu_of_ex true [] mixed Try.call30 Try.func30 rfl Try.ntmps30 Try.results30 (by decide +kernel) rfl rfl rfl ?_
  simp only [push_cast, ↓branch_true, ↓branch_false, Nat.reduceBEq, Nat.reduceAdd, Nat.reduceMul, Nat.reduceSub, Int.reduceToNat, reduceCtorEq, branch_decide, branch_not, branch_beq, branch_bne, Int.reduceAdd, Int.reduceEq, Int.reduceLE, Int.reduceLT, Nat.reduceLT, Nat.reduceLeDiff, false_imp_iff, true_imp_iff]
  refine sp_call (contains_pu A e.x c1 hA) rfl [3] rfl (by simp only [push_cast, ↓branch_true, ↓branch_false, Nat.reduceBEq, Nat.reduceAdd, Nat.reduceMul, Nat.reduceSub, Int.reduceToNat, reduceCtorEq, branch_decide, branch_not, branch_beq, branch_bne, Int.reduceAdd, Int.reduceEq, Int.reduceLE, Int.reduceLT, Nat.reduceLT, Nat.reduceLeDiff, false_imp_iff, true_imp_iff]) (by simp only [push_cast, ↓branch_true, ↓branch_false, Nat.reduceBEq, Nat.reduceAdd, Nat.reduceMul, Nat.reduceSub, Int.reduceToNat, reduceCtorEq, branch_decide, branch_not, branch_beq, branch_bne, Int.reduceAdd, Int.reduceEq, Int.reduceLE, Int.reduceLT, Nat.reduceLT, Nat.reduceLeDiff, false_imp_iff, true_imp_iff]) ?_
  simp only [push_cast, ↓branch_true, ↓branch_false, Nat.reduceBEq, Nat.reduceAdd, Nat.reduceMul, Nat.reduceSub, Int.reduceToNat, reduceCtorEq, branch_decide, branch_not, branch_beq, branch_bne, Int.reduceAdd, Int.reduceEq, Int.reduceLE, Int.reduceLT, Nat.reduceLT, Nat.reduceLeDiff, false_imp_iff, true_imp_iff]
  refine ⟨fun h => vb (by simp [h]), fun h => ?_⟩
  refine sp_call (contains_pu B e.y c2 hB) rfl [4] rfl (by simp only [push_cast, ↓branch_true, ↓branch_false, Nat.reduceBEq, Nat.reduceAdd, Nat.reduceMul, Nat.reduceSub, Int.reduceToNat, reduceCtorEq, branch_decide, branch_not, branch_beq, branch_bne, Int.reduceAdd, Int.reduceEq, Int.reduceLE, Int.reduceLT, Nat.reduceLT, Nat.reduceLeDiff, false_imp_iff, true_imp_iff]) (by simp only [push_cast, ↓branch_true, ↓branch_false, Nat.reduceBEq, Nat.reduceAdd, Nat.reduceMul, Nat.reduceSub, Int.reduceToNat, reduceCtorEq, branch_decide, branch_not, branch_beq, branch_bne, Int.reduceAdd, Int.reduceEq, Int.reduceLE, Int.reduceLT, Nat.reduceLT, Nat.reduceLeDiff, false_imp_iff, true_imp_iff]) ?_
  simp only [push_cast, ↓branch_true, ↓branch_false, Nat.reduceBEq, Nat.reduceAdd, Nat.reduceMul, Nat.reduceSub, Int.reduceToNat, reduceCtorEq, branch_decide, branch_not, branch_beq, branch_bne, Int.reduceAdd, Int.reduceEq, Int.reduceLE, Int.reduceLT, Nat.reduceLT, Nat.reduceLeDiff, false_imp_iff, true_imp_iff]
  exact vb (by simp [h])
theorem markL_cnt (f : Nat → Bool) : ∀ n, (markL f n).length = cnt n f
  | 0 => rfl
  | n + 1 => by
    rw [markL_succ, cnt]
    cases f n <;> simp [markL_cnt f n]
theorem markL_asc (f : Nat → Bool) (n : Nat) : (markL f n).Pairwise (· < ·) := by
  unfold markL
  rw [List.pairwise_map]
  exact (List.pairwise_lt_range.filter _).imp fun h => by omega
theorem markL_sorted (f : Nat → Bool) (n a : Nat) (h0 : 0 < a) (h : a < (markL f n).length) : ix (markL f n) (a - 1) < ix (markL f n) a := by
  rw [ix_eq h, ix_eq (by omega)]
  exact List.pairwise_iff_getElem.1 (markL_asc f n) _ _ _ _ (by omega)
theorem markL_mem {f : Nat → Bool} {n : Nat} {x : Int} : x ∈ markL f n ↔ ∃ i : Nat, x = i ∧ i < n ∧ f i = true := by
  unfold markL
  rw [List.mem_map]
  constructor
  · rintro ⟨i, h1, rfl⟩
    rw [List.mem_filter, List.mem_range] at h1
    exact ⟨i, rfl, h1⟩
  · rintro ⟨i, rfl, h⟩
    exact ⟨i, by rw [List.mem_filter, List.mem_range]; exact h, rfl⟩
theorem tab_edge {l : List Ed} {e : Ed} (he : e ∈ l) : tab l e.x.toNat e.y.toNat = true := by
  unfold tab
  rw [List.any_eq_true]
  exact ⟨e, he, by simp⟩
theorem cover_all {l : List Ed} {N M : Nat} (hve : ∀ e ∈ l, inE N M e = true) {e : Ed} (he : e ∈ l) : (!decide (e.x ∈ markL (lft N M (tab l)) N) && !decide (e.y ∈ markL (rgt N M (tab l)) M)) = false := by
  have h3 := hve e he
  simp only [inE, Bool.and_eq_true, decide_eq_true_eq] at h3
  have ht := tab_edge he
  cases hr : rgt N M (tab l) e.y.toNat with
  | true =>
    rw [decide_eq_true (p := e.y ∈ _) (markL_mem.2 ⟨e.y.toNat, by omega, by omega, hr⟩)]
    simp
  | false =>
    have hlf : lft N M (tab l) e.x.toNat = true := by
      unfold lft
      rw [List.any_eq_true]
      exact ⟨e.y.toNat, List.mem_range.2 (by omega), by rw [ht, hr]; rfl⟩
    rw [decide_eq_true (p := e.x ∈ _) (markL_mem.2 ⟨e.x.toNat, by omega, by omega, hlf⟩)]
    simp
set_option maxHeartbeats 4000000 in
theorem ldual_sp (l : List Ed) (n m : Int) (c : Nat) (hl : l.length ≤ 9223372036854775807) : Sp Try.prog 6 [.v (.int .i64 n), .v (.int .i64 m), .s 0 0 0 l.length c 2] [rEd l] (fun r H => r = .v (.bool true)) := by
  refine sp_of_ex true [] mixed Try.call6 Try.func6 rfl Try.ntmps6 Try.results6 (by decide +kernel) rfl ?_
  simp only [push_cast, ↓branch_true, ↓branch_false, Nat.reduceBEq, Nat.reduceAdd, Nat.reduceMul, Nat.reduceSub, Int.reduceToNat, reduceCtorEq, branch_decide, branch_not, branch_beq, branch_bne, Int.reduceAdd, Int.reduceEq, Int.reduceLE, Int.reduceLT, Nat.reduceLT, Nat.reduceLeDiff, false_imp_iff, true_imp_iff]
  refine sp_at awake_sp [] rfl ?_ ?_ ?_
  · simp only [push_cast, ↓branch_true, ↓branch_false, Nat.reduceBEq, Nat.reduceAdd, Nat.reduceMul, Nat.reduceSub, Int.reduceToNat, reduceCtorEq, branch_decide, branch_not, branch_beq, branch_bne, Int.reduceAdd, Int.reduceEq, Int.reduceLE, Int.reduceLT, Nat.reduceLT, Nat.reduceLeDiff, false_imp_iff, true_imp_iff]
  · simp only [push_cast, ↓branch_true, ↓branch_false, Nat.reduceBEq, Nat.reduceAdd, Nat.reduceMul, Nat.reduceSub, Int.reduceToNat, reduceCtorEq, branch_decide, branch_not, branch_beq, branch_bne, Int.reduceAdd, Int.reduceEq, Int.reduceLE, Int.reduceLT, Nat.reduceLT, Nat.reduceLeDiff, false_imp_iff, true_imp_iff]
  rintro _ _ ⟨rfl, rfl⟩
  simp only [push_cast, ↓branch_true, ↓branch_false, Nat.reduceBEq, Nat.reduceAdd, Nat.reduceMul, Nat.reduceSub, Int.reduceToNat, reduceCtorEq, branch_decide, branch_not, branch_beq, branch_bne, Int.reduceAdd, Int.reduceEq, Int.reduceLE, Int.reduceLT, Nat.reduceLT, Nat.reduceLeDiff, false_imp_iff, true_imp_iff]
  refine sp_call (large_pu n m l c hl) rfl [0] rfl (by simp only [push_cast, ↓branch_true, ↓branch_false, Nat.reduceBEq, Nat.reduceAdd, Nat.reduceMul, Nat.reduceSub, Int.reduceToNat, reduceCtorEq, branch_decide, branch_not, branch_beq, branch_bne, Int.reduceAdd, Int.reduceEq, Int.reduceLE, Int.reduceLT, Nat.reduceLT, Nat.reduceLeDiff, false_imp_iff, true_imp_iff]) (by simp only [push_cast, ↓branch_true, ↓branch_false, Nat.reduceBEq, Nat.reduceAdd, Nat.reduceMul, Nat.reduceSub, Int.reduceToNat, reduceCtorEq, branch_decide, branch_not, branch_beq, branch_bne, Int.reduceAdd, Int.reduceEq, Int.reduceLE, Int.reduceLT, Nat.reduceLT, Nat.reduceLeDiff, false_imp_iff, true_imp_iff]) ?_
  simp only [push_cast, ↓branch_true, ↓branch_false, Nat.reduceBEq, Nat.reduceAdd, Nat.reduceMul, Nat.reduceSub, Int.reduceToNat, reduceCtorEq, branch_decide, branch_not, branch_beq, branch_bne, Int.reduceAdd, Int.reduceEq, Int.reduceLE, Int.reduceLT, Nat.reduceLT, Nat.reduceLeDiff, false_imp_iff, true_imp_iff]
  cases hlg : largeB n m l with
  | true =>
    simp only [push_cast, ↓branch_true, ↓branch_false, Nat.reduceBEq, Nat.reduceAdd, Nat.reduceMul, Nat.reduceSub, Int.reduceToNat, reduceCtorEq, branch_decide, branch_not, branch_beq, branch_bne, Int.reduceAdd, Int.reduceEq, Int.reduceLE, Int.reduceLT, Nat.reduceLT, Nat.reduceLeDiff, false_imp_iff, true_imp_iff]
  | false =>
  simp only [push_cast, ↓branch_true, ↓branch_false, Nat.reduceBEq, Nat.reduceAdd, Nat.reduceMul, Nat.reduceSub, Int.reduceToNat, reduceCtorEq, branch_decide, branch_not, branch_beq, branch_bne, Int.reduceAdd, Int.reduceEq, Int.reduceLE, Int.reduceLT, Nat.reduceLT, Nat.reduceLeDiff, false_imp_iff, true_imp_iff]
  intro h60
  refine sp_at (match_sp l n m c hl) [0] rfl ?_ ?_ ?_
  · simp only [push_cast, ↓branch_true, ↓branch_false, Nat.reduceBEq, Nat.reduceAdd, Nat.reduceMul, Nat.reduceSub, Int.reduceToNat, reduceCtorEq, branch_decide, branch_not, branch_beq, branch_bne, Int.reduceAdd, Int.reduceEq, Int.reduceLE, Int.reduceLT, Nat.reduceLT, Nat.reduceLeDiff, false_imp_iff, true_imp_iff]
  · simp only [push_cast, ↓branch_true, ↓branch_false, Nat.reduceBEq, Nat.reduceAdd, Nat.reduceMul, Nat.reduceSub, Int.reduceToNat, reduceCtorEq, branch_decide, branch_not, branch_beq, branch_bne, Int.reduceAdd, Int.reduceEq, Int.reduceLE, Int.reduceLT, Nat.reduceLT, Nat.reduceLeDiff, false_imp_iff, true_imp_iff]
  rintro _ _ ⟨mc, hmc, rfl, rfl⟩
  simp only [push_cast, ↓branch_true, ↓branch_false, Nat.reduceBEq, Nat.reduceAdd, Nat.reduceMul, Nat.reduceSub, Int.reduceToNat, reduceCtorEq, branch_decide, branch_not, branch_beq, branch_bne, Int.reduceAdd, Int.reduceEq, Int.reduceLE, Int.reduceLT, Nat.reduceLT, Nat.reduceLeDiff, false_imp_iff, true_imp_iff]
  refine sp_at (cover_sp l n m c hl) [0] rfl ?_ ?_ ?_
  · simp only [push_cast, ↓branch_true, ↓branch_false, Nat.reduceBEq, Nat.reduceAdd, Nat.reduceMul, Nat.reduceSub, Int.reduceToNat, reduceCtorEq, branch_decide, branch_not, branch_beq, branch_bne, Int.reduceAdd, Int.reduceEq, Int.reduceLE, Int.reduceLT, Nat.reduceLT, Nat.reduceLeDiff, false_imp_iff, true_imp_iff]
  · simp only [push_cast, ↓branch_true, ↓branch_false, Nat.reduceBEq, Nat.reduceAdd, Nat.reduceMul, Nat.reduceSub, Int.reduceToNat, reduceCtorEq, branch_decide, branch_not, branch_beq, branch_bne, Int.reduceAdd, Int.reduceEq, Int.reduceLE, Int.reduceLT, Nat.reduceLT, Nat.reduceLeDiff, false_imp_iff, true_imp_iff]
  rintro _ _ ⟨c1, c2, hc1, hc2, rfl, rfl⟩
  simp only [push_cast, ↓branch_true, ↓branch_false, Nat.reduceBEq, Nat.reduceAdd, Nat.reduceMul, Nat.reduceSub, Int.reduceToNat, reduceCtorEq, branch_decide, branch_not, branch_beq, branch_bne, Int.reduceAdd, Int.reduceEq, Int.reduceLE, Int.reduceLT, Nat.reduceLT, Nat.reduceLeDiff, false_imp_iff, true_imp_iff]
  cases hv : validE n m l with
  | false =>
    have e1 : matchR l n m = [] := by simp [matchR, hv]
    have e2 : errR l n m = 1 := by simp [errR, hv]
    have e3 : covA l n m = [] := by simp [covA, hv]
    have e4 : covB l n m = [] := by simp [covB, hv]
    rw [e1, e2, e3, e4]
    simp only [push_cast, ↓branch_true, ↓branch_false, Nat.reduceBEq, Nat.reduceAdd, Nat.reduceMul, Nat.reduceSub, Int.reduceToNat, reduceCtorEq, branch_decide, branch_not, branch_beq, branch_bne, Int.reduceAdd, Int.reduceEq, Int.reduceLE, Int.reduceLT, Nat.reduceLT, Nat.reduceLeDiff, false_imp_iff, true_imp_iff]
  | true =>
  obtain ⟨N, M, rfl, rfl, hN, hM, hl2, hve⟩ := valid_of hv
  have e1 : matchR l N M = matchT (tab l) N M := by simp [matchR, hv]
  have e2 : errR l N M = 0 := by simp [errR, hv]
  have e3 : covA l N M = markL (lft N M (tab l)) N := by simp [covA, hv]
  have e4 : covB l N M = markL (rgt N M (tab l)) M := by simp [covB, hv]
  obtain ⟨m1, m2, m3⟩ := matchT_ok (tab l) N M
  rw [e1, m3] at hmc
  rw [e1, e2, e3, e4, m3]
  rw [e3] at hc1
  rw [e4] at hc2
  simp only [push_cast, ↓branch_true, ↓branch_false, Nat.reduceBEq, Nat.reduceAdd, Nat.reduceMul, Nat.reduceSub, Int.reduceToNat, reduceCtorEq, branch_decide, branch_not, branch_beq, branch_bne, Int.reduceAdd, Int.reduceEq, Int.reduceLE, Int.reduceLT, Nat.reduceLT, Nat.reduceLeDiff, false_imp_iff, true_imp_iff]
  have hmp := matching_pu l N M c mc (matchT (tab l) N M) hN hM (by omega) hve m3 m1
  rw [m3, m2] at hmp
  refine sp_call hmp rfl [0, 1] rfl ?_ ?_ ?_
  · simp only [push_cast, ↓branch_true, ↓branch_false, Nat.reduceBEq, Nat.reduceAdd, Nat.reduceMul, Nat.reduceSub, Int.reduceToNat, reduceCtorEq, branch_decide, branch_not, branch_beq, branch_bne, Int.reduceAdd, Int.reduceEq, Int.reduceLE, Int.reduceLT, Nat.reduceLT, Nat.reduceLeDiff, false_imp_iff, true_imp_iff]
  · simp only [push_cast, ↓branch_true, ↓branch_false, Nat.reduceBEq, Nat.reduceAdd, Nat.reduceMul, Nat.reduceSub, Int.reduceToNat, reduceCtorEq, branch_decide, branch_not, branch_beq, branch_bne, Int.reduceAdd, Int.reduceEq, Int.reduceLE, Int.reduceLT, Nat.reduceLT, Nat.reduceLeDiff, false_imp_iff, true_imp_iff, m3]
  have hcd := cover_dual N M (tab l)
  rw [← markL_cnt, ← markL_cnt] at hcd
  have la := markL_len (lft N M (tab l)) N
  have lb := markL_len (rgt N M (tab l)) M
  have sa := markL_sorted (lft N M (tab l)) N
  have sb := markL_sorted (rgt N M (tab l)) M
  have hca := fun e he => cover_all (l := l) (e := e) hve he
  generalize markL (lft N M (tab l)) N = A at *
  generalize markL (rgt N M (tab l)) M = B at *
  simp only [push_cast, ↓branch_true, ↓branch_false, Nat.reduceBEq, Nat.reduceAdd, Nat.reduceMul, Nat.reduceSub, Int.reduceToNat, reduceCtorEq, branch_decide, branch_not, branch_beq, branch_bne, Int.reduceAdd, Int.reduceEq, Int.reduceLE, Int.reduceLT, Nat.reduceLT, Nat.reduceLeDiff, false_imp_iff, true_imp_iff]
  repeat (with_reducible refine And.intro (by omega) ?_)
  refine ⟨fun _ => ?_, fun h => absurd (by omega) h⟩
  refine sp_call (sorted_pu A c1 (by omega) sa) rfl [2] rfl ?_ ?_ ?_
  · simp only [push_cast, ↓branch_true, ↓branch_false, Nat.reduceBEq, Nat.reduceAdd, Nat.reduceMul, Nat.reduceSub, Int.reduceToNat, reduceCtorEq, branch_decide, branch_not, branch_beq, branch_bne, Int.reduceAdd, Int.reduceEq, Int.reduceLE, Int.reduceLT, Nat.reduceLT, Nat.reduceLeDiff, false_imp_iff, true_imp_iff]
  · simp only [push_cast, ↓branch_true, ↓branch_false, Nat.reduceBEq, Nat.reduceAdd, Nat.reduceMul, Nat.reduceSub, Int.reduceToNat, reduceCtorEq, branch_decide, branch_not, branch_beq, branch_bne, Int.reduceAdd, Int.reduceEq, Int.reduceLE, Int.reduceLT, Nat.reduceLT, Nat.reduceLeDiff, false_imp_iff, true_imp_iff]
  simp only [push_cast, ↓branch_true, ↓branch_false, Nat.reduceBEq, Nat.reduceAdd, Nat.reduceMul, Nat.reduceSub, Int.reduceToNat, reduceCtorEq, branch_decide, branch_not, branch_beq, branch_bne, Int.reduceAdd, Int.reduceEq, Int.reduceLE, Int.reduceLT, Nat.reduceLT, Nat.reduceLeDiff, false_imp_iff, true_imp_iff]
  refine sp_call (sorted_pu B c2 (by omega) sb) rfl [3] rfl ?_ ?_ ?_
  · simp only [push_cast, ↓branch_true, ↓branch_false, Nat.reduceBEq, Nat.reduceAdd, Nat.reduceMul, Nat.reduceSub, Int.reduceToNat, reduceCtorEq, branch_decide, branch_not, branch_beq, branch_bne, Int.reduceAdd, Int.reduceEq, Int.reduceLE, Int.reduceLT, Nat.reduceLT, Nat.reduceLeDiff, false_imp_iff, true_imp_iff]
  · simp only [push_cast, ↓branch_true, ↓branch_false, Nat.reduceBEq, Nat.reduceAdd, Nat.reduceMul, Nat.reduceSub, Int.reduceToNat, reduceCtorEq, branch_decide, branch_not, branch_beq, branch_bne, Int.reduceAdd, Int.reduceEq, Int.reduceLE, Int.reduceLT, Nat.reduceLT, Nat.reduceLeDiff, false_imp_iff, true_imp_iff]
  simp only [push_cast, ↓branch_true, ↓branch_false, Nat.reduceBEq, Nat.reduceAdd, Nat.reduceMul, Nat.reduceSub, Int.reduceToNat, reduceCtorEq, branch_decide, branch_not, branch_beq, branch_bne, Int.reduceAdd, Int.reduceEq, Int.reduceLE, Int.reduceLT, Nat.reduceLT, Nat.reduceLeDiff, false_imp_iff, true_imp_iff]
  refine sp_call (containsEd_pu l c 30 [] [.p 1 0 0, .p 2 0 0] [⟨25, true, .st [.s 3 0 0 A.length c1 1]⟩, ⟨25, true, .st [.s 4 0 0 B.length c2 1]⟩, rR A, rR B] (fun e => !decide (e.x ∈ A) && !decide (e.y ∈ B)) rfl hl fun e _ => dual1_pu l A B c1 c2 e (by omega) (by omega)) rfl [0, 4, 5, 2, 3] rfl ?_ ?_ ?_
  · simp only [push_cast, ↓branch_true, ↓branch_false, Nat.reduceBEq, Nat.reduceAdd, Nat.reduceMul, Nat.reduceSub, Int.reduceToNat, reduceCtorEq, branch_decide, branch_not, branch_beq, branch_bne, Int.reduceAdd, Int.reduceEq, Int.reduceLE, Int.reduceLT, Nat.reduceLT, Nat.reduceLeDiff, false_imp_iff, true_imp_iff]
  · simp only [push_cast, ↓branch_true, ↓branch_false, Nat.reduceBEq, Nat.reduceAdd, Nat.reduceMul, Nat.reduceSub, Int.reduceToNat, reduceCtorEq, branch_decide, branch_not, branch_beq, branch_bne, Int.reduceAdd, Int.reduceEq, Int.reduceLE, Int.reduceLT, Nat.reduceLT, Nat.reduceLeDiff, false_imp_iff, true_imp_iff]
  rw [show (l.any fun e => !decide (e.x ∈ A) && !decide (e.y ∈ B)) = false from List.any_eq_false.2 fun e he => by rw [hca e he]; decide]
  simp only [push_cast, ↓branch_true, ↓branch_false, Nat.reduceBEq, Nat.reduceAdd, Nat.reduceMul, Nat.reduceSub, Int.reduceToNat, reduceCtorEq, branch_decide, branch_not, branch_beq, branch_bne, Int.reduceAdd, Int.reduceEq, Int.reduceLE, Int.reduceLT, Nat.reduceLT, Nat.reduceLeDiff, false_imp_iff, true_imp_iff]
end Go.Proofs.Ytmmabnoemckdiaa
