/- Contract: Degrees. -/
import Derived.Test.YtmmabnoemckdiaaJ
set_option maxRecDepth 100000
set_option linter.unusedSimpArgs false
set_option linter.unusedVariables false
namespace Go.Proofs.Ytmmabnoemckdiaa
open Go.RowKit Bip
def dgA (E : Nat → Nat → Bool) (k i : Nat) : Nat := ((List.range k).filter (E i)).length
def dgB (E : Nat → Nat → Bool) (n j : Nat) : Nat := ((List.range n).filter fun i => E i j).length
theorem dgA_succ (E : Nat → Nat → Bool) (k i : Nat) : dgA E (k + 1) i = dgA E k i + (bif E i k then 1 else 0) := by
  unfold dgA
  rw [List.range_succ, List.filter_append, List.length_append]
  cases h : E i k <;> simp [h]
theorem dgB_succ (E : Nat → Nat → Bool) (n j : Nat) : dgB E (n + 1) j = dgB E n j + (bif E n j then 1 else 0) := by
  unfold dgB
  rw [List.range_succ, List.filter_append, List.length_append]
  cases h : E n j <;> simp [h]
theorem dgA_le (E : Nat → Nat → Bool) (k i : Nat) : dgA E k i ≤ k := by
  have := List.length_filter_le (E i) (List.range k)
  simpa [dgA] using this
theorem dgB_le (E : Nat → Nat → Bool) (n j : Nat) : dgB E n j ≤ n := by
  have := List.length_filter_le (fun i => E i j) (List.range n)
  simpa [dgB] using this
theorem nbr_len (l : List Ed) (m i : Nat) : (nbr l m i).length = dgA (tab l) m i := by
  unfold nbr nearT dgA
  rw [List.length_map]
theorem nbr_nodup (l : List Ed) (m i : Nat) : (nbr l m i).Nodup := by
  unfold nbr nearT
  unfold List.Nodup
  rw [List.pairwise_map]
  exact (List.pairwise_lt_range.filter _).imp fun h e => by
    have e := Int.ofNat.inj e
    omega
/-- What has been counted when so many neighbours of a node have been looked at. -/
def cntK (l : List Ed) (m i q j : Nat) : Nat := dgB (tab l) i j + bif ((nbr l m i).take q).contains (j : Int) then 1 else 0
theorem cntK_succ {l : List Ed} {m i q : Nat} (hq : q < (nbr l m i).length) (j : Nat) : cntK l m i (q + 1) j = bif j == (ix (nbr l m i) q).toNat then cntK l m i q (ix (nbr l m i) q).toNat + 1 else cntK l m i q j := by
  have hnn : 0 ≤ ix (nbr l m i) q := by
    obtain ⟨a, h1, _⟩ := nearT_mem.1 (ix_mem hq)
    have h1 : ix (nbr l m i) q = a := h1
    omega
  have hnot : ix (nbr l m i) q ∉ (nbr l m i).take q := by
    have h := nbr_nodup l m i
    rw [← List.take_append_drop q (nbr l m i), List.drop_eq_getElem_cons hq, List.nodup_append] at h
    intro hm
    rw [ix_eq hq] at hm
    exact h.2.2 _ hm _ (List.mem_cons_self) rfl
  unfold cntK
  rw [take_snoc hq]
  generalize ix (nbr l m i) q = x at *
  by_cases e : j = x.toNat
  · subst e
    have e1 : ((x.toNat : Nat) : Int) = x := by omega
    have e2 : ((nbr l m i).take q).contains x = false := by
      rw [Bool.eq_false_iff]
      intro h
      exact hnot (List.contains_iff_mem.1 h)
    rw [e1, e2]
    simp
  · have h1 : (j == x.toNat) = false := by simpa using e
    have h2 : (j : Int) ≠ x := fun h => e (by omega)
    rw [h1, cond_false]
    congr 2
    rw [Bool.eq_iff_iff, List.contains_iff_mem, List.contains_iff_mem, List.mem_append, List.mem_singleton]
    exact ⟨fun h => h.resolve_right h2, .inl⟩
theorem cntK_all {l : List Ed} {m i j : Nat} (hj : j < m) : cntK l m i (nbr l m i).length j = dgB (tab l) (i + 1) j := by
  unfold cntK
  rw [List.take_length, dgB_succ]
  congr 2
  rw [Bool.eq_iff_iff, List.contains_iff_mem]
  unfold nbr
  rw [nearT_mem]
  exact ⟨fun ⟨a, h1, _, h3⟩ => by obtain rfl : j = a := by omega
                                  exact h3, fun h => ⟨j, rfl, hj, h⟩⟩
def degA (l : List Ed) (n m : Int) (i : Nat) : Int := (dgA (tab l) m.toNat i : Nat)
def degB (l : List Ed) (n m : Int) (j : Nat) : Int := (dgB (tab l) n.toNat j : Nat)
def szV (l : List Ed) (n m k : Int) : Nat := if validE n m l = true then k.toNat else 0
def uptI (w : Nat → Int) (q j : Nat) : Int := bif decide (j < q) then w j else 0
theorem uptI_succ (w : Nat → Int) (q j : Nat) : uptI w (q + 1) j = bif j == q then w q else uptI w q j := by
  unfold uptI
  by_cases e : j = q
  · subst e; simp
  · have h1 : (j == q) = false := by simpa using e
    rw [h1, cond_false]
    congr 1
    rw [decide_eq_decide]
    omega
theorem uptI_all {w : Nat → Int} {q j : Nat} (h : j < q) : uptI w q j = w j := by simp [uptI, h]
set_option maxHeartbeats 4000000 in
theorem degrees_sp (l : List Ed) (n m : Int) (c : Nat) (hl : l.length ≤ 9223372036854775807) : Sp Try.prog 21 [.v (.int .i64 n), .v (.int .i64 m), .s 0 0 0 l.length c 2] [rEd l]
    (fun r H => r = .t [.s 1 0 0 (szV l n m n) (szV l n m n) 1, .s 2 0 0 (szV l n m m) (szV l n m m) 1, .v (.int .i64 (errR l n m))] ∧ H = [rEd l, oI (szV l n m n) (szV l n m n) (degA l n m), oI (szV l n m m) (szV l n m m) (degB l n m)]) := by
  refine sp_weak ?_
  refine sp_of_ex true [(3, .jn (.one 0 (.one 2 (.alt [(1, .one 4 (.one 3 (.one 5 .fin))), (3, .one 1 (.one 4 (.one 5 .fin)))]))))] mixed Try.call21 Try.func21 rfl Try.ntmps21 Try.results21 (by decide +kernel) rfl ?_
  simp only [push_cast, ↓branch_true, ↓branch_false, Nat.reduceBEq, Nat.reduceAdd, Nat.reduceMul, Nat.reduceSub, Int.reduceToNat, reduceCtorEq, branch_decide, branch_not, branch_beq, branch_bne, Int.reduceAdd, Int.reduceEq, Int.reduceLE, Int.reduceLT, Nat.reduceLT, Nat.reduceLeDiff, false_imp_iff, true_imp_iff]
  refine sp_call (valid_pu l n m c hl) rfl [0] rfl (by simp only [push_cast, ↓branch_true, ↓branch_false, Nat.reduceBEq, Nat.reduceAdd, Nat.reduceMul, Nat.reduceSub, Int.reduceToNat, reduceCtorEq, branch_decide, branch_not, branch_beq, branch_bne, Int.reduceAdd, Int.reduceEq, Int.reduceLE, Int.reduceLT, Nat.reduceLT, Nat.reduceLeDiff, false_imp_iff, true_imp_iff]) (by simp only [push_cast, ↓branch_true, ↓branch_false, Nat.reduceBEq, Nat.reduceAdd, Nat.reduceMul, Nat.reduceSub, Int.reduceToNat, reduceCtorEq, branch_decide, branch_not, branch_beq, branch_bne, Int.reduceAdd, Int.reduceEq, Int.reduceLE, Int.reduceLT, Nat.reduceLT, Nat.reduceLeDiff, false_imp_iff, true_imp_iff]) ?_
  simp only [push_cast, ↓branch_true, ↓branch_false, Nat.reduceBEq, Nat.reduceAdd, Nat.reduceMul, Nat.reduceSub, Int.reduceToNat, reduceCtorEq, branch_decide, branch_not, branch_beq, branch_bne, Int.reduceAdd, Int.reduceEq, Int.reduceLE, Int.reduceLT, Nat.reduceLT, Nat.reduceLeDiff, false_imp_iff, true_imp_iff]
  cases hv : validE n m l with
  | false =>
    simp only [push_cast, ↓branch_true, ↓branch_false, Nat.reduceBEq, Nat.reduceAdd, Nat.reduceMul, Nat.reduceSub, Int.reduceToNat, reduceCtorEq, branch_decide, branch_not, branch_beq, branch_bne, Int.reduceAdd, Int.reduceEq, Int.reduceLE, Int.reduceLT, Nat.reduceLT, Nat.reduceLeDiff, false_imp_iff, true_imp_iff]
    have e2 : errR l n m = 1 := by simp [errR, hv]
    have e1 : ∀ k, szV l n m k = 0 := fun k => by simp [szV, hv]
    rw [e2, e1, e1]
    refine ⟨_, _, [0, 1000, 1001], ?_, by kernel_rfl, ?_, rfl, rfl⟩
    · simp only [push_cast, ↓branch_true, ↓branch_false, Nat.reduceBEq, Nat.reduceAdd, Nat.reduceMul, Nat.reduceSub, Int.reduceToNat, reduceCtorEq, branch_decide, branch_not, branch_beq, branch_bne, Int.reduceAdd, Int.reduceEq, Int.reduceLE, Int.reduceLT, Nat.reduceLT, Nat.reduceLeDiff, false_imp_iff, true_imp_iff]
    · simp only [push_cast, ↓branch_true, ↓branch_false, Nat.reduceBEq, Nat.reduceAdd, Nat.reduceMul, Nat.reduceSub, Int.reduceToNat, reduceCtorEq, branch_decide, branch_not, branch_beq, branch_bne, Int.reduceAdd, Int.reduceEq, Int.reduceLE, Int.reduceLT, Nat.reduceLT, Nat.reduceLeDiff, false_imp_iff, true_imp_iff]
      try omega
  | true =>
  have e3 : ∀ k, szV l n m k = k.toNat := fun k => by simp [szV, hv]
  rw [e3, e3]
  obtain ⟨N, M, rfl, rfl, hN, hM, hl2, hve⟩ := valid_of hv
  have e2 : errR l N M = 0 := by simp [errR, hv]
  rw [e2]
  simp only [push_cast, ↓branch_true, ↓branch_false, Nat.reduceBEq, Nat.reduceAdd, Nat.reduceMul, Nat.reduceSub, Int.reduceToNat, reduceCtorEq, branch_decide, branch_not, branch_beq, branch_bne, Int.reduceAdd, Int.reduceEq, Int.reduceLE, Int.reduceLT, Nat.reduceLT, Nat.reduceLeDiff, false_imp_iff, true_imp_iff]
  refine ⟨[(9, .s 1 0 0 N N 1), (10, .s 2 0 0 M M 1), (0, .v (.int .i64 N)), (1, .v (.int .i64 M)), (2, .s 0 0 0 l.length c 2)], [rEd l, oI N N (fun _ => 0), oI M M (fun _ => 0)], ?_, ?_⟩
  · repeat' (first | (with_reducible apply And.intro) | omega)
    · refine Mt.wk (rl := [0, 1, 2]) ⟨by kernel_rfl, ?_, ?_⟩
      · simp only [push_cast, ↓branch_true, ↓branch_false, Nat.reduceBEq, Nat.reduceAdd, Nat.reduceMul, Nat.reduceSub, Int.reduceToNat, reduceCtorEq, branch_decide, branch_not, branch_beq, branch_bne, Int.reduceAdd, Int.reduceEq, Int.reduceLE, Int.reduceLT, Nat.reduceLT, Nat.reduceLeDiff, false_imp_iff, true_imp_iff]
      · simp only [push_cast, ↓branch_true, ↓branch_false, Nat.reduceBEq, Nat.reduceAdd, Nat.reduceMul, Nat.reduceSub, Int.reduceToNat, reduceCtorEq, branch_decide, branch_not, branch_beq, branch_bne, Int.reduceAdd, Int.reduceEq, Int.reduceLE, Int.reduceLT, Nat.reduceLT, Nat.reduceLeDiff, false_imp_iff, true_imp_iff]
    · refine Mt.wk (rl := [0, 2, 1]) ⟨by kernel_rfl, ?_, ?_⟩
      · simp only [push_cast, ↓branch_true, ↓branch_false, Nat.reduceBEq, Nat.reduceAdd, Nat.reduceMul, Nat.reduceSub, Int.reduceToNat, reduceCtorEq, branch_decide, branch_not, branch_beq, branch_bne, Int.reduceAdd, Int.reduceEq, Int.reduceLE, Int.reduceLT, Nat.reduceLT, Nat.reduceLeDiff, false_imp_iff, true_imp_iff]
      · simp only [push_cast, ↓branch_true, ↓branch_false, Nat.reduceBEq, Nat.reduceAdd, Nat.reduceMul, Nat.reduceSub, Int.reduceToNat, reduceCtorEq, branch_decide, branch_not, branch_beq, branch_bne, Int.reduceAdd, Int.reduceEq, Int.reduceLE, Int.reduceLT, Nat.reduceLT, Nat.reduceLeDiff, false_imp_iff, true_imp_iff]
  simp only [push_cast, ↓branch_true, ↓branch_false, Nat.reduceBEq, Nat.reduceAdd, Nat.reduceMul, Nat.reduceSub, Int.reduceToNat, reduceCtorEq, branch_decide, branch_not, branch_beq, branch_bne, Int.reduceAdd, Int.reduceEq, Int.reduceLE, Int.reduceLT, Nat.reduceLT, Nat.reduceLeDiff, false_imp_iff, true_imp_iff, jnK]
  refine sp_at (lists_sp l N M c (by omega) (by omega) hve) [0] rfl ?_ ?_ ?_
  · simp only [push_cast, ↓branch_true, ↓branch_false, Nat.reduceBEq, Nat.reduceAdd, Nat.reduceMul, Nat.reduceSub, Int.reduceToNat, reduceCtorEq, branch_decide, branch_not, branch_beq, branch_bne, Int.reduceAdd, Int.reduceEq, Int.reduceLE, Int.reduceLT, Nat.reduceLT, Nat.reduceLeDiff, false_imp_iff, true_imp_iff]
    try trivial
  · simp only [push_cast, ↓branch_true, ↓branch_false, Nat.reduceBEq, Nat.reduceAdd, Nat.reduceMul, Nat.reduceSub, Int.reduceToNat, reduceCtorEq, branch_decide, branch_not, branch_beq, branch_bne, Int.reduceAdd, Int.reduceEq, Int.reduceLE, Int.reduceLT, Nat.reduceLT, Nat.reduceLeDiff, false_imp_iff, true_imp_iff]
    try trivial
  rintro _ _ ⟨cp, rfl, rfl⟩
  simp only [push_cast, ↓branch_true, ↓branch_false, Nat.reduceBEq, Nat.reduceAdd, Nat.reduceMul, Nat.reduceSub, Int.reduceToNat, reduceCtorEq, branch_decide, branch_not, branch_beq, branch_bne, Int.reduceAdd, Int.reduceEq, Int.reduceLE, Int.reduceLT, Nat.reduceLT, Nat.reduceLeDiff, false_imp_iff, true_imp_iff]
  repeat (with_reducible refine And.intro (by omega) ?_)
  refine tr_loop mixed (by kernel_rfl) (fun (i : Nat) => [(28, .v (.int .i64 i)), (27, .v (.int .i64 N)), (26, .s 3 0 0 N N 1), (9, .s 1 0 0 N N 1), (10, .s 2 0 0 M M 1)])
    (fun i => [rEd l, oI N N (uptI (degA l N M) i), oI M M (fun j => (dgB (tab l) i j : Nat)), oNe 4 N (nbr l M) cp, oNf N (nbr l M)]) (fun i => i ≤ N) (fun i => N - i) 0 (Nat.zero_le _) (Mt.wk (rl := [0, 1, 2, 3, 4]) ⟨by kernel_rfl, ?_, ?_⟩) ?_
  · simp only [push_cast, ↓branch_true, ↓branch_false, Nat.reduceBEq, Nat.reduceAdd, Nat.reduceMul, Nat.reduceSub, Int.reduceToNat, reduceCtorEq, branch_decide, branch_not, branch_beq, branch_bne, Int.reduceAdd, Int.reduceEq, Int.reduceLE, Int.reduceLT, Nat.reduceLT, Nat.reduceLeDiff, false_imp_iff, true_imp_iff]
    try trivial
  · simp only [push_cast, ↓branch_true, ↓branch_false, Nat.reduceBEq, Nat.reduceAdd, Nat.reduceMul, Nat.reduceSub, Int.reduceToNat, reduceCtorEq, branch_decide, branch_not, branch_beq, branch_bne, Int.reduceAdd, Int.reduceEq, Int.reduceLE, Int.reduceLT, Nat.reduceLT, Nat.reduceLeDiff, false_imp_iff, true_imp_iff]
    exact ⟨fun _ _ k _ => by simp [uptI], fun _ _ k _ => by simp [dgB]⟩
  intro i hi
  simp only [push_cast, ↓branch_true, ↓branch_false, Nat.reduceBEq, Nat.reduceAdd, Nat.reduceMul, Nat.reduceSub, Int.reduceToNat, reduceCtorEq, branch_decide, branch_not, branch_beq, branch_bne, Int.reduceAdd, Int.reduceEq, Int.reduceLE, Int.reduceLT, Nat.reduceLT, Nat.reduceLeDiff, false_imp_iff, true_imp_iff]
  refine ⟨fun h0 => ?_, fun h0 => ?_⟩
  · have hiN : i < N := by omega
    have hus := uptI_succ (degA l N M) i
    have hda : degA l N M i = ((nbr l M i).length : Nat) := by rw [nbr_len]; rfl
    repeat (with_reducible refine And.intro (by omega) ?_)
    refine tr_loop mixed (by kernel_rfl) (fun (q : Nat) => [(40, .v (.int .i64 q)), (39, .v (.int .i64 (nbr l M i).length)), (38, .s 4 i 0 (nbr l M i).length (cp i) 1), (28, .v (.int .i64 i)), (27, .v (.int .i64 N)), (26, .s 3 0 0 N N 1), (9, .s 1 0 0 N N 1), (10, .s 2 0 0 M M 1)])
      (fun q => [rEd l, oI N N (uptI (degA l N M) (i + 1)), oI M M (fun j => (cntK l M i q j : Nat)), oNe 4 N (nbr l M) cp, oNf N (nbr l M)]) (fun q => q ≤ (nbr l M i).length) (fun q => (nbr l M i).length - q) 0 (Nat.zero_le _) (Mt.wk (rl := [0, 1, 2, 3, 4]) ⟨by kernel_rfl, ?_, ?_⟩) ?_
    · simp only [push_cast, ↓branch_true, ↓branch_false, Nat.reduceBEq, Nat.reduceAdd, Nat.reduceMul, Nat.reduceSub, Int.reduceToNat, reduceCtorEq, branch_decide, branch_not, branch_beq, branch_bne, Int.reduceAdd, Int.reduceEq, Int.reduceLE, Int.reduceLT, Nat.reduceLT, Nat.reduceLeDiff, false_imp_iff, true_imp_iff]
      try trivial
    · simp only [push_cast, ↓branch_true, ↓branch_false, Nat.reduceBEq, Nat.reduceAdd, Nat.reduceMul, Nat.reduceSub, Int.reduceToNat, reduceCtorEq, branch_decide, branch_not, branch_beq, branch_bne, Int.reduceAdd, Int.reduceEq, Int.reduceLE, Int.reduceLT, Nat.reduceLT, Nat.reduceLeDiff, false_imp_iff, true_imp_iff, hus, hda]
      exact ⟨fun _ hi1 _ _ => upI hi1, fun _ _ k _ => by simp [cntK]⟩
    intro q hq
    simp only [push_cast, ↓branch_true, ↓branch_false, Nat.reduceBEq, Nat.reduceAdd, Nat.reduceMul, Nat.reduceSub, Int.reduceToNat, reduceCtorEq, branch_decide, branch_not, branch_beq, branch_bne, Int.reduceAdd, Int.reduceEq, Int.reduceLE, Int.reduceLT, Nat.reduceLT, Nat.reduceLeDiff, false_imp_iff, true_imp_iff]
    refine ⟨fun h1 => ?_, fun h1 => ?_⟩
    · have hq2 : q < (nbr l M i).length := by omega
      have hx := (nbr_ok l N M (by omega)).nn i _ (ix_mem hq2)
      have hcs := cntK_succ hq2
      have hcl := dgB_le (tab l) i (ix (nbr l M i) q).toNat
      have hc2 : cntK l M i q (ix (nbr l M i) q).toNat ≤ 100 := by
        unfold cntK
        cases ((nbr l M i).take q).contains ((ix (nbr l M i) q).toNat : Int) <;> simp <;> omega
      have hnl := (nbr_ok l N M (by omega)).len i
      have hcsI : ∀ j, ((cntK l M i (q + 1) j : Nat) : Int) = bif j == (ix (nbr l M i) q).toNat then ((cntK l M i q (ix (nbr l M i) q).toNat : Nat) : Int) + 1 else ((cntK l M i q j : Nat) : Int) := fun j => by
        rw [hcs]
        cases j == (ix (nbr l M i) q).toNat <;> simp
      repeat (with_reducible refine And.intro (by omega) ?_)
      refine lpK_normal (q + 1) [0, 1, 2, 3, 4] (by omega) (by omega) (by kernel_rfl) ?_ ?_
      · simp only [push_cast, ↓branch_true, ↓branch_false, Nat.reduceBEq, Nat.reduceAdd, Nat.reduceMul, Nat.reduceSub, Int.reduceToNat, reduceCtorEq, branch_decide, branch_not, branch_beq, branch_bne, Int.reduceAdd, Int.reduceEq, Int.reduceLE, Int.reduceLT, Nat.reduceLT, Nat.reduceLeDiff, false_imp_iff, true_imp_iff]
      · simp only [push_cast, ↓branch_true, ↓branch_false, Nat.reduceBEq, Nat.reduceAdd, Nat.reduceMul, Nat.reduceSub, Int.reduceToNat, reduceCtorEq, branch_decide, branch_not, branch_beq, branch_bne, Int.reduceAdd, Int.reduceEq, Int.reduceLE, Int.reduceLT, Nat.reduceLT, Nat.reduceLeDiff, false_imp_iff, true_imp_iff, hcsI]
        exact fun _ hi1 _ _ => upI hi1
    · obtain rfl : q = (nbr l M i).length := by omega
      repeat (with_reducible refine And.intro (by omega) ?_)
      refine lpK_normal (i + 1) [0, 1, 2, 3, 4] (by omega) (by omega) (by kernel_rfl) ?_ ?_
      · simp only [push_cast, ↓branch_true, ↓branch_false, Nat.reduceBEq, Nat.reduceAdd, Nat.reduceMul, Nat.reduceSub, Int.reduceToNat, reduceCtorEq, branch_decide, branch_not, branch_beq, branch_bne, Int.reduceAdd, Int.reduceEq, Int.reduceLE, Int.reduceLT, Nat.reduceLT, Nat.reduceLeDiff, false_imp_iff, true_imp_iff]
      · simp only [push_cast, ↓branch_true, ↓branch_false, Nat.reduceBEq, Nat.reduceAdd, Nat.reduceMul, Nat.reduceSub, Int.reduceToNat, reduceCtorEq, branch_decide, branch_not, branch_beq, branch_bne, Int.reduceAdd, Int.reduceEq, Int.reduceLE, Int.reduceLT, Nat.reduceLT, Nat.reduceLeDiff, false_imp_iff, true_imp_iff]
        exact fun _ _ k hk => by rw [cntK_all hk]
  · obtain rfl : i = N := by omega
    refine ⟨_, _, [0, 1, 2], ?_, by kernel_rfl, ?_, rfl, rfl⟩
    · simp only [push_cast, ↓branch_true, ↓branch_false, Nat.reduceBEq, Nat.reduceAdd, Nat.reduceMul, Nat.reduceSub, Int.reduceToNat, reduceCtorEq, branch_decide, branch_not, branch_beq, branch_bne, Int.reduceAdd, Int.reduceEq, Int.reduceLE, Int.reduceLT, Nat.reduceLT, Nat.reduceLeDiff, false_imp_iff, true_imp_iff]
    · simp only [push_cast, ↓branch_true, ↓branch_false, Nat.reduceBEq, Nat.reduceAdd, Nat.reduceMul, Nat.reduceSub, Int.reduceToNat, reduceCtorEq, branch_decide, branch_not, branch_beq, branch_bne, Int.reduceAdd, Int.reduceEq, Int.reduceLE, Int.reduceLT, Nat.reduceLT, Nat.reduceLeDiff, false_imp_iff, true_imp_iff, degB, Int.toNat_natCast]
      exact fun _ _ k hk => by rw [uptI_all hk]
end Go.Proofs.Ytmmabnoemckdiaa
