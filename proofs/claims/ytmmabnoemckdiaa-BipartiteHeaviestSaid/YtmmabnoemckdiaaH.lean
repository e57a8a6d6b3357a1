/- Contract: Match. -/
import Derived.Test.YtmmabnoemckdiaaGB
set_option maxRecDepth 100000
set_option linter.unusedSimpArgs false
set_option linter.unusedVariables false
namespace Go.Proofs.Ytmmabnoemckdiaa
open Go.RowKit Bip
/-- Two orders that come to one state. -/
theorem both {α : Type} {A : α → Prop} {X Y : Prop} (h1 : (∀ x, A x) → X) (h2 : (∀ x, A x) → Y) (h : ∀ x, A x) : X ∧ Y := ⟨h1 h, h2 h⟩
theorem lftN_all (n : Nat) : lftN (allL n) = List.range n := by
  unfold lftN allL
  rw [List.map_map]
  exact (List.map_congr_left fun _ _ => by simp).trans (List.map_id _)
theorem size_all {l : List Ed} {N m : Nat} : szOf (nbr l m) m (fun _ => false) (List.range N) = nuT N m (tab l) := rfl
theorem lft_drop (N i : Nat) : lftN ((allL N).drop i) = (List.range N).drop i := by
  rw [← lftN_all, lftN, lftN, List.map_drop]
theorem mem_drop_range {N i a : Nat} : a ∈ (List.range N).drop i ↔ i ≤ a ∧ a < N := by
  rw [List.mem_iff_getElem]
  constructor
  · rintro ⟨q, hq, rfl⟩
    simp at hq ⊢
    omega
  · rintro ⟨h1, h2⟩
    exact ⟨a - i, by simp; omega, by simp; omega⟩
theorem size_rest {l : List Ed} {N m i : Nat} {tk : Nat → Bool} : szOf (nbr l m) m tk ((List.range N).drop i) = nuT N m (restE (tab l) i tk) := by
  unfold nbr
  rw [size_eq (n := N) (fun a ha => (mem_drop_range.1 ha).2) (List.nodup_range.sublist (List.drop_sublist _ _))]
  refine nuT_congr fun a b ha _ => ?_
  unfold restE
  congr 2
  rw [Bool.eq_iff_iff, List.contains_iff_mem, mem_drop_range, decide_eq_true_eq]
  exact ⟨fun h => h.1, fun h => ⟨h, ha⟩⟩
/-- What a right node must be to be chosen. -/
def okP (l : List Ed) (N m i left : Nat) (tk : Nat → Bool) (k : Nat) : Bool := !tk k && decide (nuT N m (restE (tab l) (i + 1) (upd tk k true)) + 1 = left)
/-- The partner that is chosen, in a list of neighbours. -/
theorem pick_nbr {l : List Ed} {N m i left : Nat} {tk : Nat → Bool} : pickS (tab l) N m i tk left = ((nbr l m i).map Int.toNat).find? (okP l N m i left tk) := by
  unfold pickS nbr nearT
  rw [List.map_map]
  have e : (List.filter (tab l i) (List.range m)).map (Int.toNat ∘ Int.ofNat) = List.filter (tab l i) (List.range m) := (List.map_congr_left fun _ _ => by simp).trans (List.map_id _)
  rw [e, List.find?_filter]
  congr 1
  funext k
  unfold okP
  cases tab l i k <;> simp
theorem find_at {p : Nat → Bool} : ∀ (l : List Int) (k : Nat), k < l.length → (∀ q, q < k → p (ix l q).toNat = false) → p (ix l k).toNat = true → (l.map Int.toNat).find? p = some (ix l k).toNat
  | [], k, hk, _, _ => by simp at hk
  | x :: l, 0, _, _, hp => by
    have : p x.toNat = true := hp
    simp [this, ix]
  | x :: l, k + 1, hk, hn, hp => by
    have h0 : p x.toNat = false := hn 0 (by omega)
    rw [List.map_cons, List.find?_cons, h0]
    exact find_at l k (by simpa using hk) (fun q hq => hn (q + 1) (by omega)) hp
theorem find_no {p : Nat → Bool} : ∀ (l : List Int), (∀ q, q < l.length → p (ix l q).toNat = false) → (l.map Int.toNat).find? p = none
  | [], _ => rfl
  | x :: l, hn => by
    have h0 : p x.toNat = false := hn 0 (by simp)
    rw [List.map_cons, List.find?_cons, h0]
    exact find_no l fun q hq => hn (q + 1) (by simpa using hq)
theorem match_some {l : List Ed} {N m i left k : Nat} {tk : Nat → Bool} {out : List Int} (hi : i < N) (hk : k < (nbr l m i).length) (hn : ∀ q, q < k → okP l N m i left tk (ix (nbr l m i) q).toNat = false) (hp : okP l N m i left tk (ix (nbr l m i) k).toNat = true) :
    out ++ matchS (tab l) N m (N - i) i tk left = (out ++ [ix (nbr l m i) k]) ++ matchS (tab l) N m (N - (i + 1)) (i + 1) (upd tk (ix (nbr l m i) k).toNat true) (left - 1) := by
  have e : N - i = (N - (i + 1)) + 1 := by omega
  have h0 : 0 ≤ ix (nbr l m i) k := by
    obtain ⟨j, hj, _⟩ := nearT_mem.1 (ix_mem hk)
    have hj' : ix (nbr l m i) k = j := hj
    omega
  rw [e, matchS, pick_nbr, find_at (p := okP l N m i left tk) _ k hk hn hp]
  simp only [List.append_assoc, List.cons_append, List.nil_append]
  rw [show (((ix (nbr l m i) k).toNat : Nat) : Int) = ix (nbr l m i) k by omega]
theorem match_none {l : List Ed} {N m i left : Nat} {tk : Nat → Bool} {out : List Int} (hi : i < N) (hn : ∀ q, q < (nbr l m i).length → okP l N m i left tk (ix (nbr l m i) q).toNat = false) :
    out ++ matchS (tab l) N m (N - i) i tk left = (out ++ [-1]) ++ matchS (tab l) N m (N - (i + 1)) (i + 1) tk left := by
  have e : N - i = (N - (i + 1)) + 1 := by omega
  rw [e, matchS, pick_nbr, find_no (p := okP l N m i left tk) _ hn]
  simp only [List.append_assoc, List.cons_append, List.nil_append]
def matchR (l : List Ed) (n m : Int) : List Int := if validE n m l = true then matchT (tab l) n.toNat m.toNat else []
def errR (l : List Ed) (n m : Int) : Int := if validE n m l = true then 0 else 1
theorem valid_of {l : List Ed} {n m : Int} (h : validE n m l = true) : ∃ N M : Nat, n = N ∧ m = M ∧ N ≤ 60 ∧ M ≤ 60 ∧ l.length ≤ 1000 ∧ ∀ e ∈ l, inE N M e = true := by
  simp only [validE, Bool.and_eq_true, decide_eq_true_eq, List.all_eq_true] at h
  obtain ⟨h1, h2, h3, h4, h5, h6⟩ := h
  refine ⟨n.toNat, m.toNat, by omega, by omega, by omega, by omega, h5, fun e he => ?_⟩
  rw [show ((n.toNat : Nat) : Int) = n by omega, show ((m.toNat : Nat) : Int) = m by omega]
  exact h6 e he
set_option maxHeartbeats 4000000 in
theorem match_sp (l : List Ed) (n m : Int) (c : Nat) (hl : l.length ≤ 9223372036854775807) : Sp Try.prog 20 [.v (.int .i64 n), .v (.int .i64 m), .s 0 0 0 l.length c 2] [rEd l]
    (fun r H => ∃ cap, (matchR l n m).length ≤ cap ∧ r = .t [.s 1 0 0 (matchR l n m).length cap 1, .v (.int .i64 (errR l n m))] ∧ H = [rEd l, rIO (matchR l n m) cap]) := by
  refine sp_weak ?_
  refine sp_of_ex true [(3, .one 0 (.one 1 (.one 3 (.alt [(2, .one 5 (.one 4 (.one 6 .fin))), (4, .one 2 (.one 5 (.one 6 .fin)))]))))] mixed Try.call20 Try.func20 rfl Try.ntmps20 Try.results20 (by decide +kernel) rfl ?_
  simp only [push_cast, ↓branch_true, ↓branch_false, Nat.reduceBEq, Nat.reduceAdd, Nat.reduceMul, Nat.reduceSub, Int.reduceToNat, reduceCtorEq, branch_decide, branch_not, branch_beq, branch_bne, Int.reduceAdd, Int.reduceEq, Int.reduceLE, Int.reduceLT, Nat.reduceLT, Nat.reduceLeDiff, false_imp_iff, true_imp_iff]
  refine sp_call (valid_pu l n m c hl) rfl [0] rfl (by simp only [push_cast, ↓branch_true, ↓branch_false, Nat.reduceBEq, Nat.reduceAdd, Nat.reduceMul, Nat.reduceSub, Int.reduceToNat, reduceCtorEq, branch_decide, branch_not, branch_beq, branch_bne, Int.reduceAdd, Int.reduceEq, Int.reduceLE, Int.reduceLT, Nat.reduceLT, Nat.reduceLeDiff, false_imp_iff, true_imp_iff]) (by simp only [push_cast, ↓branch_true, ↓branch_false, Nat.reduceBEq, Nat.reduceAdd, Nat.reduceMul, Nat.reduceSub, Int.reduceToNat, reduceCtorEq, branch_decide, branch_not, branch_beq, branch_bne, Int.reduceAdd, Int.reduceEq, Int.reduceLE, Int.reduceLT, Nat.reduceLT, Nat.reduceLeDiff, false_imp_iff, true_imp_iff]) ?_
  simp only [push_cast, ↓branch_true, ↓branch_false, Nat.reduceBEq, Nat.reduceAdd, Nat.reduceMul, Nat.reduceSub, Int.reduceToNat, reduceCtorEq, branch_decide, branch_not, branch_beq, branch_bne, Int.reduceAdd, Int.reduceEq, Int.reduceLE, Int.reduceLT, Nat.reduceLT, Nat.reduceLeDiff, false_imp_iff, true_imp_iff]
  cases hv : validE n m l with
  | false =>
    simp only [push_cast, ↓branch_true, ↓branch_false, Nat.reduceBEq, Nat.reduceAdd, Nat.reduceMul, Nat.reduceSub, Int.reduceToNat, reduceCtorEq, branch_decide, branch_not, branch_beq, branch_bne, Int.reduceAdd, Int.reduceEq, Int.reduceLE, Int.reduceLT, Nat.reduceLT, Nat.reduceLeDiff, false_imp_iff, true_imp_iff]
    have e1 : matchR l n m = [] := by simp [matchR, hv]
    have e2 : errR l n m = 1 := by simp [errR, hv]
    rw [e1, e2]
    refine ⟨_, _, [0, 1000], ?_, by kernel_rfl, ?_, 0, Nat.le_refl _, rfl, rfl⟩
    · simp only [push_cast, ↓branch_true, ↓branch_false, Nat.reduceBEq, Nat.reduceAdd, Nat.reduceMul, Nat.reduceSub, Int.reduceToNat, reduceCtorEq, branch_decide, branch_not, branch_beq, branch_bne, Int.reduceAdd, Int.reduceEq, Int.reduceLE, Int.reduceLT, Nat.reduceLT, Nat.reduceLeDiff, false_imp_iff, true_imp_iff]
    · simp only [push_cast, ↓branch_true, ↓branch_false, Nat.reduceBEq, Nat.reduceAdd, Nat.reduceMul, Nat.reduceSub, Int.reduceToNat, reduceCtorEq, branch_decide, branch_not, branch_beq, branch_bne, Int.reduceAdd, Int.reduceEq, Int.reduceLE, Int.reduceLT, Nat.reduceLT, Nat.reduceLeDiff, false_imp_iff, true_imp_iff]
      try omega
  | true =>
  obtain ⟨N, M, rfl, rfl, hN, hM, hl2, hve⟩ := valid_of hv
  have e1 : matchR l N M = matchT (tab l) N M := by simp [matchR, hv]
  have e2 : errR l N M = 0 := by simp [errR, hv]
  rw [e1, e2]
  have hmok := matchT_ok (tab l) N M
  rw [hmok.2.2]
  simp only [push_cast, ↓branch_true, ↓branch_false, Nat.reduceBEq, Nat.reduceAdd, Nat.reduceMul, Nat.reduceSub, Int.reduceToNat, reduceCtorEq, branch_decide, branch_not, branch_beq, branch_bne, Int.reduceAdd, Int.reduceEq, Int.reduceLE, Int.reduceLT, Nat.reduceLT, Nat.reduceLeDiff, false_imp_iff, true_imp_iff]
  apply both (α := Nat → Nat)
  case h1 =>
    intro key
    refine sp_at (lists_sp l N M c (by omega) (by omega) hve) [0] rfl ?_ ?_ ?_
    · simp only [push_cast, ↓branch_true, ↓branch_false, Nat.reduceBEq, Nat.reduceAdd, Nat.reduceMul, Nat.reduceSub, Int.reduceToNat, reduceCtorEq, branch_decide, branch_not, branch_beq, branch_bne, Int.reduceAdd, Int.reduceEq, Int.reduceLE, Int.reduceLT, Nat.reduceLT, Nat.reduceLeDiff, false_imp_iff, true_imp_iff]
      try trivial
    · simp only [push_cast, ↓branch_true, ↓branch_false, Nat.reduceBEq, Nat.reduceAdd, Nat.reduceMul, Nat.reduceSub, Int.reduceToNat, reduceCtorEq, branch_decide, branch_not, branch_beq, branch_bne, Int.reduceAdd, Int.reduceEq, Int.reduceLE, Int.reduceLT, Nat.reduceLT, Nat.reduceLeDiff, false_imp_iff, true_imp_iff]
      try trivial
    rintro _ _ ⟨cp, rfl, rfl⟩
    simp only [push_cast, ↓branch_true, ↓branch_false, Nat.reduceBEq, Nat.reduceAdd, Nat.reduceMul, Nat.reduceSub, Int.reduceToNat, reduceCtorEq, branch_decide, branch_not, branch_beq, branch_bne, Int.reduceAdd, Int.reduceEq, Int.reduceLE, Int.reduceLT, Nat.reduceLT, Nat.reduceLeDiff, false_imp_iff, true_imp_iff]
    repeat (with_reducible refine And.intro (by omega) ?_)
    refine sp_at (all_sp N (by omega)) [] rfl ?_ ?_ ?_
    · simp only [push_cast, ↓branch_true, ↓branch_false, Nat.reduceBEq, Nat.reduceAdd, Nat.reduceMul, Nat.reduceSub, Int.reduceToNat, reduceCtorEq, branch_decide, branch_not, branch_beq, branch_bne, Int.reduceAdd, Int.reduceEq, Int.reduceLE, Int.reduceLT, Nat.reduceLT, Nat.reduceLeDiff, false_imp_iff, true_imp_iff]
      try trivial
    · simp only [push_cast, ↓branch_true, ↓branch_false, Nat.reduceBEq, Nat.reduceAdd, Nat.reduceMul, Nat.reduceSub, Int.reduceToNat, reduceCtorEq, branch_decide, branch_not, branch_beq, branch_bne, Int.reduceAdd, Int.reduceEq, Int.reduceLE, Int.reduceLT, Nat.reduceLT, Nat.reduceLeDiff, false_imp_iff, true_imp_iff]
      try trivial
    rintro _ _ ⟨oc, hoc, rfl, rfl⟩
    simp only [push_cast, ↓branch_true, ↓branch_false, Nat.reduceBEq, Nat.reduceAdd, Nat.reduceMul, Nat.reduceSub, Int.reduceToNat, reduceCtorEq, branch_decide, branch_not, branch_beq, branch_bne, Int.reduceAdd, Int.reduceEq, Int.reduceLE, Int.reduceLT, Nat.reduceLT, Nat.reduceLeDiff, false_imp_iff, true_imp_iff]
    have hs := size_pu N oc M cp (fun _ => false) (allL N) (allL N) 0 (by simp) (by omega) (by omega : N ≤ 1000000) (by omega : M ≤ 1000000) (nbr_ok l N M (by omega)) (by rw [allL_len]; omega) (fun x hx => by
      obtain ⟨a, ha, rfl⟩ := List.mem_map.1 hx
      have := List.mem_range.1 ha
      omega) (Nat.le_refl M)
    rw [allL_len, lftN_all, size_all] at hs
    refine sp_call hs rfl [1, 2, 4, 3] rfl ?_ ?_ ?_
    · simp only [push_cast, ↓branch_true, ↓branch_false, Nat.reduceBEq, Nat.reduceAdd, Nat.reduceMul, Nat.reduceSub, Int.reduceToNat, reduceCtorEq, branch_decide, branch_not, branch_beq, branch_bne, Int.reduceAdd, Int.reduceEq, Int.reduceLE, Int.reduceLT, Nat.reduceLT, Nat.reduceLeDiff, false_imp_iff, true_imp_iff]
      try trivial
    · simp only [push_cast, ↓branch_true, ↓branch_false, Nat.reduceBEq, Nat.reduceAdd, Nat.reduceMul, Nat.reduceSub, Int.reduceToNat, reduceCtorEq, branch_decide, branch_not, branch_beq, branch_bne, Int.reduceAdd, Int.reduceEq, Int.reduceLE, Int.reduceLT, Nat.reduceLT, Nat.reduceLeDiff, false_imp_iff, true_imp_iff]
      try trivial
    simp only [push_cast, ↓branch_true, ↓branch_false, Nat.reduceBEq, Nat.reduceAdd, Nat.reduceMul, Nat.reduceSub, Int.reduceToNat, reduceCtorEq, branch_decide, branch_not, branch_beq, branch_bne, Int.reduceAdd, Int.reduceEq, Int.reduceLE, Int.reduceLT, Nat.reduceLT, Nat.reduceLeDiff, false_imp_iff, true_imp_iff]
    refine tr_mt (σ' := [(32, .v (.int .i64 0)), (31, .v (.int .i64 N)), (11, .v (.slice none 0 0)), (10, .v (.int .i64 (nuT N M (tab l) : Nat))), (9, .s 3 0 0 M M 1), (8, .s 1 0 0 N N 1), (0, .v (.int .i64 N))]) (H' := [rEd l, oNe 2 N (nbr l M) cp, oNf N (nbr l M), oB M M (fun _ => false)]) [0, 1, 2, 3] ⟨by kernel_rfl, ?_, ?_⟩ (key cp)
    · simp only [push_cast, ↓branch_true, ↓branch_false, Nat.reduceBEq, Nat.reduceAdd, Nat.reduceMul, Nat.reduceSub, Int.reduceToNat, reduceCtorEq, branch_decide, branch_not, branch_beq, branch_bne, Int.reduceAdd, Int.reduceEq, Int.reduceLE, Int.reduceLT, Nat.reduceLT, Nat.reduceLeDiff, false_imp_iff, true_imp_iff]
      try trivial
    · simp only [push_cast, ↓branch_true, ↓branch_false, Nat.reduceBEq, Nat.reduceAdd, Nat.reduceMul, Nat.reduceSub, Int.reduceToNat, reduceCtorEq, branch_decide, branch_not, branch_beq, branch_bne, Int.reduceAdd, Int.reduceEq, Int.reduceLE, Int.reduceLT, Nat.reduceLT, Nat.reduceLeDiff, false_imp_iff, true_imp_iff]
      try trivial
  case h2 =>
    intro key
    repeat (with_reducible refine And.intro (by omega) ?_)
    refine sp_at (lists_sp l N M c (by omega) (by omega) hve) [0] rfl ?_ ?_ ?_
    · simp only [push_cast, ↓branch_true, ↓branch_false, Nat.reduceBEq, Nat.reduceAdd, Nat.reduceMul, Nat.reduceSub, Int.reduceToNat, reduceCtorEq, branch_decide, branch_not, branch_beq, branch_bne, Int.reduceAdd, Int.reduceEq, Int.reduceLE, Int.reduceLT, Nat.reduceLT, Nat.reduceLeDiff, false_imp_iff, true_imp_iff]
      try trivial
    · simp only [push_cast, ↓branch_true, ↓branch_false, Nat.reduceBEq, Nat.reduceAdd, Nat.reduceMul, Nat.reduceSub, Int.reduceToNat, reduceCtorEq, branch_decide, branch_not, branch_beq, branch_bne, Int.reduceAdd, Int.reduceEq, Int.reduceLE, Int.reduceLT, Nat.reduceLT, Nat.reduceLeDiff, false_imp_iff, true_imp_iff]
      try trivial
    rintro _ _ ⟨cp, rfl, rfl⟩
    simp only [push_cast, ↓branch_true, ↓branch_false, Nat.reduceBEq, Nat.reduceAdd, Nat.reduceMul, Nat.reduceSub, Int.reduceToNat, reduceCtorEq, branch_decide, branch_not, branch_beq, branch_bne, Int.reduceAdd, Int.reduceEq, Int.reduceLE, Int.reduceLT, Nat.reduceLT, Nat.reduceLeDiff, false_imp_iff, true_imp_iff]
    repeat (with_reducible refine And.intro (by omega) ?_)
    refine sp_at (all_sp N (by omega)) [] rfl ?_ ?_ ?_
    · simp only [push_cast, ↓branch_true, ↓branch_false, Nat.reduceBEq, Nat.reduceAdd, Nat.reduceMul, Nat.reduceSub, Int.reduceToNat, reduceCtorEq, branch_decide, branch_not, branch_beq, branch_bne, Int.reduceAdd, Int.reduceEq, Int.reduceLE, Int.reduceLT, Nat.reduceLT, Nat.reduceLeDiff, false_imp_iff, true_imp_iff]
      try trivial
    · simp only [push_cast, ↓branch_true, ↓branch_false, Nat.reduceBEq, Nat.reduceAdd, Nat.reduceMul, Nat.reduceSub, Int.reduceToNat, reduceCtorEq, branch_decide, branch_not, branch_beq, branch_bne, Int.reduceAdd, Int.reduceEq, Int.reduceLE, Int.reduceLT, Nat.reduceLT, Nat.reduceLeDiff, false_imp_iff, true_imp_iff]
      try trivial
    rintro _ _ ⟨oc, hoc, rfl, rfl⟩
    simp only [push_cast, ↓branch_true, ↓branch_false, Nat.reduceBEq, Nat.reduceAdd, Nat.reduceMul, Nat.reduceSub, Int.reduceToNat, reduceCtorEq, branch_decide, branch_not, branch_beq, branch_bne, Int.reduceAdd, Int.reduceEq, Int.reduceLE, Int.reduceLT, Nat.reduceLT, Nat.reduceLeDiff, false_imp_iff, true_imp_iff]
    have hs := size_pu N oc M cp (fun _ => false) (allL N) (allL N) 0 (by simp) (by omega) (by omega : N ≤ 1000000) (by omega : M ≤ 1000000) (nbr_ok l N M (by omega)) (by rw [allL_len]; omega) (fun x hx => by
      obtain ⟨a, ha, rfl⟩ := List.mem_map.1 hx
      have := List.mem_range.1 ha
      omega) (Nat.le_refl M)
    rw [allL_len, lftN_all, size_all] at hs
    refine sp_call hs rfl [2, 3, 4, 1] rfl ?_ ?_ ?_
    · simp only [push_cast, ↓branch_true, ↓branch_false, Nat.reduceBEq, Nat.reduceAdd, Nat.reduceMul, Nat.reduceSub, Int.reduceToNat, reduceCtorEq, branch_decide, branch_not, branch_beq, branch_bne, Int.reduceAdd, Int.reduceEq, Int.reduceLE, Int.reduceLT, Nat.reduceLT, Nat.reduceLeDiff, false_imp_iff, true_imp_iff]
      try trivial
    · simp only [push_cast, ↓branch_true, ↓branch_false, Nat.reduceBEq, Nat.reduceAdd, Nat.reduceMul, Nat.reduceSub, Int.reduceToNat, reduceCtorEq, branch_decide, branch_not, branch_beq, branch_bne, Int.reduceAdd, Int.reduceEq, Int.reduceLE, Int.reduceLT, Nat.reduceLT, Nat.reduceLeDiff, false_imp_iff, true_imp_iff]
      try trivial
    simp only [push_cast, ↓branch_true, ↓branch_false, Nat.reduceBEq, Nat.reduceAdd, Nat.reduceMul, Nat.reduceSub, Int.reduceToNat, reduceCtorEq, branch_decide, branch_not, branch_beq, branch_bne, Int.reduceAdd, Int.reduceEq, Int.reduceLE, Int.reduceLT, Nat.reduceLT, Nat.reduceLeDiff, false_imp_iff, true_imp_iff]
    refine tr_mt (σ' := [(32, .v (.int .i64 0)), (31, .v (.int .i64 N)), (11, .v (.slice none 0 0)), (10, .v (.int .i64 (nuT N M (tab l) : Nat))), (9, .s 3 0 0 M M 1), (8, .s 1 0 0 N N 1), (0, .v (.int .i64 N))]) (H' := [rEd l, oNe 2 N (nbr l M) cp, oNf N (nbr l M), oB M M (fun _ => false)]) [0, 2, 3, 1] ⟨by kernel_rfl, ?_, ?_⟩ (key cp)
    · simp only [push_cast, ↓branch_true, ↓branch_false, Nat.reduceBEq, Nat.reduceAdd, Nat.reduceMul, Nat.reduceSub, Int.reduceToNat, reduceCtorEq, branch_decide, branch_not, branch_beq, branch_bne, Int.reduceAdd, Int.reduceEq, Int.reduceLE, Int.reduceLT, Nat.reduceLT, Nat.reduceLeDiff, false_imp_iff, true_imp_iff]
      try trivial
    · simp only [push_cast, ↓branch_true, ↓branch_false, Nat.reduceBEq, Nat.reduceAdd, Nat.reduceMul, Nat.reduceSub, Int.reduceToNat, reduceCtorEq, branch_decide, branch_not, branch_beq, branch_bne, Int.reduceAdd, Int.reduceEq, Int.reduceLE, Int.reduceLT, Nat.reduceLT, Nat.reduceLeDiff, false_imp_iff, true_imp_iff]
      try trivial
  case h =>
    intro cp
    refine tr_loop mixed (by kernel_rfl) (fun (x : Nat × (Nat → Bool) × Nat × List Int × Nat) => [(32, .v (.int .i64 x.1)), (31, .v (.int .i64 N)), (11, .s 4 0 0 x.2.2.2.1.length x.2.2.2.2 1), (10, .v (.int .i64 x.2.2.1)), (9, .s 3 0 0 M M 1), (8, .s 1 0 0 N N 1), (0, .v (.int .i64 N))])
      (fun x => [rEd l, oNe 2 N (nbr l M) cp, oNf N (nbr l M), oB M M x.2.1, rIO x.2.2.2.1 x.2.2.2.2])
      (fun x => x.1 ≤ N ∧ x.2.2.2.1.length = x.1 ∧ x.2.2.2.1.length ≤ x.2.2.2.2 ∧ x.2.2.1 ≤ 1000 ∧ x.2.2.2.1 ++ matchS (tab l) N M (N - x.1) x.1 x.2.1 x.2.2.1 = matchT (tab l) N M) (fun x => N - x.1) (0, (fun _ => false), nuT N M (tab l), [], 0)
      ⟨Nat.zero_le _, rfl, Nat.le_refl _, by have := nuT_le_left N M (tab l); simp only; omega, rfl⟩ (Mt.wk (rl := [0, 1, 2, 3, 1000]) ⟨by kernel_rfl, ?_, ?_⟩) ?_
    · simp only [push_cast, ↓branch_true, ↓branch_false, Nat.reduceBEq, Nat.reduceAdd, Nat.reduceMul, Nat.reduceSub, Int.reduceToNat, reduceCtorEq, branch_decide, branch_not, branch_beq, branch_bne, Int.reduceAdd, Int.reduceEq, Int.reduceLE, Int.reduceLT, Nat.reduceLT, Nat.reduceLeDiff, false_imp_iff, true_imp_iff]
      try trivial
    · simp only [push_cast, ↓branch_true, ↓branch_false, Nat.reduceBEq, Nat.reduceAdd, Nat.reduceMul, Nat.reduceSub, Int.reduceToNat, reduceCtorEq, branch_decide, branch_not, branch_beq, branch_bne, Int.reduceAdd, Int.reduceEq, Int.reduceLE, Int.reduceLT, Nat.reduceLT, Nat.reduceLeDiff, false_imp_iff, true_imp_iff]
      try omega
    rintro ⟨i, tk, left, out, oc⟩ ⟨g1, g2, g3, g4, g5⟩
    simp only at g1 g2 g3 g4 g5
    simp only [push_cast, ↓branch_true, ↓branch_false, Nat.reduceBEq, Nat.reduceAdd, Nat.reduceMul, Nat.reduceSub, Int.reduceToNat, reduceCtorEq, branch_decide, branch_not, branch_beq, branch_bne, Int.reduceAdd, Int.reduceEq, Int.reduceLE, Int.reduceLT, Nat.reduceLT, Nat.reduceLeDiff, false_imp_iff, true_imp_iff]
    refine ⟨fun h0 => ?_, fun h0 => ?_⟩
    · have hi : i < N := by omega
      repeat (with_reducible refine And.intro (by omega) ?_)
      refine Or.inr ⟨by omega, by omega, fun oc2 hoc2 => ?_⟩
      repeat (with_reducible refine And.intro (by omega) ?_)
      refine sp_at (all_sp N (by omega)) [] rfl ?_ ?_ ?_
      · simp only [push_cast, ↓branch_true, ↓branch_false, Nat.reduceBEq, Nat.reduceAdd, Nat.reduceMul, Nat.reduceSub, Int.reduceToNat, reduceCtorEq, branch_decide, branch_not, branch_beq, branch_bne, Int.reduceAdd, Int.reduceEq, Int.reduceLE, Int.reduceLT, Nat.reduceLT, Nat.reduceLeDiff, false_imp_iff, true_imp_iff]
        try trivial
      · simp only [push_cast, ↓branch_true, ↓branch_false, Nat.reduceBEq, Nat.reduceAdd, Nat.reduceMul, Nat.reduceSub, Int.reduceToNat, reduceCtorEq, branch_decide, branch_not, branch_beq, branch_bne, Int.reduceAdd, Int.reduceEq, Int.reduceLE, Int.reduceLT, Nat.reduceLT, Nat.reduceLeDiff, false_imp_iff, true_imp_iff]
        try trivial
      rintro _ _ ⟨ac, hac, rfl, rfl⟩
      simp only [push_cast, ↓branch_true, ↓branch_false, Nat.reduceBEq, Nat.reduceAdd, Nat.reduceMul, Nat.reduceSub, Int.reduceToNat, reduceCtorEq, branch_decide, branch_not, branch_beq, branch_bne, Int.reduceAdd, Int.reduceEq, Int.reduceLE, Int.reduceLT, Nat.reduceLT, Nat.reduceLeDiff, false_imp_iff, true_imp_iff]
      repeat (with_reducible refine And.intro (by omega) ?_)
      have hnl := (nbr_ok l N M (by omega)).len i
      refine tr_loop mixed (by kernel_rfl) (fun (k : Nat) => [(48, .v (.int .i64 k)), (47, .v (.int .i64 (nbr l M i).length)), (46, .s 2 i 0 (nbr l M i).length (cp i) 1), (13, .s 5 0 (i + 1) (N - (i + 1)) (ac - (i + 1)) 1), (12, .v (.int .i64 i)), (11, .s 4 0 0 (out.length + 1) oc2 1), (10, .v (.int .i64 left)), (9, .s 3 0 0 M M 1), (8, .s 1 0 0 N N 1), (0, .v (.int .i64 N)), (32, .v (.int .i64 i)), (31, .v (.int .i64 N))])
        (fun _ => [rEd l, oNe 2 N (nbr l M) cp, oNf N (nbr l M), oB M M tk, rIO (out ++ [-1]) oc2, rIO (allL N) ac]) (fun k => k ≤ (nbr l M i).length ∧ ∀ q, q < k → okP l N M i left tk (ix (nbr l M i) q).toNat = false) (fun k => (nbr l M i).length - k) 0 ⟨Nat.zero_le _, fun q hq => by omega⟩ (Mt.wk (rl := [0, 1, 2, 3, 6, 7]) ⟨by kernel_rfl, ?_, ?_⟩) ?_
      · simp only [push_cast, ↓branch_true, ↓branch_false, Nat.reduceBEq, Nat.reduceAdd, Nat.reduceMul, Nat.reduceSub, Int.reduceToNat, reduceCtorEq, branch_decide, branch_not, branch_beq, branch_bne, Int.reduceAdd, Int.reduceEq, Int.reduceLE, Int.reduceLT, Nat.reduceLT, Nat.reduceLeDiff, false_imp_iff, true_imp_iff]
        exact ⟨by omega, by omega, .inr (by omega)⟩
      · simp only [push_cast, ↓branch_true, ↓branch_false, Nat.reduceBEq, Nat.reduceAdd, Nat.reduceMul, Nat.reduceSub, Int.reduceToNat, reduceCtorEq, branch_decide, branch_not, branch_beq, branch_bne, Int.reduceAdd, Int.reduceEq, Int.reduceLE, Int.reduceLT, Nat.reduceLT, Nat.reduceLeDiff, false_imp_iff, true_imp_iff, List.length_append]
        exact fun _ _ q hq => app_end rfl hq
      rintro k ⟨k1, k2⟩
      simp only [push_cast, ↓branch_true, ↓branch_false, Nat.reduceBEq, Nat.reduceAdd, Nat.reduceMul, Nat.reduceSub, Int.reduceToNat, reduceCtorEq, branch_decide, branch_not, branch_beq, branch_bne, Int.reduceAdd, Int.reduceEq, Int.reduceLE, Int.reduceLT, Nat.reduceLT, Nat.reduceLeDiff, false_imp_iff, true_imp_iff]
      refine ⟨fun h1 => ?_, fun h1 => ?_⟩
      · have hk : k < (nbr l M i).length := by omega
        have hx := (nbr_ok l N M (by omega)).nn i _ (ix_mem hk)
        have hsome := match_some (tk := tk) (left := left) (out := out) hi hk k2
        have hokx : okP l N M i left tk (ix (nbr l M i) k).toNat = (!tk (ix (nbr l M i) k).toNat && decide (nuT N M (restE (tab l) (i + 1) (upd tk (ix (nbr l M i) k).toNat true)) + 1 = left)) := rfl
        have knext : okP l N M i left tk (ix (nbr l M i) k).toNat = false → ∀ q, q < k + 1 → okP l N M i left tk (ix (nbr l M i) q).toNat = false := fun h q hq => by
          by_cases e : q = k
          · subst e; exact h
          · exact k2 q (by omega)
        generalize hxx : ix (nbr l M i) k = x at *
        repeat (with_reducible refine And.intro (by omega) ?_)
        cases hs : tk x.toNat with
        | true =>
          simp only [push_cast, ↓branch_true, ↓branch_false, Nat.reduceBEq, Nat.reduceAdd, Nat.reduceMul, Nat.reduceSub, Int.reduceToNat, reduceCtorEq, branch_decide, branch_not, branch_beq, branch_bne, Int.reduceAdd, Int.reduceEq, Int.reduceLE, Int.reduceLT, Nat.reduceLT, Nat.reduceLeDiff, false_imp_iff, true_imp_iff]
          repeat (with_reducible refine And.intro (by omega) ?_)
          refine lpK_normal (k + 1) [0, 1, 2, 3, 4, 5] ⟨by omega, knext (by rw [hokx, hs]; rfl)⟩ (by omega) (by kernel_rfl) ?_ ?_
          · simp only [push_cast, ↓branch_true, ↓branch_false, Nat.reduceBEq, Nat.reduceAdd, Nat.reduceMul, Nat.reduceSub, Int.reduceToNat, reduceCtorEq, branch_decide, branch_not, branch_beq, branch_bne, Int.reduceAdd, Int.reduceEq, Int.reduceLE, Int.reduceLT, Nat.reduceLT, Nat.reduceLeDiff, false_imp_iff, true_imp_iff]
          · simp only [push_cast, ↓branch_true, ↓branch_false, Nat.reduceBEq, Nat.reduceAdd, Nat.reduceMul, Nat.reduceSub, Int.reduceToNat, reduceCtorEq, branch_decide, branch_not, branch_beq, branch_bne, Int.reduceAdd, Int.reduceEq, Int.reduceLE, Int.reduceLT, Nat.reduceLT, Nat.reduceLeDiff, false_imp_iff, true_imp_iff]
        | false =>
          simp only [push_cast, ↓branch_true, ↓branch_false, Nat.reduceBEq, Nat.reduceAdd, Nat.reduceMul, Nat.reduceSub, Int.reduceToNat, reduceCtorEq, branch_decide, branch_not, branch_beq, branch_bne, Int.reduceAdd, Int.reduceEq, Int.reduceLE, Int.reduceLT, Nat.reduceLT, Nat.reduceLeDiff, false_imp_iff, true_imp_iff]
          repeat (with_reducible refine And.intro (by omega) ?_)
          have hs2 := size_pu N (ac - (i + 1)) M cp (upd tk x.toNat true) (allL N) ((allL N).drop (i + 1)) (i + 1) (List.take_append_drop _ _).symm (by rw [allL_len]; omega) (by omega : N ≤ 1000000) (by omega : M ≤ 1000000) (nbr_ok l N M (by omega)) (by rw [List.length_drop, allL_len]; omega) (fun y hy => by
            obtain ⟨a, ha, rfl⟩ := List.mem_map.1 (List.mem_of_mem_drop hy)
            have := List.mem_range.1 ha
            omega) (Nat.le_refl M)
          rw [List.length_drop, allL_len, lft_drop, size_rest] at hs2
          refine sp_call hs2 rfl [1, 2, 5, 3] rfl ?_ ?_ ?_
          · simp only [push_cast, ↓branch_true, ↓branch_false, Nat.reduceBEq, Nat.reduceAdd, Nat.reduceMul, Nat.reduceSub, Int.reduceToNat, reduceCtorEq, branch_decide, branch_not, branch_beq, branch_bne, Int.reduceAdd, Int.reduceEq, Int.reduceLE, Int.reduceLT, Nat.reduceLT, Nat.reduceLeDiff, false_imp_iff, true_imp_iff]
            try trivial
          · simp only [push_cast, ↓branch_true, ↓branch_false, Nat.reduceBEq, Nat.reduceAdd, Nat.reduceMul, Nat.reduceSub, Int.reduceToNat, reduceCtorEq, branch_decide, branch_not, branch_beq, branch_bne, Int.reduceAdd, Int.reduceEq, Int.reduceLE, Int.reduceLT, Nat.reduceLT, Nat.reduceLeDiff, false_imp_iff, true_imp_iff, upd]
            exact fun _ hi q _ => upB hi
          have hnu := nuT_le_left N M (restE (tab l) (i + 1) (upd tk x.toNat true))
          generalize hnn : nuT N M (restE (tab l) (i + 1) (upd tk x.toNat true)) = nu at *
          simp only [push_cast, ↓branch_true, ↓branch_false, Nat.reduceBEq, Nat.reduceAdd, Nat.reduceMul, Nat.reduceSub, Int.reduceToNat, reduceCtorEq, branch_decide, branch_not, branch_beq, branch_bne, Int.reduceAdd, Int.reduceEq, Int.reduceLE, Int.reduceLT, Nat.reduceLT, Nat.reduceLeDiff, false_imp_iff, true_imp_iff]
          repeat (with_reducible refine And.intro (by omega) ?_)
          refine ⟨fun h2 => ?_, fun h2 => ?_⟩
          · have hl1 : nu + 1 = left := by omega
            have hok1 : okP l N M i left tk x.toNat = true := by rw [hokx, hs, decide_eq_true hl1]; rfl
            rw [hsome hok1] at g5
            have hoi : i < (out ++ [-1]).length := by rw [List.length_append]; simp; omega
            have el : ((left - 1 : Nat) : Int) = (left : Int) - 1 := by omega
            repeat (with_reducible refine And.intro (by omega) ?_)
            refine lpK_normal (i + 1, upd tk x.toNat true, left - 1, out ++ [x], oc2) [0, 1, 2, 3, 4] ⟨by simp only; omega, by simp only [List.length_append, List.length_cons, List.length_nil]; omega, by simp only [List.length_append, List.length_cons, List.length_nil]; omega, by simp only; omega, g5⟩ (by simp only; omega) (by kernel_rfl) ?_ ?_
            · simp only [push_cast, ↓branch_true, ↓branch_false, Nat.reduceBEq, Nat.reduceAdd, Nat.reduceMul, Nat.reduceSub, Int.reduceToNat, reduceCtorEq, branch_decide, branch_not, branch_beq, branch_bne, Int.reduceAdd, Int.reduceEq, Int.reduceLE, Int.reduceLT, Nat.reduceLT, Nat.reduceLeDiff, false_imp_iff, true_imp_iff, List.length_append, el]
              try trivial
            · simp only [push_cast, ↓branch_true, ↓branch_false, Nat.reduceBEq, Nat.reduceAdd, Nat.reduceMul, Nat.reduceSub, Int.reduceToNat, reduceCtorEq, branch_decide, branch_not, branch_beq, branch_bne, Int.reduceAdd, Int.reduceEq, Int.reduceLE, Int.reduceLT, Nat.reduceLT, Nat.reduceLeDiff, false_imp_iff, true_imp_iff, List.length_append, upd]
              refine ⟨fun _ hi2 q _ => upB hi2, fun i1 hi1 q hq => ?_⟩
              obtain rfl : i1 = 0 := by omega
              by_cases e : q = i
              · subst e
                rw [show ix (out ++ [x]) q = x by rw [← g2, ix_app_last]]
                simp only [beq_self_eq_true, Bool.and_self, cond_true]
                exact ⟨trivial, trivial⟩
              · have hb : (q == i) = false := by simpa using e
                rw [ix_app_ne (by omega), ix_app_ne (by omega)]
                simp only [hb, Bool.and_false, cond_false]
                exact ⟨trivial, trivial⟩
          · have hl1 : ¬ nu + 1 = left := by omega
            have hok1 : okP l N M i left tk x.toNat = false := by rw [hokx, hs, decide_eq_false hl1]; rfl
            repeat (with_reducible refine And.intro (by omega) ?_)
            refine lpK_normal (k + 1) [0, 1, 2, 3, 4, 5] ⟨by omega, knext hok1⟩ (by omega) (by kernel_rfl) ?_ ?_
            · simp only [push_cast, ↓branch_true, ↓branch_false, Nat.reduceBEq, Nat.reduceAdd, Nat.reduceMul, Nat.reduceSub, Int.reduceToNat, reduceCtorEq, branch_decide, branch_not, branch_beq, branch_bne, Int.reduceAdd, Int.reduceEq, Int.reduceLE, Int.reduceLT, Nat.reduceLT, Nat.reduceLeDiff, false_imp_iff, true_imp_iff]
            · simp only [push_cast, ↓branch_true, ↓branch_false, Nat.reduceBEq, Nat.reduceAdd, Nat.reduceMul, Nat.reduceSub, Int.reduceToNat, reduceCtorEq, branch_decide, branch_not, branch_beq, branch_bne, Int.reduceAdd, Int.reduceEq, Int.reduceLE, Int.reduceLT, Nat.reduceLT, Nat.reduceLeDiff, false_imp_iff, true_imp_iff]
              intro i1 hi1 q hq
              obtain rfl : i1 = 0 := by omega
              by_cases e : q = x.toNat
              · subst e
                simp only [beq_self_eq_true, Bool.and_self, cond_true, hs]
                first | exact ⟨trivial, trivial⟩ | exact ⟨rfl, trivial⟩
              · have hb : (q == x.toNat) = false := by simpa using e
                simp only [hb, Bool.and_false, cond_false]
                first | exact ⟨trivial, trivial⟩ | exact ⟨rfl, trivial⟩
      · obtain rfl : k = (nbr l M i).length := by omega
        rw [match_none hi k2] at g5
        repeat (with_reducible refine And.intro (by omega) ?_)
        refine lpK_normal (i + 1, tk, left, out ++ [-1], oc2) [0, 1, 2, 3, 4] ⟨by simp only; omega, by simp only [List.length_append, List.length_cons, List.length_nil]; omega, by simp only [List.length_append, List.length_cons, List.length_nil]; omega, g4, g5⟩ (by simp only; omega) (by kernel_rfl) ?_ ?_
        · simp only [push_cast, ↓branch_true, ↓branch_false, Nat.reduceBEq, Nat.reduceAdd, Nat.reduceMul, Nat.reduceSub, Int.reduceToNat, reduceCtorEq, branch_decide, branch_not, branch_beq, branch_bne, Int.reduceAdd, Int.reduceEq, Int.reduceLE, Int.reduceLT, Nat.reduceLT, Nat.reduceLeDiff, false_imp_iff, true_imp_iff, List.length_append]
          try trivial
        · simp only [push_cast, ↓branch_true, ↓branch_false, Nat.reduceBEq, Nat.reduceAdd, Nat.reduceMul, Nat.reduceSub, Int.reduceToNat, reduceCtorEq, branch_decide, branch_not, branch_beq, branch_bne, Int.reduceAdd, Int.reduceEq, Int.reduceLE, Int.reduceLT, Nat.reduceLT, Nat.reduceLeDiff, false_imp_iff, true_imp_iff, List.length_append]
          try trivial
    · obtain rfl : i = N := by omega
      rw [Nat.sub_self, matchS, List.append_nil] at g5
      subst g5
      refine ⟨_, _, [0, 4], ?_, by kernel_rfl, ?_, oc, by omega, rfl, rfl⟩
      · simp only [push_cast, ↓branch_true, ↓branch_false, Nat.reduceBEq, Nat.reduceAdd, Nat.reduceMul, Nat.reduceSub, Int.reduceToNat, reduceCtorEq, branch_decide, branch_not, branch_beq, branch_bne, Int.reduceAdd, Int.reduceEq, Int.reduceLE, Int.reduceLT, Nat.reduceLT, Nat.reduceLeDiff, false_imp_iff, true_imp_iff]
        omega
      · simp only [push_cast, ↓branch_true, ↓branch_false, Nat.reduceBEq, Nat.reduceAdd, Nat.reduceMul, Nat.reduceSub, Int.reduceToNat, reduceCtorEq, branch_decide, branch_not, branch_beq, branch_bne, Int.reduceAdd, Int.reduceEq, Int.reduceLE, Int.reduceLT, Nat.reduceLT, Nat.reduceLeDiff, false_imp_iff, true_imp_iff]
        exact fun _ _ => by omega
end Go.Proofs.Ytmmabnoemckdiaa
