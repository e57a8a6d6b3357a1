/- Law: Violates. -/
import Derived.Test.YtmmabnoemckdiaaY
import Derived.Test.YtmmabnoemckdiaaSB
import Derived.Test.YtmmabnoemckdiaaFB
set_option maxRecDepth 100000
set_option linter.unusedSimpArgs false
set_option linter.unusedVariables false
namespace Go.Proofs.Ytmmabnoemckdiaa
open Go.RowKit Bip
theorem found_cnt (L : List Int) : ∀ k, k ≤ L.length → found (L.take k) = cnt k fun i => decide (0 ≤ ix L i)
  | 0, _ => rfl
  | k + 1, h => by
    rw [found_succ (by omega), cnt, found_cnt L k (by omega)]
theorem found_le_nuT {E E' : Nat → Nat → Bool} {n m : Nat} {L : List Int} (hm : IsM E m 0 (fun _ => false) L) (hL : L.length = n) (h : ∀ i, i < n → 0 ≤ ix L i → E' i (ix L i).toNat = true) : found L ≤ nuT n m E' := by
  have e := found_cnt L L.length (Nat.le_refl _)
  rw [List.take_length, hL] at e
  rw [e]
  refine le_nuT' (l := fun i => ix L i) ⟨fun i hi h0 => ?_, fun i i' hi hi' h0 he => ?_⟩
  · have := hm.ok i (by omega)
    rw [← ix_eq (by omega)] at this
    rcases this with h1 | ⟨_, h2, _, _⟩
    · omega
    · exact ⟨h2, h i hi h0⟩
  · have he : ix L i = ix L i' := he
    rw [ix_eq (by omega), ix_eq (by omega)] at he
    rw [ix_eq (by omega)] at h0
    exact hm.inj i i' (by omega) (by omega) h0 he
theorem free_open {E : Nat → Nat → Bool} {n m : Nat} {L : List Int} (hm : IsM E m 0 (fun _ => false) L) (hf : found L = nuT n m E) (hL : L.length = n) {i : Nat} (hi : i < n) (h : ix L i < 0) : opn n m E i = true := by
  have := found_le_nuT (E' := delL E i) hm hL fun a ha h0 => by
    have h1 := hm.ok a (by omega)
    rw [← ix_eq (by omega)] at h1
    rcases h1 with h1 | ⟨_, _, h3, _⟩
    · omega
    · unfold delL
      rw [Nat.zero_add] at h3
      rw [h3]
      have : (a == i) = false := by
        simp only [beq_eq_false_iff_ne]
        intro e; subst e; omega
      rw [this]; rfl
  unfold opn
  rw [decide_eq_false (by omega)]
  rfl
def nearK (V : List Int) (l : List Ed) (k : Nat) : List Int := ((l.take k).filter fun e => decide (e.x ∈ V)).map fun e => e.y
theorem nearK_yes {V : List Int} {l : List Ed} {k : Nat} (hk : k < l.length) (h : (ix l k).x ∈ V) : nearK V l (k + 1) = nearK V l k ++ [(ix l k).y] := by
  unfold nearK
  rw [take_snoc hk, List.filter_append, List.map_append]
  simp [h]
theorem nearK_no {V : List Int} {l : List Ed} {k : Nat} (hk : k < l.length) (h : (ix l k).x ∉ V) : nearK V l (k + 1) = nearK V l k := by
  unfold nearK
  rw [take_snoc hk, List.filter_append, List.map_append]
  simp [h]
theorem nearK_len (V : List Int) (l : List Ed) (k : Nat) : (nearK V l k).length ≤ k := by
  unfold nearK
  rw [List.length_map]
  refine Nat.le_trans (List.length_filter_le _ _) ?_
  simp
  omega
theorem near_rgt {l : List Ed} {N M : Nat} (hve : ∀ e ∈ l, inE N M e = true) : cmpL (sortI (nearK (markL (opn N M (tab l)) N) l l.length)) = markL (rgt N M (tab l)) M := by
  refine asc_ext _ _ (cmp_asc _) (markL_asc _ _) fun x => ?_
  rw [cmp_mem, markL_mem]
  unfold nearK
  rw [List.take_length, List.mem_map]
  constructor
  · rintro ⟨e, h1, rfl⟩
    rw [List.mem_filter, decide_eq_true_eq, markL_mem] at h1
    obtain ⟨h1, i, h2, h3, h4⟩ := h1
    have h5 := hve e h1
    simp only [inE, Bool.and_eq_true, decide_eq_true_eq] at h5
    have ht := tab_edge h1
    rw [show e.x.toNat = i by omega] at ht
    exact ⟨e.y.toNat, by omega, by omega, rgt_yes h3 h4 ht⟩
  · rintro ⟨j, rfl, h1, h2⟩
    obtain ⟨i, h3, h4, h5⟩ := rgt_of h2
    have h6 := (edge_mem (l := l) hve (i := i) (x := (j : Int)) (by omega)).1 h5
    exact ⟨_, by rw [List.mem_filter, decide_eq_true_eq, markL_mem]; exact ⟨h6, i, rfl, h3, h4⟩, rfl⟩
theorem sortA_sp (X : List Int) (cap : Nat) (hl : X.length ≤ 1000000) : Sp Try.prog 32 [.s 0 0 0 X.length cap 1] [rIO X cap] (fun r H => r = .t [] ∧ H = [rIO (sortI X) cap]) := by
  cases X with
  | nil => exact (sort0_sp [rIO [] cap] 0 0 cap).mono fun r H ⟨h1, h2⟩ => ⟨h1, by rw [h2, show sortI [] = [] from List.length_eq_zero_iff.1 (sortI_len [])]⟩
  | cons x X => exact sort_sp (x :: X) cap (by simp) hl
set_option maxHeartbeats 4000000 in
theorem lviol_sp (l : List Ed) (n m : Int) (c : Nat) (hl : l.length ≤ 9223372036854775807) : Sp Try.prog 7 [.v (.int .i64 n), .v (.int .i64 m), .s 0 0 0 l.length c 2] [rEd l] (fun r H => r = .v (.bool true)) := by
  refine sp_of_ex true [] mixed Try.call7 Try.func7 rfl Try.ntmps7 Try.results7 (by decide +kernel) rfl ?_
  simp only [push_cast, ↓branch_true, ↓branch_false, Nat.reduceBEq, Nat.reduceAdd, Nat.reduceMul, Nat.reduceSub, Int.reduceToNat, reduceCtorEq, branch_decide, branch_not, branch_beq, branch_bne, Int.reduceAdd, Int.reduceEq, Int.reduceLE, Int.reduceLT, Nat.reduceLT, Nat.reduceLeDiff, false_imp_iff, true_imp_iff]
  refine sp_at awake_sp [] rfl ?_ ?_ ?_
  · simp only [push_cast, ↓branch_true, ↓branch_false, Nat.reduceBEq, Nat.reduceAdd, Nat.reduceMul, Nat.reduceSub, Int.reduceToNat, reduceCtorEq, branch_decide, branch_not, branch_beq, branch_bne, Int.reduceAdd, Int.reduceEq, Int.reduceLE, Int.reduceLT, Nat.reduceLT, Nat.reduceLeDiff, false_imp_iff, true_imp_iff]
  · simp only [push_cast, ↓branch_true, ↓branch_false, Nat.reduceBEq, Nat.reduceAdd, Nat.reduceMul, Nat.reduceSub, Int.reduceToNat, reduceCtorEq, branch_decide, branch_not, branch_beq, branch_bne, Int.reduceAdd, Int.reduceEq, Int.reduceLE, Int.reduceLT, Nat.reduceLT, Nat.reduceLeDiff, false_imp_iff, true_imp_iff]
  rintro _ _ ⟨rfl, rfl⟩
  simp only [push_cast, ↓branch_true, ↓branch_false, Nat.reduceBEq, Nat.reduceAdd, Nat.reduceMul, Nat.reduceSub, Int.reduceToNat, reduceCtorEq, branch_decide, branch_not, branch_beq, branch_bne, Int.reduceAdd, Int.reduceEq, Int.reduceLE, Int.reduceLT, Nat.reduceLT, Nat.reduceLeDiff, false_imp_iff, true_imp_iff]
  refine sp_call (large_pu n m l c hl) rfl [0] rfl (by simp only [push_cast, ↓branch_true, ↓branch_false, Nat.reduceBEq, Nat.reduceAdd, Nat.reduceMul, Nat.reduceSub, Int.reduceToNat, reduceCtorEq, branch_decide, branch_not, branch_beq, branch_bne, Int.reduceAdd, Int.reduceEq, Int.reduceLE, Int.reduceLT, Nat.reduceLT, Nat.reduceLeDiff, false_imp_iff, true_imp_iff]) (by simp only [push_cast, ↓branch_true, ↓branch_false, Nat.reduceBEq, Nat.reduceAdd, Nat.reduceMul, Nat.reduceSub, Int.reduceToNat, reduceCtorEq, branch_decide, branch_not, branch_beq, branch_bne, Int.reduceAdd, Int.reduceEq, Int.reduceLE, Int.reduceLT, Nat.reduceLT, Nat.reduceLeDiff, false_imp_iff, true_imp_iff]) ?_
  simp only [push_cast, ↓branch_true, ↓branch_false, Nat.reduceBEq, Nat.reduceAdd, Nat.reduceMul, Nat.reduceSub, Int.reduceToNat, reduceCtorEq, branch_decide, branch_not, branch_beq, branch_bne, Int.reduceAdd, Int.reduceEq, Int.reduceLE, Int.reduceLT, Nat.reduceLT, Nat.reduceLeDiff, false_imp_iff, true_imp_iff]
  cases hlg : largeB n m l with
  | true =>
    simp only [push_cast, ↓branch_true, ↓branch_false, Nat.reduceBEq, Nat.reduceAdd, Nat.reduceMul, Nat.reduceSub, Int.reduceToNat, reduceCtorEq, branch_decide, branch_not, branch_beq, branch_bne, Int.reduceAdd, Int.reduceEq, Int.reduceLE, Int.reduceLT, Nat.reduceLT, Nat.reduceLeDiff, false_imp_iff, true_imp_iff]
  | false =>
  simp only [push_cast, ↓branch_true, ↓branch_false, Nat.reduceBEq, Nat.reduceAdd, Nat.reduceMul, Nat.reduceSub, Int.reduceToNat, reduceCtorEq, branch_decide, branch_not, branch_beq, branch_bne, Int.reduceAdd, Int.reduceEq, Int.reduceLE, Int.reduceLT, Nat.reduceLT, Nat.reduceLeDiff, false_imp_iff, true_imp_iff]
  intro h60
  refine sp_at (match_sp l n m c hl) [0] rfl ?_ ?_ ?_
  · simp only [push_cast, ↓branch_true, ↓branch_false, Nat.reduceBEq, Nat.reduceAdd, Nat.reduceMul, Nat.reduceSub, Int.reduceToNat, reduceCtorEq, branch_decide, branch_not, branch_beq, branch_bne, Int.reduceAdd, Int.reduceEq, Int.reduceLE, Int.reduceLT, Nat.reduceLT, Nat.reduceLeDiff, false_imp_iff, true_imp_iff]
  · simp only [push_cast, ↓branch_true, ↓branch_false, Nat.reduceBEq, Nat.reduceAdd, Nat.reduceMul, Nat.reduceSub, Int.reduceToNat, reduceCtorEq, branch_decide, branch_not, branch_beq, branch_bne, Int.reduceAdd, Int.reduceEq, Int.reduceLE, Int.reduceLT, Nat.reduceLT, Nat.reduceLeDiff, false_imp_iff, true_imp_iff]
  rintro _ _ ⟨mc, hmc, rfl, rfl⟩
  simp only [push_cast, ↓branch_true, ↓branch_false, Nat.reduceBEq, Nat.reduceAdd, Nat.reduceMul, Nat.reduceSub, Int.reduceToNat, reduceCtorEq, branch_decide, branch_not, branch_beq, branch_bne, Int.reduceAdd, Int.reduceEq, Int.reduceLE, Int.reduceLT, Nat.reduceLT, Nat.reduceLeDiff, false_imp_iff, true_imp_iff]
  refine sp_at (violator_sp l n m c hl) [0] rfl ?_ ?_ ?_
  · simp only [push_cast, ↓branch_true, ↓branch_false, Nat.reduceBEq, Nat.reduceAdd, Nat.reduceMul, Nat.reduceSub, Int.reduceToNat, reduceCtorEq, branch_decide, branch_not, branch_beq, branch_bne, Int.reduceAdd, Int.reduceEq, Int.reduceLE, Int.reduceLT, Nat.reduceLT, Nat.reduceLeDiff, false_imp_iff, true_imp_iff]
  · simp only [push_cast, ↓branch_true, ↓branch_false, Nat.reduceBEq, Nat.reduceAdd, Nat.reduceMul, Nat.reduceSub, Int.reduceToNat, reduceCtorEq, branch_decide, branch_not, branch_beq, branch_bne, Int.reduceAdd, Int.reduceEq, Int.reduceLE, Int.reduceLT, Nat.reduceLT, Nat.reduceLeDiff, false_imp_iff, true_imp_iff]
  rintro _ _ ⟨vc, hvc, rfl, rfl⟩
  simp only [push_cast, ↓branch_true, ↓branch_false, Nat.reduceBEq, Nat.reduceAdd, Nat.reduceMul, Nat.reduceSub, Int.reduceToNat, reduceCtorEq, branch_decide, branch_not, branch_beq, branch_bne, Int.reduceAdd, Int.reduceEq, Int.reduceLE, Int.reduceLT, Nat.reduceLT, Nat.reduceLeDiff, false_imp_iff, true_imp_iff]
  cases hv : validE n m l with
  | false =>
    have e1 : matchR l n m = [] := by simp [matchR, hv]
    have e2 : errR l n m = 1 := by simp [errR, hv]
    have e3 : violR l n m = [] := by simp [violR, hv]
    have e4 : violE l n m = 1 := by simp [violE, hv]
    rw [e1, e2, e3, e4]
    simp only [push_cast, ↓branch_true, ↓branch_false, Nat.reduceBEq, Nat.reduceAdd, Nat.reduceMul, Nat.reduceSub, Int.reduceToNat, reduceCtorEq, branch_decide, branch_not, branch_beq, branch_bne, Int.reduceAdd, Int.reduceEq, Int.reduceLE, Int.reduceLT, Nat.reduceLT, Nat.reduceLeDiff, false_imp_iff, true_imp_iff]
  | true =>
  obtain ⟨N, M, rfl, rfl, hN, hM, hl2, hve⟩ := valid_of hv
  have e1 : matchR l N M = matchT (tab l) N M := by simp [matchR, hv]
  have e2 : errR l N M = 0 := by simp [errR, hv]
  have e3 : violR l N M = markL (opn N M (tab l)) N := by simp [violR, hv]
  have e4 : violE l N M = if (markL (opn N M (tab l)) N).length = 0 then 12 else 0 := by simp [violE, hv, e3]
  obtain ⟨m1, m2, m3⟩ := matchT_ok (tab l) N M
  have hfree := fun i hi h => free_open (i := i) m1 m2 m3 hi h
  rw [e1, m3] at hmc
  rw [e1, e2, e3, e4, m3]
  rw [e3] at hvc
  simp only [push_cast, ↓branch_true, ↓branch_false, Nat.reduceBEq, Nat.reduceAdd, Nat.reduceMul, Nat.reduceSub, Int.reduceToNat, reduceCtorEq, branch_decide, branch_not, branch_beq, branch_bne, Int.reduceAdd, Int.reduceEq, Int.reduceLE, Int.reduceLT, Nat.reduceLT, Nat.reduceLeDiff, false_imp_iff, true_imp_iff]
  have hmp := matching_pu l N M c mc (matchT (tab l) N M) hN hM (by omega) hve m3 m1
  rw [m3, m2] at hmp
  refine sp_call hmp rfl [0, 1] rfl ?_ ?_ ?_
  · simp only [push_cast, ↓branch_true, ↓branch_false, Nat.reduceBEq, Nat.reduceAdd, Nat.reduceMul, Nat.reduceSub, Int.reduceToNat, reduceCtorEq, branch_decide, branch_not, branch_beq, branch_bne, Int.reduceAdd, Int.reduceEq, Int.reduceLE, Int.reduceLT, Nat.reduceLT, Nat.reduceLeDiff, false_imp_iff, true_imp_iff]
  · simp only [push_cast, ↓branch_true, ↓branch_false, Nat.reduceBEq, Nat.reduceAdd, Nat.reduceMul, Nat.reduceSub, Int.reduceToNat, reduceCtorEq, branch_decide, branch_not, branch_beq, branch_bne, Int.reduceAdd, Int.reduceEq, Int.reduceLE, Int.reduceLT, Nat.reduceLT, Nat.reduceLeDiff, false_imp_iff, true_imp_iff, m3]
  have hnl := nuT_le_left N M (tab l)
  have hvl := markL_len (opn N M (tab l)) N
  have hvs := markL_sorted (opn N M (tab l)) N
  have hvm := fun x => markL_mem (f := opn N M (tab l)) (n := N) (x := x)
  have hoc := open_count N M (tab l)
  rw [← markL_cnt, ← markL_cnt] at hoc
  have hnr := near_rgt (l := l) (N := N) (M := M) hve
  have hrl := markL_len (rgt N M (tab l)) M
  by_cases hV0 : (markL (opn N M (tab l)) N).length = 0
  · have hnu := open_none (n := N) (m := M) (E := tab l) fun i hi => by
      rw [Bool.eq_false_iff]
      intro h
      have := (hvm i).2 ⟨i, rfl, hi, h⟩
      rw [List.length_eq_zero_iff.1 hV0] at this
      simp at this
    rw [if_pos hV0, hV0]
    simp only [push_cast, ↓branch_true, ↓branch_false, Nat.reduceBEq, Nat.reduceAdd, Nat.reduceMul, Nat.reduceSub, Int.reduceToNat, reduceCtorEq, branch_decide, branch_not, branch_beq, branch_bne, Int.reduceAdd, Int.reduceEq, Int.reduceLE, Int.reduceLT, Nat.reduceLT, Nat.reduceLeDiff, false_imp_iff, true_imp_iff]
    rw [hnu]
    exact vb (by simp)
  have hnu : nuT N M (tab l) < N := by
    obtain ⟨i, _, h1, h2⟩ := (hvm _).1 (ix_mem (l := markL (opn N M (tab l)) N) (k := 0) (by omega))
    exact open_some h1 h2
  rw [if_neg hV0]
  generalize markL (opn N M (tab l)) N = V at *
  simp only [push_cast, ↓branch_true, ↓branch_false, Nat.reduceBEq, Nat.reduceAdd, Nat.reduceMul, Nat.reduceSub, Int.reduceToNat, reduceCtorEq, branch_decide, branch_not, branch_beq, branch_bne, Int.reduceAdd, Int.reduceEq, Int.reduceLE, Int.reduceLT, Nat.reduceLT, Nat.reduceLeDiff, false_imp_iff, true_imp_iff]
  refine tr_loop mixed (by kernel_rfl) (fun (x : Nat × Nat) => [(79, .v (.int .i64 x.1)), (78, .v (.int .i64 l.length)), (77, .s 0 0 0 l.length c 2), (13, .s 3 0 0 (nearK V l x.1).length x.2 1), (9, .s 2 0 0 V.length vc 1), (11, .v (.int .i64 (nuT N M (tab l) : Nat))), (7, .s 1 0 0 N mc 1), (0, .v (.int .i64 N))])
    (fun x => [rEd l, rIO (matchT (tab l) N M) mc, rIO V vc, rIO (nearK V l x.1) x.2]) (fun x => x.1 ≤ l.length ∧ (nearK V l x.1).length ≤ x.2) (fun x => l.length - x.1) (0, 0) ⟨Nat.zero_le _, Nat.le_refl _⟩ (Mt.wk (rl := [0, 1, 2, 1000]) ⟨by kernel_rfl, ?_, ?_⟩) ?_
  · simp only [push_cast, ↓branch_true, ↓branch_false, Nat.reduceBEq, Nat.reduceAdd, Nat.reduceMul, Nat.reduceSub, Int.reduceToNat, reduceCtorEq, branch_decide, branch_not, branch_beq, branch_bne, Int.reduceAdd, Int.reduceEq, Int.reduceLE, Int.reduceLT, Nat.reduceLT, Nat.reduceLeDiff, false_imp_iff, true_imp_iff]
    try exact rfl
  · simp only [push_cast, ↓branch_true, ↓branch_false, Nat.reduceBEq, Nat.reduceAdd, Nat.reduceMul, Nat.reduceSub, Int.reduceToNat, reduceCtorEq, branch_decide, branch_not, branch_beq, branch_bne, Int.reduceAdd, Int.reduceEq, Int.reduceLE, Int.reduceLT, Nat.reduceLT, Nat.reduceLeDiff, false_imp_iff, true_imp_iff, m3]
    try exact Or.inl rfl
  rintro ⟨k, oc⟩ ⟨g1, g2⟩
  simp only at g1 g2
  have hkl := nearK_len V l k
  simp only [push_cast, ↓branch_true, ↓branch_false, Nat.reduceBEq, Nat.reduceAdd, Nat.reduceMul, Nat.reduceSub, Int.reduceToNat, reduceCtorEq, branch_decide, branch_not, branch_beq, branch_bne, Int.reduceAdd, Int.reduceEq, Int.reduceLE, Int.reduceLT, Nat.reduceLT, Nat.reduceLeDiff, false_imp_iff, true_imp_iff]
  refine ⟨fun h1 => ?_, fun h1 => ?_⟩
  · have hk : k < l.length := by omega
    repeat (with_reducible refine And.intro (by omega) ?_)
    refine sp_call (contains_pu V (ix l k).x vc (by omega)) rfl [2] rfl (by simp only [push_cast, ↓branch_true, ↓branch_false, Nat.reduceBEq, Nat.reduceAdd, Nat.reduceMul, Nat.reduceSub, Int.reduceToNat, reduceCtorEq, branch_decide, branch_not, branch_beq, branch_bne, Int.reduceAdd, Int.reduceEq, Int.reduceLE, Int.reduceLT, Nat.reduceLT, Nat.reduceLeDiff, false_imp_iff, true_imp_iff]) (by simp only [push_cast, ↓branch_true, ↓branch_false, Nat.reduceBEq, Nat.reduceAdd, Nat.reduceMul, Nat.reduceSub, Int.reduceToNat, reduceCtorEq, branch_decide, branch_not, branch_beq, branch_bne, Int.reduceAdd, Int.reduceEq, Int.reduceLE, Int.reduceLT, Nat.reduceLT, Nat.reduceLeDiff, false_imp_iff, true_imp_iff]) ?_
    simp only [push_cast, ↓branch_true, ↓branch_false, Nat.reduceBEq, Nat.reduceAdd, Nat.reduceMul, Nat.reduceSub, Int.reduceToNat, reduceCtorEq, branch_decide, branch_not, branch_beq, branch_bne, Int.reduceAdd, Int.reduceEq, Int.reduceLE, Int.reduceLT, Nat.reduceLT, Nat.reduceLeDiff, false_imp_iff, true_imp_iff]
    refine ⟨fun h2 => ?_, fun h2 => ?_⟩
    · have hy := nearK_yes hk h2
      repeat (with_reducible refine And.intro (by omega) ?_)
      refine Or.inr ⟨by omega, by omega, fun cap hcap => ?_⟩
      repeat (with_reducible refine And.intro (by omega) ?_)
      refine lpK_normal (k + 1, cap) [0, 1, 2, 6] ⟨by simp only; omega, by simp only [hy, List.length_append, List.length_cons, List.length_nil]; omega⟩ (by simp only; omega) (by kernel_rfl) ?_ ?_
      · simp only [push_cast, ↓branch_true, ↓branch_false, Nat.reduceBEq, Nat.reduceAdd, Nat.reduceMul, Nat.reduceSub, Int.reduceToNat, reduceCtorEq, branch_decide, branch_not, branch_beq, branch_bne, Int.reduceAdd, Int.reduceEq, Int.reduceLE, Int.reduceLT, Nat.reduceLT, Nat.reduceLeDiff, false_imp_iff, true_imp_iff, hy, List.length_append]
        try trivial
      · simp only [push_cast, ↓branch_true, ↓branch_false, Nat.reduceBEq, Nat.reduceAdd, Nat.reduceMul, Nat.reduceSub, Int.reduceToNat, reduceCtorEq, branch_decide, branch_not, branch_beq, branch_bne, Int.reduceAdd, Int.reduceEq, Int.reduceLE, Int.reduceLT, Nat.reduceLT, Nat.reduceLeDiff, false_imp_iff, true_imp_iff, hy, List.length_append]
        exact fun _ _ q hq => app_end rfl hq
    · have hy := nearK_no hk h2
      repeat (with_reducible refine And.intro (by omega) ?_)
      refine lpK_normal (k + 1, oc) [0, 1, 2, 3] ⟨by simp only; omega, by simp only [hy]; omega⟩ (by simp only; omega) (by kernel_rfl) ?_ ?_
      · simp only [push_cast, ↓branch_true, ↓branch_false, Nat.reduceBEq, Nat.reduceAdd, Nat.reduceMul, Nat.reduceSub, Int.reduceToNat, reduceCtorEq, branch_decide, branch_not, branch_beq, branch_bne, Int.reduceAdd, Int.reduceEq, Int.reduceLE, Int.reduceLT, Nat.reduceLT, Nat.reduceLeDiff, false_imp_iff, true_imp_iff, hy]
        try trivial
      · simp only [push_cast, ↓branch_true, ↓branch_false, Nat.reduceBEq, Nat.reduceAdd, Nat.reduceMul, Nat.reduceSub, Int.reduceToNat, reduceCtorEq, branch_decide, branch_not, branch_beq, branch_bne, Int.reduceAdd, Int.reduceEq, Int.reduceLE, Int.reduceLT, Nat.reduceLT, Nat.reduceLeDiff, false_imp_iff, true_imp_iff, hy]
        try trivial
  obtain rfl : k = l.length := by omega
  generalize nearK V l l.length = X at *
  have hcl := cmpT_le (sortI X)
  have hsl := sortI_len X
  refine sp_at (sortA_sp X oc (by omega)) [3] rfl ?_ ?_ ?_
  · simp only [push_cast, ↓branch_true, ↓branch_false, Nat.reduceBEq, Nat.reduceAdd, Nat.reduceMul, Nat.reduceSub, Int.reduceToNat, reduceCtorEq, branch_decide, branch_not, branch_beq, branch_bne, Int.reduceAdd, Int.reduceEq, Int.reduceLE, Int.reduceLT, Nat.reduceLT, Nat.reduceLeDiff, false_imp_iff, true_imp_iff]
  · simp only [push_cast, ↓branch_true, ↓branch_false, Nat.reduceBEq, Nat.reduceAdd, Nat.reduceMul, Nat.reduceSub, Int.reduceToNat, reduceCtorEq, branch_decide, branch_not, branch_beq, branch_bne, Int.reduceAdd, Int.reduceEq, Int.reduceLE, Int.reduceLT, Nat.reduceLT, Nat.reduceLeDiff, false_imp_iff, true_imp_iff]
  rintro _ _ ⟨rfl, rfl⟩
  have hcp := compact_sp (sortI X) oc (by omega) (by omega)
  rw [hsl, hnr] at hcp
  simp only [push_cast, ↓branch_true, ↓branch_false, Nat.reduceBEq, Nat.reduceAdd, Nat.reduceMul, Nat.reduceSub, Int.reduceToNat, reduceCtorEq, branch_decide, branch_not, branch_beq, branch_bne, Int.reduceAdd, Int.reduceEq, Int.reduceLE, Int.reduceLT, Nat.reduceLT, Nat.reduceLeDiff, false_imp_iff, true_imp_iff]
  refine sp_at hcp [3] rfl ?_ ?_ ?_
  · simp only [push_cast, ↓branch_true, ↓branch_false, Nat.reduceBEq, Nat.reduceAdd, Nat.reduceMul, Nat.reduceSub, Int.reduceToNat, reduceCtorEq, branch_decide, branch_not, branch_beq, branch_bne, Int.reduceAdd, Int.reduceEq, Int.reduceLE, Int.reduceLT, Nat.reduceLT, Nat.reduceLeDiff, false_imp_iff, true_imp_iff]
  · simp only [push_cast, ↓branch_true, ↓branch_false, Nat.reduceBEq, Nat.reduceAdd, Nat.reduceMul, Nat.reduceSub, Int.reduceToNat, reduceCtorEq, branch_decide, branch_not, branch_beq, branch_bne, Int.reduceAdd, Int.reduceEq, Int.reduceLE, Int.reduceLT, Nat.reduceLT, Nat.reduceLeDiff, false_imp_iff, true_imp_iff]
    try rw [hsl]
    try trivial
  rintro _ _ ⟨rfl, rfl⟩
  simp only [push_cast, ↓branch_true, ↓branch_false, Nat.reduceBEq, Nat.reduceAdd, Nat.reduceMul, Nat.reduceSub, Int.reduceToNat, reduceCtorEq, branch_decide, branch_not, branch_beq, branch_bne, Int.reduceAdd, Int.reduceEq, Int.reduceLE, Int.reduceLT, Nat.reduceLT, Nat.reduceLeDiff, false_imp_iff, true_imp_iff]
  repeat (with_reducible refine And.intro (by omega) ?_)
  refine ⟨fun _ => ?_, fun h => absurd (by omega) h⟩
  refine ⟨fun h => absurd h (by omega), fun _ => ?_⟩
  refine tr_loop0 mixed (by kernel_rfl) (fun (k : Nat) => [(113, .v (.int .i64 k)), (112, .v (.int .i64 N)), (111, .s 1 0 0 N mc 1), (9, .s 2 0 0 V.length vc 1)]) (fun k => k ≤ N) (fun k => N - k) 0 (Nat.zero_le _) ?_ ?_
  · simp only [push_cast, ↓branch_true, ↓branch_false, Nat.reduceBEq, Nat.reduceAdd, Nat.reduceMul, Nat.reduceSub, Int.reduceToNat, reduceCtorEq, branch_decide, branch_not, branch_beq, branch_bne, Int.reduceAdd, Int.reduceEq, Int.reduceLE, Int.reduceLT, Nat.reduceLT, Nat.reduceLeDiff, false_imp_iff, true_imp_iff]
    try trivial
  intro k hk
  simp only [push_cast, ↓branch_true, ↓branch_false, Nat.reduceBEq, Nat.reduceAdd, Nat.reduceMul, Nat.reduceSub, Int.reduceToNat, reduceCtorEq, branch_decide, branch_not, branch_beq, branch_bne, Int.reduceAdd, Int.reduceEq, Int.reduceLE, Int.reduceLT, Nat.reduceLT, Nat.reduceLeDiff, false_imp_iff, true_imp_iff]
  refine ⟨fun h1 => ?_, fun h1 => ?_⟩
  · have hkN : k < N := by omega
    have hf := hfree k hkN
    repeat (with_reducible refine And.intro (by omega) ?_)
    refine ⟨fun h2 => ?_, fun h2 => ?_⟩
    · have hin : (k : Int) ∈ V := (hvm _).2 ⟨k, rfl, hkN, hf h2⟩
      refine sp_call (contains_pu V k vc (by omega)) rfl [2] rfl (by simp only [push_cast, ↓branch_true, ↓branch_false, Nat.reduceBEq, Nat.reduceAdd, Nat.reduceMul, Nat.reduceSub, Int.reduceToNat, reduceCtorEq, branch_decide, branch_not, branch_beq, branch_bne, Int.reduceAdd, Int.reduceEq, Int.reduceLE, Int.reduceLT, Nat.reduceLT, Nat.reduceLeDiff, false_imp_iff, true_imp_iff]) (by simp only [push_cast, ↓branch_true, ↓branch_false, Nat.reduceBEq, Nat.reduceAdd, Nat.reduceMul, Nat.reduceSub, Int.reduceToNat, reduceCtorEq, branch_decide, branch_not, branch_beq, branch_bne, Int.reduceAdd, Int.reduceEq, Int.reduceLE, Int.reduceLT, Nat.reduceLT, Nat.reduceLeDiff, false_imp_iff, true_imp_iff]) ?_
      simp only [push_cast, ↓branch_true, ↓branch_false, Nat.reduceBEq, Nat.reduceAdd, Nat.reduceMul, Nat.reduceSub, Int.reduceToNat, reduceCtorEq, branch_decide, branch_not, branch_beq, branch_bne, Int.reduceAdd, Int.reduceEq, Int.reduceLE, Int.reduceLT, Nat.reduceLT, Nat.reduceLeDiff, false_imp_iff, true_imp_iff]
      refine ⟨fun _ => ?_, fun h => absurd hin h⟩
      repeat (with_reducible refine And.intro (by omega) ?_)
      refine lp0_normal (k + 1) (by omega) (by omega) ?_
      simp only [push_cast, ↓branch_true, ↓branch_false, Nat.reduceBEq, Nat.reduceAdd, Nat.reduceMul, Nat.reduceSub, Int.reduceToNat, reduceCtorEq, branch_decide, branch_not, branch_beq, branch_bne, Int.reduceAdd, Int.reduceEq, Int.reduceLE, Int.reduceLT, Nat.reduceLT, Nat.reduceLeDiff, false_imp_iff, true_imp_iff]
    · repeat (with_reducible refine And.intro (by omega) ?_)
      refine lp0_normal (k + 1) (by omega) (by omega) ?_
      simp only [push_cast, ↓branch_true, ↓branch_false, Nat.reduceBEq, Nat.reduceAdd, Nat.reduceMul, Nat.reduceSub, Int.reduceToNat, reduceCtorEq, branch_decide, branch_not, branch_beq, branch_bne, Int.reduceAdd, Int.reduceEq, Int.reduceLE, Int.reduceLT, Nat.reduceLT, Nat.reduceLeDiff, false_imp_iff, true_imp_iff]
  · refine sp_call (sorted_pu V vc (by omega) hvs) rfl [2] rfl ?_ ?_ ?_
    · simp only [push_cast, ↓branch_true, ↓branch_false, Nat.reduceBEq, Nat.reduceAdd, Nat.reduceMul, Nat.reduceSub, Int.reduceToNat, reduceCtorEq, branch_decide, branch_not, branch_beq, branch_bne, Int.reduceAdd, Int.reduceEq, Int.reduceLE, Int.reduceLT, Nat.reduceLT, Nat.reduceLeDiff, false_imp_iff, true_imp_iff]
    · simp only [push_cast, ↓branch_true, ↓branch_false, Nat.reduceBEq, Nat.reduceAdd, Nat.reduceMul, Nat.reduceSub, Int.reduceToNat, reduceCtorEq, branch_decide, branch_not, branch_beq, branch_bne, Int.reduceAdd, Int.reduceEq, Int.reduceLE, Int.reduceLT, Nat.reduceLT, Nat.reduceLeDiff, false_imp_iff, true_imp_iff]
    simp only [push_cast, ↓branch_true, ↓branch_false, Nat.reduceBEq, Nat.reduceAdd, Nat.reduceMul, Nat.reduceSub, Int.reduceToNat, reduceCtorEq, branch_decide, branch_not, branch_beq, branch_bne, Int.reduceAdd, Int.reduceEq, Int.reduceLE, Int.reduceLT, Nat.reduceLT, Nat.reduceLeDiff, false_imp_iff, true_imp_iff]
end Go.Proofs.Ytmmabnoemckdiaa
