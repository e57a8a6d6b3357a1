/- Law: Forces. -/
import Derived.Test.YtmmabnoemckdiaaAE
import Derived.Test.YtmmabnoemckdiaaAG
import Derived.Test.YtmmabnoemckdiaaZ
set_option maxRecDepth 100000
set_option linter.unusedSimpArgs false
set_option linter.unusedVariables false
namespace Go.Proofs.Ytmmabnoemckdiaa
open Go.RowKit Bip
theorem frRow_mem {N M : Nat} {T : Nat → Nat → Bool} {i k : Nat} {x : Ed} : x ∈ frRow N M T i k ↔ ∃ j : Nat, x = ⟨(i : Int), (j : Int)⟩ ∧ j < k ∧ frc N M T i j = true := by
  unfold frRow
  rw [List.mem_map]
  constructor
  · rintro ⟨j, h1, rfl⟩
    rw [List.mem_filter, List.mem_range] at h1
    exact ⟨j, rfl, h1⟩
  · rintro ⟨j, rfl, h⟩
    exact ⟨j, by rw [List.mem_filter, List.mem_range]; exact h, rfl⟩
theorem frAll_mem {N M : Nat} {T : Nat → Nat → Bool} {x : Ed} : ∀ {n : Nat}, x ∈ frAll N M T n ↔ ∃ i j : Nat, x = ⟨(i : Int), (j : Int)⟩ ∧ i < n ∧ j < M ∧ frc N M T i j = true
  | 0 => by simp [frAll]
  | n + 1 => by
    rw [frAll, List.mem_append, frAll_mem (n := n), frRow_mem]
    constructor
    · rintro (⟨i, j, h1, h2, h3⟩ | ⟨j, h1, h2⟩)
      · exact ⟨i, j, h1, by omega, h3⟩
      · exact ⟨n, j, h1, by omega, h2⟩
    · rintro ⟨i, j, h1, h2, h3⟩
      by_cases e : i = n
      · subst e; exact .inr ⟨j, h1, h3⟩
      · exact .inl ⟨i, j, h1, by omega, h3⟩
/-- A forced edge is in every greatest matching. -/
theorem forced_in {E : Nat → Nat → Bool} {n m i j : Nat} {L : List Int} (hm : IsM E m 0 (fun _ => false) L) (hf : found L = nuT n m E) (hL : L.length = n) (hi : i < n) (h : frc n m E i j = true) : ix L i = (j : Int) := by
  refine Classical.byContradiction fun hne => ?_
  unfold frc at h
  rw [Bool.and_eq_true, decide_eq_true_eq] at h
  have := found_le_nuT (E' := delE E i j) hm hL fun a ha h0 => by
    have h1 := hm.ok a (by omega)
    rw [← ix_eq (by omega)] at h1
    rcases h1 with h1 | ⟨_, _, h3, _⟩
    · omega
    · rw [Nat.zero_add] at h3
      unfold delE
      rw [h3]
      cases e : a == i && (ix L a).toNat == j with
      | false => rfl
      | true =>
        simp only [Bool.and_eq_true, beq_iff_eq] at e
        obtain ⟨rfl, e⟩ := e
        exact absurd (by omega) hne
  omega
theorem tab_del {l : List Ed} {N M : Nat} (hve : ∀ e ∈ l, inE N M e = true) {v : Ed} (hv : v ∈ l) (i j : Nat) : tab (keepT (fun x => decide (x = v)) l l.length) i j = delE (tab l) v.x.toNat v.y.toNat i j := by
  have h0 := hve v hv
  simp only [inE, Bool.and_eq_true, decide_eq_true_eq] at h0
  unfold keepT delE tab
  rw [List.take_length, Bool.eq_iff_iff, Bool.and_eq_true, List.any_eq_true, List.any_eq_true]
  simp only [List.mem_filter, Bool.and_eq_true, beq_iff_eq, Bool.not_eq_true', decide_eq_false_iff_not]
  constructor
  · rintro ⟨e, ⟨h1, h2⟩, h3, h4⟩
    have h5 := hve e h1
    simp only [inE, Bool.and_eq_true, decide_eq_true_eq] at h5
    refine ⟨⟨e, h1, h3, h4⟩, ?_⟩
    rw [Bool.and_eq_false_iff]
    by_cases e1 : i = v.x.toNat
    · right
      simp only [beq_eq_false_iff_ne]
      intro e2
      exact h2 (Ed.ext' (by omega) (by omega))
    · left; simpa using e1
  · rintro ⟨⟨e, h1, h3, h4⟩, h2⟩
    refine ⟨e, ⟨h1, fun e1 => ?_⟩, h3, h4⟩
    subst e1
    rw [h3, h4] at h2
    simp at h2
theorem keep_in {l : List Ed} {p : Ed → Bool} {e : Ed} (h : e ∈ keepT p l l.length) : e ∈ l := by
  unfold keepT at h
  rw [List.take_length, List.mem_filter] at h
  exact h.1
set_option maxHeartbeats 4000000 in
theorem lforces_sp (l : List Ed) (n m pick : Int) (c : Nat) (hl : l.length ≤ 9223372036854775807) (hp : 0 ≤ pick ∧ pick ≤ 255) : Sp Try.prog 9 [.v (.int .i64 n), .v (.int .i64 m), .s 0 0 0 l.length c 2, .v (.int .u8 pick)] [rEd l] (fun r H => r = .v (.bool true)) := by
  refine sp_of_ex true [] mixed Try.call9 Try.func9 rfl Try.ntmps9 Try.results9 (by decide +kernel) rfl ?_
  simp only [push_cast, ↓branch_true, ↓branch_false, Nat.reduceBEq, Nat.reduceAdd, Nat.reduceMul, Nat.reduceSub, Int.reduceToNat, reduceCtorEq, branch_decide, branch_not, branch_beq, branch_bne, Int.reduceAdd, Int.reduceEq, Int.reduceLE, Int.reduceLT, Nat.reduceLT, Nat.reduceLeDiff, false_imp_iff, true_imp_iff]
  refine sp_at awake_sp [] rfl ?_ ?_ ?_
  · simp only [push_cast, ↓branch_true, ↓branch_false, Nat.reduceBEq, Nat.reduceAdd, Nat.reduceMul, Nat.reduceSub, Int.reduceToNat, reduceCtorEq, branch_decide, branch_not, branch_beq, branch_bne, Int.reduceAdd, Int.reduceEq, Int.reduceLE, Int.reduceLT, Nat.reduceLT, Nat.reduceLeDiff, false_imp_iff, true_imp_iff]
  · simp only [push_cast, ↓branch_true, ↓branch_false, Nat.reduceBEq, Nat.reduceAdd, Nat.reduceMul, Nat.reduceSub, Int.reduceToNat, reduceCtorEq, branch_decide, branch_not, branch_beq, branch_bne, Int.reduceAdd, Int.reduceEq, Int.reduceLE, Int.reduceLT, Nat.reduceLT, Nat.reduceLeDiff, false_imp_iff, true_imp_iff]
  rintro _ _ ⟨rfl, rfl⟩
  simp only [push_cast, ↓branch_true, ↓branch_false, Nat.reduceBEq, Nat.reduceAdd, Nat.reduceMul, Nat.reduceSub, Int.reduceToNat, reduceCtorEq, branch_decide, branch_not, branch_beq, branch_bne, Int.reduceAdd, Int.reduceEq, Int.reduceLE, Int.reduceLT, Nat.reduceLT, Nat.reduceLeDiff, false_imp_iff, true_imp_iff]
  refine sp_call (large_pu n m l c hl) rfl [0] rfl (by simp only [push_cast, ↓branch_true, ↓branch_false, Nat.reduceBEq, Nat.reduceAdd, Nat.reduceMul, Nat.reduceSub, Int.reduceToNat, reduceCtorEq, branch_decide, branch_not, branch_beq, branch_bne, Int.reduceAdd, Int.reduceEq, Int.reduceLE, Int.reduceLT, Nat.reduceLT, Nat.reduceLeDiff, false_imp_iff, true_imp_iff]) (by simp only [push_cast, ↓branch_true, ↓branch_false, Nat.reduceBEq, Nat.reduceAdd, Nat.reduceMul, Nat.reduceSub, Int.reduceToNat, reduceCtorEq, branch_decide, branch_not, branch_beq, branch_bne, Int.reduceAdd, Int.reduceEq, Int.reduceLE, Int.reduceLT, Nat.reduceLT, Nat.reduceLeDiff, false_imp_iff, true_imp_iff]) ?_
  simp only [push_cast, ↓branch_true, ↓branch_false, Nat.reduceBEq, Nat.reduceAdd, Nat.reduceMul, Nat.reduceSub, Int.reduceToNat, reduceCtorEq, branch_decide, branch_not, branch_beq, branch_bne, Int.reduceAdd, Int.reduceEq, Int.reduceLE, Int.reduceLT, Nat.reduceLT, Nat.reduceLeDiff, false_imp_iff, true_imp_iff]
  cases hlg : largeB n m l with
  | true =>
    simp only [push_cast, ↓branch_true, ↓branch_false, Nat.reduceBEq, Nat.reduceAdd, Nat.reduceMul, Nat.reduceSub, Int.reduceToNat, reduceCtorEq, branch_decide, branch_not, branch_beq, branch_bne, Int.reduceAdd, Int.reduceEq, Int.reduceLE, Int.reduceLT, Nat.reduceLT, Nat.reduceLeDiff, false_imp_iff, true_imp_iff]
  | false =>
  simp only [push_cast, ↓branch_true, ↓branch_false, Nat.reduceBEq, Nat.reduceAdd, Nat.reduceMul, Nat.reduceSub, Int.reduceToNat, reduceCtorEq, branch_decide, branch_not, branch_beq, branch_bne, Int.reduceAdd, Int.reduceEq, Int.reduceLE, Int.reduceLT, Nat.reduceLT, Nat.reduceLeDiff, false_imp_iff, true_imp_iff]
  intro h60
  refine sp_at (match_sp l n m c hl) [0] rfl ?_ ?_ ?_
  · simp only [push_cast, ↓branch_true, ↓branch_false, Nat.reduceBEq, Nat.reduceAdd, Nat.reduceMul, Nat.reduceSub, Int.reduceToNat, reduceCtorEq, branch_decide, branch_not, branch_beq, branch_bne, Int.reduceAdd, Int.reduceEq, Int.reduceLE, Int.reduceLT, Nat.reduceLT, Nat.reduceLeDiff, false_imp_iff, true_imp_iff]
  · simp only [push_cast, ↓branch_true, ↓branch_false, Nat.reduceBEq, Nat.reduceAdd, Nat.reduceMul, Nat.reduceSub, Int.reduceToNat, reduceCtorEq, branch_decide, branch_not, branch_beq, branch_bne, Int.reduceAdd, Int.reduceEq, Int.reduceLE, Int.reduceLT, Nat.reduceLT, Nat.reduceLeDiff, false_imp_iff, true_imp_iff]
  rintro _ _ ⟨mc, hmc, rfl, rfl⟩
  simp only [push_cast, ↓branch_true, ↓branch_false, Nat.reduceBEq, Nat.reduceAdd, Nat.reduceMul, Nat.reduceSub, Int.reduceToNat, reduceCtorEq, branch_decide, branch_not, branch_beq, branch_bne, Int.reduceAdd, Int.reduceEq, Int.reduceLE, Int.reduceLT, Nat.reduceLT, Nat.reduceLeDiff, false_imp_iff, true_imp_iff]
  refine sp_at (forced_sp l n m c hl) [0] rfl ?_ ?_ ?_
  · simp only [push_cast, ↓branch_true, ↓branch_false, Nat.reduceBEq, Nat.reduceAdd, Nat.reduceMul, Nat.reduceSub, Int.reduceToNat, reduceCtorEq, branch_decide, branch_not, branch_beq, branch_bne, Int.reduceAdd, Int.reduceEq, Int.reduceLE, Int.reduceLT, Nat.reduceLT, Nat.reduceLeDiff, false_imp_iff, true_imp_iff]
  · simp only [push_cast, ↓branch_true, ↓branch_false, Nat.reduceBEq, Nat.reduceAdd, Nat.reduceMul, Nat.reduceSub, Int.reduceToNat, reduceCtorEq, branch_decide, branch_not, branch_beq, branch_bne, Int.reduceAdd, Int.reduceEq, Int.reduceLE, Int.reduceLT, Nat.reduceLT, Nat.reduceLeDiff, false_imp_iff, true_imp_iff]
  rintro _ _ ⟨fc, hfc, rfl, rfl⟩
  simp only [push_cast, ↓branch_true, ↓branch_false, Nat.reduceBEq, Nat.reduceAdd, Nat.reduceMul, Nat.reduceSub, Int.reduceToNat, reduceCtorEq, branch_decide, branch_not, branch_beq, branch_bne, Int.reduceAdd, Int.reduceEq, Int.reduceLE, Int.reduceLT, Nat.reduceLT, Nat.reduceLeDiff, false_imp_iff, true_imp_iff]
  cases hv : validE n m l with
  | false =>
    have e1 : matchR l n m = [] := by simp [matchR, hv]
    have e2 : errR l n m = 1 := by simp [errR, hv]
    have e7 : frcR l n m = [] := by simp [frcR, hv]
    rw [e1, e2, e7]
    simp only [push_cast, ↓branch_true, ↓branch_false, Nat.reduceBEq, Nat.reduceAdd, Nat.reduceMul, Nat.reduceSub, Int.reduceToNat, reduceCtorEq, branch_decide, branch_not, branch_beq, branch_bne, Int.reduceAdd, Int.reduceEq, Int.reduceLE, Int.reduceLT, Nat.reduceLT, Nat.reduceLeDiff, false_imp_iff, true_imp_iff]
  | true =>
  obtain ⟨N, M, rfl, rfl, hN, hM, hl2, hve⟩ := valid_of hv
  have e1 : matchR l N M = matchT (tab l) N M := by simp [matchR, hv]
  have e2 : errR l N M = 0 := by simp [errR, hv]
  have e7 : frcR l N M = frAll N M (tab l) N := by simp [frcR, hv]
  obtain ⟨m1, m2, m3⟩ := matchT_ok (tab l) N M
  rw [e1, m3] at hmc
  rw [e7] at hfc
  rw [e1, e2, e7, m3]
  simp only [push_cast, ↓branch_true, ↓branch_false, Nat.reduceBEq, Nat.reduceAdd, Nat.reduceMul, Nat.reduceSub, Int.reduceToNat, reduceCtorEq, branch_decide, branch_not, branch_beq, branch_bne, Int.reduceAdd, Int.reduceEq, Int.reduceLE, Int.reduceLT, Nat.reduceLT, Nat.reduceLeDiff, false_imp_iff, true_imp_iff]
  have hmp := matching_pu l N M c mc (matchT (tab l) N M) hN hM (by omega) hve m3 m1
  rw [m3, m2] at hmp
  refine sp_call hmp rfl [0, 1] rfl ?_ ?_ ?_
  · simp only [push_cast, ↓branch_true, ↓branch_false, Nat.reduceBEq, Nat.reduceAdd, Nat.reduceMul, Nat.reduceSub, Int.reduceToNat, reduceCtorEq, branch_decide, branch_not, branch_beq, branch_bne, Int.reduceAdd, Int.reduceEq, Int.reduceLE, Int.reduceLT, Nat.reduceLT, Nat.reduceLeDiff, false_imp_iff, true_imp_iff]
  · simp only [push_cast, ↓branch_true, ↓branch_false, Nat.reduceBEq, Nat.reduceAdd, Nat.reduceMul, Nat.reduceSub, Int.reduceToNat, reduceCtorEq, branch_decide, branch_not, branch_beq, branch_bne, Int.reduceAdd, Int.reduceEq, Int.reduceLE, Int.reduceLT, Nat.reduceLT, Nat.reduceLeDiff, false_imp_iff, true_imp_iff, m3]
  have hnl := nuT_le_left N M (tab l)
  have hfm := fun x => frAll_mem (N := N) (M := M) (T := tab l) (x := x) (n := N)
  have lf := frAll_len N M (tab l) N
  have lf2 : N * M ≤ 60 * 60 := Nat.mul_le_mul hN hM
  have hfin := fun i j hi h => forced_in (i := i) (j := j) m1 m2 m3 hi h
  generalize frAll N M (tab l) N = F at *
  simp only [push_cast, ↓branch_true, ↓branch_false, Nat.reduceBEq, Nat.reduceAdd, Nat.reduceMul, Nat.reduceSub, Int.reduceToNat, reduceCtorEq, branch_decide, branch_not, branch_beq, branch_bne, Int.reduceAdd, Int.reduceEq, Int.reduceLE, Int.reduceLT, Nat.reduceLT, Nat.reduceLeDiff, false_imp_iff, true_imp_iff]
  refine tr_loop mixed (by kernel_rfl) (fun (k : Nat) => [(74, .v (.int .i64 k)), (73, .v (.int .i64 F.length)), (72, .s 2 0 0 F.length fc 2), (9, .s 1 0 0 N mc 1), (11, .s 2 0 0 F.length fc 2), (13, .v (.int .i64 (nuT N M (tab l) : Nat))), (0, .v (.int .i64 N)), (1, .v (.int .i64 M)), (2, .s 0 0 0 l.length c 2), (3, .v (.int .u8 pick))])
    (fun _ => [rEd l, rIO (matchT (tab l) N M) mc, oEd F fc]) (fun k => k ≤ F.length) (fun k => F.length - k) 0 (Nat.zero_le _) (Mt.wk (rl := [0, 1, 2]) ⟨by kernel_rfl, ?_, ?_⟩) ?_
  · simp only [push_cast, ↓branch_true, ↓branch_false, Nat.reduceBEq, Nat.reduceAdd, Nat.reduceMul, Nat.reduceSub, Int.reduceToNat, reduceCtorEq, branch_decide, branch_not, branch_beq, branch_bne, Int.reduceAdd, Int.reduceEq, Int.reduceLE, Int.reduceLT, Nat.reduceLT, Nat.reduceLeDiff, false_imp_iff, true_imp_iff]
    try trivial
  · simp only [push_cast, ↓branch_true, ↓branch_false, Nat.reduceBEq, Nat.reduceAdd, Nat.reduceMul, Nat.reduceSub, Int.reduceToNat, reduceCtorEq, branch_decide, branch_not, branch_beq, branch_bne, Int.reduceAdd, Int.reduceEq, Int.reduceLE, Int.reduceLT, Nat.reduceLT, Nat.reduceLeDiff, false_imp_iff, true_imp_iff, m3]
    try trivial
  intro k hk
  simp only [push_cast, ↓branch_true, ↓branch_false, Nat.reduceBEq, Nat.reduceAdd, Nat.reduceMul, Nat.reduceSub, Int.reduceToNat, reduceCtorEq, branch_decide, branch_not, branch_beq, branch_bne, Int.reduceAdd, Int.reduceEq, Int.reduceLE, Int.reduceLT, Nat.reduceLT, Nat.reduceLeDiff, false_imp_iff, true_imp_iff]
  refine ⟨fun h1 => ?_, fun h1 => ?_⟩
  · have hkF : k < F.length := by omega
    obtain ⟨i, j, hx, hi, hj, hf⟩ := (hfm _).1 (ix_mem hkF)
    have hLi := hfin i j hi hf
    have hx1 : (ix F k).x = i := by rw [hx]
    have hx2 : (ix F k).y = j := by rw [hx]
    repeat (with_reducible refine And.intro (by omega) ?_)
    simp only [hx1, hx2]
    intro _
    refine ⟨fun h => absurd h (by omega), fun _ => ?_⟩
    simp only [Int.toNat_natCast, hLi]
    repeat (with_reducible refine And.intro (by omega) ?_)
    refine ⟨fun _ => ?_, fun h => absurd trivial h⟩
    repeat (with_reducible refine And.intro (by omega) ?_)
    refine lpK_normal (k + 1) [0, 1, 2] (by omega) (by omega) (by kernel_rfl) ?_ ?_
    · simp only [push_cast, ↓branch_true, ↓branch_false, Nat.reduceBEq, Nat.reduceAdd, Nat.reduceMul, Nat.reduceSub, Int.reduceToNat, reduceCtorEq, branch_decide, branch_not, branch_beq, branch_bne, Int.reduceAdd, Int.reduceEq, Int.reduceLE, Int.reduceLT, Nat.reduceLT, Nat.reduceLeDiff, false_imp_iff, true_imp_iff]
    · simp only [push_cast, ↓branch_true, ↓branch_false, Nat.reduceBEq, Nat.reduceAdd, Nat.reduceMul, Nat.reduceSub, Int.reduceToNat, reduceCtorEq, branch_decide, branch_not, branch_beq, branch_bne, Int.reduceAdd, Int.reduceEq, Int.reduceLE, Int.reduceLT, Nat.reduceLT, Nat.reduceLeDiff, false_imp_iff, true_imp_iff]
  obtain rfl : k = F.length := by omega
  refine ⟨fun h2 => ?_, fun h2 => ?_⟩
  · have hF0 : F = [] := by
      cases F with
      | nil => rfl
      | cons x F =>
        obtain ⟨i, j, _, _, _, hf⟩ := (hfm x).1 (by simp)
        have hl0 : l = [] := List.length_eq_zero_iff.1 (by omega)
        subst hl0
        simp [frc, tab] at hf
    rw [hF0]
    rfl
  have hmod : 0 ≤ pick.tmod (l.length : Int) ∧ pick.tmod (l.length : Int) < (l.length : Int) := ⟨Int.tmod_nonneg _ (by omega), Int.tmod_lt_of_pos _ (by omega)⟩
  repeat (with_reducible refine And.intro (by omega) ?_)
  have hvm : ix l (pick.tmod (l.length : Int)).toNat ∈ l := ix_mem (by omega)
  generalize ix l (pick.tmod (l.length : Int)).toNat = v at *
  refine sp_at (sp_len (cloneA_sp [] 0 (by decide) (by decide)) fun hc => cloneA_sp l c (by omega) hc) [0] rfl ?_ ?_ ?_
  · simp only [push_cast, ↓branch_true, ↓branch_false, Nat.reduceBEq, Nat.reduceAdd, Nat.reduceMul, Nat.reduceSub, Int.reduceToNat, reduceCtorEq, branch_decide, branch_not, branch_beq, branch_bne, Int.reduceAdd, Int.reduceEq, Int.reduceLE, Int.reduceLT, Nat.reduceLT, Nat.reduceLeDiff, false_imp_iff, true_imp_iff]
  · simp only [push_cast, ↓branch_true, ↓branch_false, Nat.reduceBEq, Nat.reduceAdd, Nat.reduceMul, Nat.reduceSub, Int.reduceToNat, reduceCtorEq, branch_decide, branch_not, branch_beq, branch_bne, Int.reduceAdd, Int.reduceEq, Int.reduceLE, Int.reduceLT, Nat.reduceLT, Nat.reduceLeDiff, false_imp_iff, true_imp_iff]
  rintro _ _ ⟨lc, hlc, rfl, rfl⟩
  simp only [push_cast, ↓branch_true, ↓branch_false, Nat.reduceBEq, Nat.reduceAdd, Nat.reduceMul, Nat.reduceSub, Int.reduceToNat, reduceCtorEq, branch_decide, branch_not, branch_beq, branch_bne, Int.reduceAdd, Int.reduceEq, Int.reduceLE, Int.reduceLT, Nat.reduceLT, Nat.reduceLeDiff, false_imp_iff, true_imp_iff]
  refine sp_at (delA_sp l lc v (by omega) hlc) [4, 3] rfl ?_ ?_ ?_
  · simp only [push_cast, ↓branch_true, ↓branch_false, Nat.reduceBEq, Nat.reduceAdd, Nat.reduceMul, Nat.reduceSub, Int.reduceToNat, reduceCtorEq, branch_decide, branch_not, branch_beq, branch_bne, Int.reduceAdd, Int.reduceEq, Int.reduceLE, Int.reduceLT, Nat.reduceLT, Nat.reduceLeDiff, false_imp_iff, true_imp_iff]
  · simp only [push_cast, ↓branch_true, ↓branch_false, Nat.reduceBEq, Nat.reduceAdd, Nat.reduceMul, Nat.reduceSub, Int.reduceToNat, reduceCtorEq, branch_decide, branch_not, branch_beq, branch_bne, Int.reduceAdd, Int.reduceEq, Int.reduceLE, Int.reduceLT, Nat.reduceLT, Nat.reduceLeDiff, false_imp_iff, true_imp_iff]
  rintro _ _ ⟨rfl, rfl⟩
  have hki := fun e (h : e ∈ keepT (fun x => decide (x = v)) l l.length) => hve e (keep_in h)
  have hkt := tab_del hve hvm
  have hkl := keepT_len (fun x => decide (x = v)) l l.length
  have hkv : validE N M (keepT (fun x => decide (x = v)) l l.length) = true := by
    simp only [validE, Bool.and_eq_true, decide_eq_true_eq, List.all_eq_true]
    exact ⟨by omega, by omega, by omega, by omega, by omega, hki⟩
  generalize keepT (fun x => decide (x = v)) l l.length = l' at *
  simp only [push_cast, ↓branch_true, ↓branch_false, Nat.reduceBEq, Nat.reduceAdd, Nat.reduceMul, Nat.reduceSub, Int.reduceToNat, reduceCtorEq, branch_decide, branch_not, branch_beq, branch_bne, Int.reduceAdd, Int.reduceEq, Int.reduceLE, Int.reduceLT, Nat.reduceLT, Nat.reduceLeDiff, false_imp_iff, true_imp_iff]
  have f1 : matchR l' N M = matchT (tab l') N M := by simp [matchR, hkv]
  have f2 : errR l' N M = 0 := by simp [errR, hkv]
  obtain ⟨p1, p2, p3⟩ := matchT_ok (tab l') N M
  have hnt : nuT N M (tab l') = nuT N M (delE (tab l) v.x.toNat v.y.toNat) := nuT_congr fun a b _ _ => hkt a b
  have hge := nuT_delE_ge (n := N) (m := M) (E := tab l) (p := v.x.toNat) (q := v.y.toNat)
  rw [← hnt] at hge
  refine sp_at (match_sp l' N M lc (by omega)) [4] rfl ?_ ?_ ?_
  · simp only [push_cast, ↓branch_true, ↓branch_false, Nat.reduceBEq, Nat.reduceAdd, Nat.reduceMul, Nat.reduceSub, Int.reduceToNat, reduceCtorEq, branch_decide, branch_not, branch_beq, branch_bne, Int.reduceAdd, Int.reduceEq, Int.reduceLE, Int.reduceLT, Nat.reduceLT, Nat.reduceLeDiff, false_imp_iff, true_imp_iff]
  · simp only [push_cast, ↓branch_true, ↓branch_false, Nat.reduceBEq, Nat.reduceAdd, Nat.reduceMul, Nat.reduceSub, Int.reduceToNat, reduceCtorEq, branch_decide, branch_not, branch_beq, branch_bne, Int.reduceAdd, Int.reduceEq, Int.reduceLE, Int.reduceLT, Nat.reduceLT, Nat.reduceLeDiff, false_imp_iff, true_imp_iff]
  rintro _ _ ⟨kc, hkc, rfl, rfl⟩
  rw [f1, p3] at hkc
  rw [f1, f2, p3]
  simp only [push_cast, ↓branch_true, ↓branch_false, Nat.reduceBEq, Nat.reduceAdd, Nat.reduceMul, Nat.reduceSub, Int.reduceToNat, reduceCtorEq, branch_decide, branch_not, branch_beq, branch_bne, Int.reduceAdd, Int.reduceEq, Int.reduceLE, Int.reduceLT, Nat.reduceLT, Nat.reduceLeDiff, false_imp_iff, true_imp_iff]
  have hmp2 := matching_pu l' N M lc kc (matchT (tab l') N M) hN hM (by omega) hki p3 p1
  rw [p3, p2] at hmp2
  refine sp_call hmp2 rfl [4, 5] rfl ?_ ?_ ?_
  · simp only [push_cast, ↓branch_true, ↓branch_false, Nat.reduceBEq, Nat.reduceAdd, Nat.reduceMul, Nat.reduceSub, Int.reduceToNat, reduceCtorEq, branch_decide, branch_not, branch_beq, branch_bne, Int.reduceAdd, Int.reduceEq, Int.reduceLE, Int.reduceLT, Nat.reduceLT, Nat.reduceLeDiff, false_imp_iff, true_imp_iff]
  · simp only [push_cast, ↓branch_true, ↓branch_false, Nat.reduceBEq, Nat.reduceAdd, Nat.reduceMul, Nat.reduceSub, Int.reduceToNat, reduceCtorEq, branch_decide, branch_not, branch_beq, branch_bne, Int.reduceAdd, Int.reduceEq, Int.reduceLE, Int.reduceLT, Nat.reduceLT, Nat.reduceLeDiff, false_imp_iff, true_imp_iff, p3]
  have hnl2 := nuT_le_left N M (tab l')
  simp only [push_cast, ↓branch_true, ↓branch_false, Nat.reduceBEq, Nat.reduceAdd, Nat.reduceMul, Nat.reduceSub, Int.reduceToNat, reduceCtorEq, branch_decide, branch_not, branch_beq, branch_bne, Int.reduceAdd, Int.reduceEq, Int.reduceLE, Int.reduceLT, Nat.reduceLT, Nat.reduceLeDiff, false_imp_iff, true_imp_iff]
  repeat (with_reducible refine And.intro (by omega) ?_)
  refine sp_call (containsA_pu F v fc (by omega)) rfl [2] rfl ?_ ?_ ?_
  · simp only [push_cast, ↓branch_true, ↓branch_false, Nat.reduceBEq, Nat.reduceAdd, Nat.reduceMul, Nat.reduceSub, Int.reduceToNat, reduceCtorEq, branch_decide, branch_not, branch_beq, branch_bne, Int.reduceAdd, Int.reduceEq, Int.reduceLE, Int.reduceLT, Nat.reduceLT, Nat.reduceLeDiff, false_imp_iff, true_imp_iff]
  · simp only [push_cast, ↓branch_true, ↓branch_false, Nat.reduceBEq, Nat.reduceAdd, Nat.reduceMul, Nat.reduceSub, Int.reduceToNat, reduceCtorEq, branch_decide, branch_not, branch_beq, branch_bne, Int.reduceAdd, Int.reduceEq, Int.reduceLE, Int.reduceLT, Nat.reduceLT, Nat.reduceLeDiff, false_imp_iff, true_imp_iff]
  have hcont : decide (v ∈ F) = decide (nuT N M (tab l') < nuT N M (tab l)) := by
    rw [decide_eq_decide, hfm]
    have h0 := hve v hvm
    simp only [inE, Bool.and_eq_true, decide_eq_true_eq] at h0
    constructor
    · rintro ⟨i, j, h1, h2, h3, h4⟩
      have h5 : v.x.toNat = i := by rw [h1]; rfl
      have h6 : v.y.toNat = j := by rw [h1]; rfl
      unfold frc at h4
      rw [Bool.and_eq_true, decide_eq_true_eq] at h4
      rw [hnt, h5, h6]
      exact h4.2
    · intro h
      refine ⟨v.x.toNat, v.y.toNat, Ed.ext' (by show v.x = ((v.x.toNat : Nat) : Int); omega) (by show v.y = ((v.y.toNat : Nat) : Int); omega), by omega, by omega, ?_⟩
      unfold frc
      rw [tab_edge hvm, Bool.true_and, decide_eq_true_eq, ← hnt]
      exact h
  rw [hcont]
  simp only [push_cast, ↓branch_true, ↓branch_false, Nat.reduceBEq, Nat.reduceAdd, Nat.reduceMul, Nat.reduceSub, Int.reduceToNat, reduceCtorEq, branch_decide, branch_not, branch_beq, branch_bne, Int.reduceAdd, Int.reduceEq, Int.reduceLE, Int.reduceLT, Nat.reduceLT, Nat.reduceLeDiff, false_imp_iff, true_imp_iff]
  rw [show (decide (((nuT N M (tab l') : Nat) : Int) < ((nuT N M (tab l) : Nat) : Int)) == decide (nuT N M (tab l') < nuT N M (tab l))) = true by simp]
  simp only [push_cast, ↓branch_true, ↓branch_false, Nat.reduceBEq, Nat.reduceAdd, Nat.reduceMul, Nat.reduceSub, Int.reduceToNat, reduceCtorEq, branch_decide, branch_not, branch_beq, branch_bne, Int.reduceAdd, Int.reduceEq, Int.reduceLE, Int.reduceLT, Nat.reduceLT, Nat.reduceLeDiff, false_imp_iff, true_imp_iff]
  refine ⟨by omega, vb (decide_eq_true (by omega))⟩
end Go.Proofs.Ytmmabnoemckdiaa
