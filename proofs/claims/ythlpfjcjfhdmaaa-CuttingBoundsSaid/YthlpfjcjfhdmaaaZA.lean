/- Contracts: the reference's List and Least. -/
import Derived.Test.YthlpfjcjfhdmaaaZ
set_option maxRecDepth 100000
set_option linter.unusedSimpArgs false
set_option linter.unusedVariables false
namespace Go.Proofs.Ythlpfjcjfhdmaaa
open Go.RowKit
def wsT (l : List Pc) (k : Nat) : List Int := (l.take k).flatMap fun p => List.replicate p.cnt.toNat p.len
theorem wsT_succ {l : List Pc} {k : Nat} (hk : k < l.length) : wsT l (k + 1) = wsT l k ++ List.replicate (ix l k).cnt.toNat (ix l k).len := by
  unfold wsT
  rw [take_snoc hk, List.flatMap_append]
  simp
theorem wsT_len {l : List Pc} (ho : orderB l = true) : ∀ k, k ≤ l.length → ((wsT l k).length : Int) = cntT l k
  | 0, _ => by simp [wsT, cntT]
  | k + 1, h => by
    have := wsT_len ho k (by omega)
    have h2 := order_at ho (k := k) (by omega)
    rw [wsT_succ (by omega), cntT_succ (by omega), List.length_append, List.length_replicate]
    omega
def wsO (l : List Pc) : List Int := wsT l l.length
set_option maxHeartbeats 1000000 in
theorem rlist_sp (l : List Pc) (c : Nat) (ho : orderB l = true) (hc : cntL l ≤ 1000) : Sp Try.prog 68 [.s 0 0 0 l.length c 2] [rPc l] (fun r H => ∃ cap, (wsO l).length ≤ cap ∧ r = .s 1 0 0 (wsO l).length cap 1 ∧ H = [rPc l, rIO (wsO l) cap]) := by
  have hll := order_len ho
  refine sp_weak ?_
  refine sp_of_ex true [] mixed Try.call68 Try.func68 rfl Try.ntmps68 Try.results68 (by decide +kernel) rfl ?_
  simp only [push_cast, ↓branch_true, ↓branch_false, Nat.reduceBEq, Nat.reduceAdd, Nat.reduceMul, Nat.reduceSub, Int.reduceToNat, reduceCtorEq, branch_decide, branch_not, branch_beq, branch_bne]
  refine tr_loop mixed (by kernel_rfl) (fun (x : Nat × Nat) => [(4, .v (.int .i64 x.1)), (3, .s 1 0 0 (wsT l x.1).length x.2 1), (0, .s 0 0 0 l.length c 2)])
    (fun x => [rPc l, rIO (wsT l x.1) x.2]) (fun x => x.1 ≤ l.length ∧ (wsT l x.1).length ≤ x.2) (fun x => l.length - x.1) (0, 0) ⟨Nat.zero_le _, Nat.le_refl _⟩ (Mt.wk (rl := [0, 1]) ⟨by kernel_rfl, ?_, ?_⟩) ?_
  · simp only [push_cast, ↓branch_true, ↓branch_false, Nat.reduceBEq, Nat.reduceAdd, Nat.reduceMul, Nat.reduceSub, Int.reduceToNat, reduceCtorEq, branch_decide, branch_not, branch_beq, branch_bne]
    try exact rfl
  · simp only [push_cast, ↓branch_true, ↓branch_false, Nat.reduceBEq, Nat.reduceAdd, Nat.reduceMul, Nat.reduceSub, Int.reduceToNat, reduceCtorEq, branch_decide, branch_not, branch_beq, branch_bne]
    exact Or.inl rfl
  rintro ⟨k, oc⟩ ⟨h1, h2⟩
  simp only at h1 h2
  simp only [push_cast, ↓branch_true, ↓branch_false, Nat.reduceBEq, Nat.reduceAdd, Nat.reduceMul, Nat.reduceSub, Int.reduceToNat, reduceCtorEq, branch_decide, branch_not, branch_beq, branch_bne]
  have hr := wsT_len ho k h1
  have hr2 := cntT_range ho k h1
  refine ⟨fun h => ?_, fun h => ?_⟩
  rotate_left
  · obtain rfl : k = l.length := by omega
    refine ⟨_, _, [0, 1], ?_, by kernel_rfl, ?_, oc, h2, rfl, rfl⟩
    · simp only [push_cast, ↓branch_true, ↓branch_false, Nat.reduceBEq, Nat.reduceAdd, Nat.reduceMul, Nat.reduceSub, Int.reduceToNat, reduceCtorEq, branch_decide, branch_not, branch_beq, branch_bne, wsO]
    · simp only [push_cast, ↓branch_true, ↓branch_false, Nat.reduceBEq, Nat.reduceAdd, Nat.reduceMul, Nat.reduceSub, Int.reduceToNat, reduceCtorEq, branch_decide, branch_not, branch_beq, branch_bne, wsO]
  have hk : k < l.length := by omega
  have hp := order_at ho hk
  have hm := cntT_mono (j := k + 1) ho l.length (by omega) (Nat.le_refl _)
  have hs := cntT_succ hk
  have hw := wsT_succ hk
  have hcl : cntT l l.length ≤ 1000 := hc
  obtain ⟨n, hn⟩ : ∃ n : Nat, (ix l k).cnt = n := ⟨(ix l k).cnt.toNat, by omega⟩
  rw [hn] at hw hs hp
  rw [show ((n : Nat) : Int).toNat = n from rfl] at hw
  generalize hb : wsT l k = b at *
  have hbl : ∀ (j : Nat) (x : Int), (b ++ List.replicate j x).length = b.length + j := fun j x => by simp
  refine tr_loop mixed (by kernel_rfl) (fun (x : Nat × Nat) => [(5, .v (.int .i64 x.1)), (4, .v (.int .i64 k)), (3, .s 1 0 0 (b.length + x.1) x.2 1), (0, .s 0 0 0 l.length c 2)])
    (fun x => [rPc l, rIO (b ++ List.replicate x.1 (ix l k).len) x.2]) (fun x => x.1 ≤ n ∧ b.length + x.1 ≤ x.2) (fun x => n - x.1) (0, oc) ⟨Nat.zero_le _, h2⟩ (Mt.wk (rl := [0, 1]) ⟨by kernel_rfl, ?_, ?_⟩) ?_
  · simp only [push_cast, ↓branch_true, ↓branch_false, Nat.reduceBEq, Nat.reduceAdd, Nat.reduceMul, Nat.reduceSub, Int.reduceToNat, reduceCtorEq, branch_decide, branch_not, branch_beq, branch_bne]
  · simp only [push_cast, ↓branch_true, ↓branch_false, Nat.reduceBEq, Nat.reduceAdd, Nat.reduceMul, Nat.reduceSub, Int.reduceToNat, reduceCtorEq, branch_decide, branch_not, branch_beq, branch_bne, hbl]
    try simp
  rintro ⟨j, oc2⟩ ⟨g1, g2⟩
  simp only at g1 g2
  have hbj := hbl j (ix l k).len
  simp only [push_cast, ↓branch_true, ↓branch_false, Nat.reduceBEq, Nat.reduceAdd, Nat.reduceMul, Nat.reduceSub, Int.reduceToNat, reduceCtorEq, branch_decide, branch_not, branch_beq, branch_bne]
  rw [hn]
  repeat (with_reducible refine And.intro (by omega) ?_)
  refine ⟨fun h => ?_, fun h => ?_⟩
  · repeat (with_reducible refine And.intro (by omega) ?_)
    have hX : b ++ List.replicate (j + 1) (ix l k).len = (b ++ List.replicate j (ix l k).len) ++ [(ix l k).len] := by rw [List.replicate_succ', List.append_assoc]
    refine Or.inr ⟨hbj, by decide, by omega, by omega, fun cap hcap => ⟨by omega, ?_⟩⟩
    refine lpK_normal (j + 1, cap) [0, 3] ⟨by simp only; omega, by simp only; omega⟩ (by simp only; omega) (by kernel_rfl) ?_ ?_
    · simp only [push_cast, ↓branch_true, ↓branch_false, Nat.reduceBEq, Nat.reduceAdd, Nat.reduceMul, Nat.reduceSub, Int.reduceToNat, reduceCtorEq, branch_decide, branch_not, branch_beq, branch_bne]
      try omega
    · generalize b ++ List.replicate j (ix l k).len = X at *
      simp only [push_cast, ↓branch_true, ↓branch_false, Nat.reduceBEq, Nat.reduceAdd, Nat.reduceMul, Nat.reduceSub, Int.reduceToNat, reduceCtorEq, branch_decide, branch_not, branch_beq, branch_bne, hX, List.length_append, hbj]
      intro i hi q hq
      by_cases e : q < b.length + j
      · have hb2 : decide (q < b.length + j) = true := by simpa using e
        rw [ix_app_ne (by omega), hb2]
        simp only [push_cast, ↓branch_true, ↓branch_false, Nat.reduceBEq, Nat.reduceAdd, Nat.reduceMul, Nat.reduceSub, Int.reduceToNat, reduceCtorEq, branch_decide, branch_not, branch_beq, branch_bne]
      · obtain rfl : q = b.length + j := by omega
        have hb2 : decide (b.length + j < b.length + j) = false := by simp
        rw [← hbj, ix_app_last, hbj, hb2]
        simp only [push_cast, ↓branch_true, ↓branch_false, Nat.reduceBEq, Nat.reduceAdd, Nat.reduceMul, Nat.reduceSub, Int.reduceToNat, reduceCtorEq, branch_decide, branch_not, branch_beq, branch_bne]
  · obtain rfl : j = n := by omega
    repeat (with_reducible refine And.intro (by omega) ?_)
    refine lpK_normal (k + 1, oc2) [0, 1] ⟨by simp only; omega, by simp only; rw [hw, hbj]; exact g2⟩ (by simp only; omega) (by kernel_rfl) ?_ ?_
    · simp only [push_cast, ↓branch_true, ↓branch_false, Nat.reduceBEq, Nat.reduceAdd, Nat.reduceMul, Nat.reduceSub, Int.reduceToNat, reduceCtorEq, branch_decide, branch_not, branch_beq, branch_bne, hw, hbj]
    · simp only [push_cast, ↓branch_true, ↓branch_false, Nat.reduceBEq, Nat.reduceAdd, Nat.reduceMul, Nat.reduceSub, Int.reduceToNat, reduceCtorEq, branch_decide, branch_not, branch_beq, branch_bne, hw, hbj]
theorem wsO_mem {l : List Pc} {x : Int} (h : x ∈ wsO l) : ∃ k, k < l.length ∧ x = (ix l k).len := by
  unfold wsO wsT at h
  rw [List.take_length] at h
  obtain ⟨p, hp, hx⟩ := List.mem_flatMap.1 h
  obtain ⟨k, hk, rfl⟩ := List.getElem_of_mem hp
  exact ⟨k, hk, by rw [ix_eq hk]; exact (List.mem_replicate.1 hx).2⟩
theorem rleast_pu (l : List Pc) (lim : Int) (c : Nat) (ho : orderB l = true) (hc : cntL l ≤ 1000) (h1 : 1 ≤ lim) (h2 : lim ≤ 1099511627776) (hm : ∀ k, k < l.length → (ix l k).len ≤ lim) :
    Pu Try.prog 41 [.v (.int .i64 lim), .s 0 0 0 l.length c 2] [rPc l] (.v (.int .i64 (optF lim (wsO l) [] : Nat))) := by
  have hw : ∀ w ∈ wsO l, 0 ≤ w ∧ w ≤ lim := fun w h => by
    obtain ⟨k, hk, rfl⟩ := wsO_mem h
    have := order_at ho hk
    have := hm k hk
    omega
  have hle := optF_le_len hw
  have hlen : (wsO l).length ≤ 1000 := by
    have := wsT_len ho l.length (Nat.le_refl _)
    have e : cntT l l.length = cntL l := rfl
    unfold wsO
    omega
  refine pu_of_ex true [] mixed Try.call41 Try.func41 rfl Try.ntmps41 Try.results41 (by decide +kernel) rfl rfl rfl ?_
  simp only [push_cast, ↓branch_true, ↓branch_false, Nat.reduceBEq, Nat.reduceAdd, Nat.reduceMul, Nat.reduceSub, Int.reduceToNat, reduceCtorEq, branch_decide, branch_not, branch_beq, branch_bne]
  refine sp_at (rlist_sp l c ho hc) [0] rfl ?_ ?_ ?_
  · simp only [push_cast, ↓branch_true, ↓branch_false, Nat.reduceBEq, Nat.reduceAdd, Nat.reduceMul, Nat.reduceSub, Int.reduceToNat, reduceCtorEq, branch_decide, branch_not, branch_beq, branch_bne]
  · simp only [push_cast, ↓branch_true, ↓branch_false, Nat.reduceBEq, Nat.reduceAdd, Nat.reduceMul, Nat.reduceSub, Int.reduceToNat, reduceCtorEq, branch_decide, branch_not, branch_beq, branch_bne]
  rintro _ _ ⟨cap, hcap, rfl, rfl⟩
  simp only [push_cast, ↓branch_true, ↓branch_false, Nat.reduceBEq, Nat.reduceAdd, Nat.reduceMul, Nat.reduceSub, Int.reduceToNat, reduceCtorEq, branch_decide, branch_not, branch_beq, branch_bne]
  repeat (with_reducible refine And.intro (by omega) ?_)
  refine sp_call (rbest_pu (wsO l) lim hlen h1 h2 (fun k hk => hw _ (ix_mem hk)) (wsO l).length 0 [] cap 0 ((wsO l).length + 1) (by omega) (by simp; exact hlen) (fun r hr => absurd hr (by simp)) (by omega)) rfl [1, 1000] rfl ?_ ?_ ?_
  · simp only [push_cast, ↓branch_true, ↓branch_false, Nat.reduceBEq, Nat.reduceAdd, Nat.reduceMul, Nat.reduceSub, Int.reduceToNat, reduceCtorEq, branch_decide, branch_not, branch_beq, branch_bne]
    try omega
  · simp only [push_cast, ↓branch_true, ↓branch_false, Nat.reduceBEq, Nat.reduceAdd, Nat.reduceMul, Nat.reduceSub, Int.reduceToNat, reduceCtorEq, branch_decide, branch_not, branch_beq, branch_bne]
    decide
  simp only [push_cast, ↓branch_true, ↓branch_false, Nat.reduceBEq, Nat.reduceAdd, Nat.reduceMul, Nat.reduceSub, Int.reduceToNat, reduceCtorEq, branch_decide, branch_not, branch_beq, branch_bne]
  show _ = SV.v (.int .i64 (optF lim (wsO l) [] : Nat))
  rw [show usedR lim [] = [] from rfl, Nat.min_eq_right (by omega)]
end Go.Proofs.Ythlpfjcjfhdmaaa
