/- Forced: a clone of a row, the view of the lists, the plain law. -/
import Derived.Test.YtmmabnoemckdiaaAC
import Derived.Test.YtmmabnoemckdiaaAB
import Derived.Test.YtmmabnoemckdiaaH
set_option maxRecDepth 100000
set_option linter.unusedSimpArgs false
set_option linter.unusedVariables false
namespace Go.Proofs.Ytmmabnoemckdiaa
open Go.RowKit Bip
theorem cloneM_sp (N a c : Nat) (near : Nat → List Int) (ha : a < N) (hl : (near a).length ≤ 1000000) (hc : (near a).length ≤ c) : Sp Try.prog 66 [.s 0 a 0 (near a).length c 1] [oNf N near] (fun r H => ∃ cap, (near a).length ≤ cap ∧ r = .s 1 0 0 (near a).length cap 1 ∧ H = [oNf N near, rIO (near a) cap]) := by
  refine sp_weak ?_
  refine sp_of_ex true [] mixed Try.call66 Try.func66 rfl Try.ntmps66 Try.results66 (by decide +kernel) rfl ?_
  simp only [push_cast, ↓branch_true, ↓branch_false, Nat.reduceBEq, Nat.reduceAdd, Nat.reduceMul, Nat.reduceSub, Int.reduceToNat, reduceCtorEq, branch_decide, branch_not, branch_beq, branch_bne, Int.reduceAdd, Int.reduceEq, Int.reduceLE, Int.reduceLT, Nat.reduceLT, Nat.reduceLeDiff, false_imp_iff, true_imp_iff]
  intro b hb
  generalize hnn : (near a).length = n at *
  cases b with
  | true =>
    have h0 : n = 0 := by
      rcases Nat.eq_zero_or_pos c with h | h
      · omega
      · cases hb h
    simp only [push_cast, ↓branch_true, ↓branch_false, Nat.reduceBEq, Nat.reduceAdd, Nat.reduceMul, Nat.reduceSub, Int.reduceToNat, reduceCtorEq, branch_decide, branch_not, branch_beq, branch_bne, Int.reduceAdd, Int.reduceEq, Int.reduceLE, Int.reduceLT, Nat.reduceLT, Nat.reduceLeDiff, false_imp_iff, true_imp_iff]
    refine ⟨_, _, [0, 1000], ?_, by kernel_rfl, ?_, 0, by omega, rfl, rfl⟩
    · simp only [push_cast, ↓branch_true, ↓branch_false, Nat.reduceBEq, Nat.reduceAdd, Nat.reduceMul, Nat.reduceSub, Int.reduceToNat, reduceCtorEq, branch_decide, branch_not, branch_beq, branch_bne, Int.reduceAdd, Int.reduceEq, Int.reduceLE, Int.reduceLT, Nat.reduceLT, Nat.reduceLeDiff, false_imp_iff, true_imp_iff]
      exact h0
    · simp only [push_cast, ↓branch_true, ↓branch_false, Nat.reduceBEq, Nat.reduceAdd, Nat.reduceMul, Nat.reduceSub, Int.reduceToNat, reduceCtorEq, branch_decide, branch_not, branch_beq, branch_bne, Int.reduceAdd, Int.reduceEq, Int.reduceLE, Int.reduceLT, Nat.reduceLT, Nat.reduceLeDiff, false_imp_iff, true_imp_iff]
      omega
  | false =>
    simp only [push_cast, ↓branch_true, ↓branch_false, Nat.reduceBEq, Nat.reduceAdd, Nat.reduceMul, Nat.reduceSub, Int.reduceToNat, reduceCtorEq, branch_decide, branch_not, branch_beq, branch_bne, Int.reduceAdd, Int.reduceEq, Int.reduceLE, Int.reduceLT, Nat.reduceLT, Nat.reduceLeDiff, false_imp_iff, true_imp_iff]
    repeat (with_reducible refine And.intro (by omega) ?_)
    refine ⟨?_, appZ_of (fun h => ?_) fun _ => .inl ⟨by omega, by omega, fun cap hcap => ?_⟩⟩
    · exact src_ints _ _
    · refine ⟨_, _, [0, 1], ?_, by kernel_rfl, ?_, 0, by omega, rfl, rfl⟩
      · simp only [push_cast, ↓branch_true, ↓branch_false, Nat.reduceBEq, Nat.reduceAdd, Nat.reduceMul, Nat.reduceSub, Int.reduceToNat, reduceCtorEq, branch_decide, branch_not, branch_beq, branch_bne, Int.reduceAdd, Int.reduceEq, Int.reduceLE, Int.reduceLT, Nat.reduceLT, Nat.reduceLeDiff, false_imp_iff, true_imp_iff]
        exact h
      · simp only [push_cast, ↓branch_true, ↓branch_false, Nat.reduceBEq, Nat.reduceAdd, Nat.reduceMul, Nat.reduceSub, Int.reduceToNat, reduceCtorEq, branch_decide, branch_not, branch_beq, branch_bne, Int.reduceAdd, Int.reduceEq, Int.reduceLE, Int.reduceLT, Nat.reduceLT, Nat.reduceLeDiff, false_imp_iff, true_imp_iff, hnn]
        exact fun _ _ => ⟨by omega, fun k hk => by omega⟩
    · refine ⟨_, _, [0, 2], ?_, by kernel_rfl, ?_, cap, hcap, rfl, rfl⟩
      · simp only [push_cast, ↓branch_true, ↓branch_false, Nat.reduceBEq, Nat.reduceAdd, Nat.reduceMul, Nat.reduceSub, Int.reduceToNat, reduceCtorEq, branch_decide, branch_not, branch_beq, branch_bne, Int.reduceAdd, Int.reduceEq, Int.reduceLE, Int.reduceLT, Nat.reduceLT, Nat.reduceLeDiff, false_imp_iff, true_imp_iff]
      · simp only [push_cast, ↓branch_true, ↓branch_false, Nat.reduceBEq, Nat.reduceAdd, Nat.reduceMul, Nat.reduceSub, Int.reduceToNat, reduceCtorEq, branch_decide, branch_not, branch_beq, branch_bne, Int.reduceAdd, Int.reduceEq, Int.reduceLE, Int.reduceLT, Nat.reduceLT, Nat.reduceLeDiff, false_imp_iff, true_imp_iff, hnn]
/-- A slice that is handed over is no longer than its capacity. -/
theorem sp_len {P : Program} {f : FuncId} {j i o n c sz : Nat} {args : List SV} {H : List Ob} {K : SV → List Ob → Prop} {a0 : List SV} {H0 : List Ob} {K0 : SV → List Ob → Prop} (h0 : Sp P f a0 H0 K0) (h : n ≤ c → Sp P f (.s j i o n c sz :: args) H K) : Sp P f (.s j i o n c sz :: args) H K := by
  refine ⟨h0.1, fun β w vals hI ha => ?_⟩
  have hnc : n ≤ c := by
    obtain ⟨u, us, _, hu, _⟩ := ha
    simp only [Ok] at hu
    obtain ⟨A, _, hle, _⟩ := hu
    exact hle
  exact (h hnc).2 β w vals hI ha
theorem cloneM2_sp (N a c : Nat) (near : Nat → List Int) (ha : a < N) (hl : (near a).length ≤ 1000000) : Sp Try.prog 66 [.s 0 a 0 (near a).length c 1] [oNf N near] (fun r H => ∃ cap, (near a).length ≤ cap ∧ r = .s 1 0 0 (near a).length cap 1 ∧ H = [oNf N near, rIO (near a) cap]) :=
  sp_len (cloneM_sp 1 0 0 (fun _ => []) (by decide) (by decide) (by decide)) fun hc => cloneM_sp N a c near ha hl hc
theorem ok_at {β β' : Bs} {j j' i i' o len cap sz : Nat} {u : Value} (hb : β' j' i' = β j i) (h : Ok β (.s j i o len cap sz) u) : Ok β' (.s j' i' o len cap sz) u := by
  simp only [Ok] at h ⊢
  rw [hb]
  exact h
theorem wk_size {H : List Ob} {N n1 n2 J j1 j2 c c1 c2 l1 o1' l2 : Nat} {near : Nat → List Int} {cp : Nat → Nat} {ty t1 t2 : Nat} {ro : Bool} {len cap : Nat → Nat} {f : Nat → Nat → List SV} {o1 o2 : Ob} {g1 g2 : Nat → Value}
    (hJ : H[J]? = some ⟨ty, ro, .row 1 1 len cap f⟩) (hl : N ≤ len 0) (he : ∀ k, k < N → ∃ x, f 0 k = [x] ∧ Ld H x (near k) (cp k)) (h1 : H[j1]? = some o1) (r1 : Rw o1 n1 g1) (h2 : H[j2]? = some o2) (r2 : Rw o2 n2 g2) :
    Wk (α := List Value) 0 (fun β u => OkL β [.s J 0 0 N c 1, .s j1 0 o1' l1 c1 1, .s j2 0 0 l2 c2 1] u) (fun β u => OkL β [.s 0 0 0 N c 1, .s 2 0 o1' l1 c1 1, .s 3 0 0 l2 c2 1] u) H
      [oNe 1 N near cp, oNf N near, ⟨t1, true, .row 1 1 (fun _ => n1) (fun _ => 0) (fun _ k => [.v (g1 k)])⟩, ⟨t2, true, .row 1 1 (fun _ => n2) (fun _ => 0) (fun _ k => [.v (g2 k)])⟩] := by
  intro β w hI _
  obtain ⟨β', hI', b0, b2, b3, hm⟩ := near_view (t1 := t1) (t2 := t2) hI hJ hl he h1 r1 h2 r2
  refine ⟨β', hI', fun u hu => ?_, fun j i x hj => absurd hj (Nat.not_lt_zero _), fun g hg => ?_, hm, Nat.zero_le _⟩
  · obtain ⟨v0, us0, e0, k0, v1, us1, e1, k1, v2, us2, e2, k2, e3⟩ := hu
    exact ⟨v0, us0, e0, ok_at b0 k0, v1, us1, e1, ok_at b2 k1, v2, us2, e2, ok_at b3 k2, e3⟩
  · obtain ⟨j, i, o, b, ho, hown, _⟩ := hg
    exact absurd hown (roB_own rfl j o i ho)
theorem near_del (l : List Ed) (M i j : Nat) : keepT (fun x => decide (x = (j : Int))) (nbr l M i) (nbr l M i).length = nearT (delE (tab l) i j) M i := by
  unfold keepT nbr nearT
  rw [List.take_length, List.filter_map, List.filter_filter]
  congr 1
  refine List.filter_congr fun a _ => ?_
  unfold delE
  rw [Bool.and_comm]
  congr 1
  simp only [Function.comp, beq_self_eq_true, Bool.true_and]
  congr 1
  rw [Bool.eq_iff_iff, decide_eq_true_eq, beq_iff_eq]
  exact ⟨fun h => Int.ofNat.inj h, fun h => by rw [h]; rfl⟩
theorem near_oth {l : List Ed} {M i j k : Nat} (h : k ≠ i) : nearT (delE (tab l) i j) M k = nbr l M k := by
  unfold nbr nearT
  congr 1
  refine List.filter_congr fun a _ => ?_
  unfold delE
  have : (k == i) = false := by simpa using h
  rw [this]
  simp
/-- The forced edges among so many neighbours. -/
def prR (l : List Ed) (N M i q : Nat) : List Ed := (((nbr l M i).take q).filter fun x => frc N M (tab l) i x.toNat).map fun x => ⟨(i : Int), x⟩
theorem prR_yes {l : List Ed} {N M i q : Nat} (hq : q < (nbr l M i).length) (h : frc N M (tab l) i (ix (nbr l M i) q).toNat = true) : prR l N M i (q + 1) = prR l N M i q ++ [⟨(i : Int), ix (nbr l M i) q⟩] := by
  unfold prR
  rw [take_snoc hq, List.filter_append, List.map_append]
  simp [h]
theorem prR_no {l : List Ed} {N M i q : Nat} (hq : q < (nbr l M i).length) (h : frc N M (tab l) i (ix (nbr l M i) q).toNat = false) : prR l N M i (q + 1) = prR l N M i q := by
  unfold prR
  rw [take_snoc hq, List.filter_append, List.map_append]
  simp [h]
theorem prR_zero (l : List Ed) (N M i : Nat) : prR l N M i 0 = [] := rfl
theorem prR_all (l : List Ed) (N M i : Nat) : prR l N M i (nbr l M i).length = frRow N M (tab l) i M := by
  unfold prR frRow
  rw [List.take_length]
  unfold nbr nearT
  rw [List.filter_map, List.map_map, List.filter_filter]
  have e : List.filter (fun a => ((fun x : Int => frc N M (tab l) i x.toNat) ∘ Int.ofNat) a && tab l i a) (List.range M) = List.filter (frc N M (tab l) i) (List.range M) := by
    refine List.filter_congr fun a _ => ?_
    simp only [Function.comp]
    unfold frc
    cases hE : tab l i a <;> simp [hE]
  rw [e]
  rfl
theorem prR_len (l : List Ed) (N M i q : Nat) : (prR l N M i q).length ≤ (nbr l M i).length := by
  unfold prR
  rw [List.length_map]
  refine Nat.le_trans (List.length_filter_le _ _) ?_
  simp
  omega
theorem nbr_le (l : List Ed) (M i : Nat) : (nbr l M i).length ≤ M := by
  unfold nbr nearT
  rw [List.length_map]
  refine Nat.le_trans (List.length_filter_le _ _) ?_
  simp
end Go.Proofs.Ytmmabnoemckdiaa
