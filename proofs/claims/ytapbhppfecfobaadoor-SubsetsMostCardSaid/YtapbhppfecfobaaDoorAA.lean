/- Contracts: Check, of the reference; the lists' small functions. -/
import Derived.Test.YtapbhppfecfobaaDoorZ
set_option maxRecDepth 100000
set_option linter.unusedSimpArgs false
set_option linter.unusedVariables false
namespace Go.Proofs.YtapbhppfecfobaaDoor
open Go.RowKit
def rBo (n cap : Nat) (f : Nat → Bool) : Ob := ⟨4, false, .row 1 1 (fun _ => n) (fun _ => cap) (fun _ k => [.v (.bool (f k))])⟩
attribute [push_cast] rBo
def Marks (f : Nat → Bool) (S : List Int) : Prop := ∀ x : Nat, f x = true ↔ (x : Int) ∈ S
theorem pre_len1 (parts : List (List Int)) (i k : Nat) (hk : k ≤ (ix parts i).length) : (Pre parts i k).length = (Pre parts i 0).length + k := by
  simp [Pre]; omega
theorem pre_len {parts : List (List Int)} (hpp : ∀ i, i < parts.length → (ix parts i).length ≤ 1000) : ∀ i, i ≤ parts.length → (Pre parts i 0).length ≤ 1000 * i
  | 0, _ => by rw [pre_0]; simp
  | i + 1, hi => by
    have h := pre_len hpp i (by omega)
    have h2 := hpp i (by omega)
    rw [pre_next (by omega), pre_len1 parts i _ (Nat.le_refl _)]
    omega
theorem marks_snoc {f : Nat → Bool} {n : Nat} {S : List Int} (h : Marks f S) : Marks (fun q => f q || decide (q = n)) (S ++ [(n : Int)]) := fun y => by
  rw [Bool.or_eq_true, decide_eq_true_eq, h y, List.mem_append, List.mem_singleton]
  exact ⟨fun h => h.elim .inl fun h => .inr (by omega), fun h => h.elim .inl fun h => .inr (by omega)⟩
theorem head_ne {l : List Int} {parts : List (List Int)} {i : Nat} (h : OkC l parts i (ix parts i).length) (h0 : 0 < i) (hi : i < parts.length) (hp : 0 < (ix parts i).length) (hq : ix parts (i - 1) ≠ []) : ix (ix parts (i - 1)) 0 ≠ ix (ix parts i) 0 := by
  have hn := h.nd
  unfold Pre at hn
  rw [List.take_length] at hn
  refine (List.nodup_append.1 hn).2.2 _ (List.mem_flatten.2 ⟨ix parts (i - 1), ?_, ix_mem (List.length_pos_iff.2 hq)⟩) _ (ix_mem hp)
  rw [ix_eq (show i - 1 < parts.length by omega)]
  refine List.mem_iff_getElem.2 ⟨i - 1, by rw [List.length_take]; omega, ?_⟩
  rw [List.getElem_take]
theorem mark_set {f : Nat → Bool} {n i1 k : Nat} {rl : List Nat} (hi : i1 < 1) : Value.bool (f k || decide (k = n)) = Value.bool (bif i1 == 0 && k == n then true else f k) ∧ mtL rl [] (bif i1 == 0 && k == n then [] else []) := by
  obtain rfl : i1 = 0 := by omega
  by_cases e : k = n
  · subst e
    have hb : (k == k) = true := by simp
    rw [hb]
    exact ⟨by simp, trivial⟩
  · have hb : (k == n) = false := by simpa using e
    rw [hb]
    exact ⟨by simp [e], trivial⟩
set_option maxHeartbeats 2000000 in
theorem rcheck_pu (l : List Int) (parts : List (List Int)) (c c2 N : Nat) (cp : Nat → Nat) (hg : givE l = 0) (hN : parts.length ≤ N) (hpl : parts.length ≤ 1000000) (hpp : ∀ i, i < parts.length → (ix parts i).length ≤ 1000) :
    Pu Tryd.prog 30 [.s 0 0 0 l.length c 1, .s 1 0 0 parts.length c2 1] [rR l, rOut 2 parts cp, rFa N parts] (.v (.bool (chkD l parts))) := by
  obtain ⟨h1, h2⟩ := given_0 hg
  refine pu_of_ex true [] mixed Tryd.call30 Tryd.func30 rfl Tryd.ntmps30 Tryd.results30 (by decide +kernel) rfl rfl rfl ?_
  simp only [push_cast, ↓branch_true, ↓branch_false, Nat.reduceBEq, Nat.reduceAdd, Nat.reduceMul, Nat.reduceSub, Int.reduceToNat, reduceCtorEq, branch_decide, branch_not, branch_beq, branch_bne]
  repeat (with_reducible refine And.intro (by omega) ?_)
  refine tr_loop mixed (by kernel_rfl) (fun (y : Nat × (Nat → Bool)) => [(7, .v (.int .i64 y.1)), (6, .v (.int .i64 (Pre parts y.1 0).length)), (5, .s 3 0 0 l.length l.length 1), (0, .s 0 0 0 l.length c 1), (1, .s 1 0 0 parts.length c2 1)])
    (fun y => [rR l, rOut 2 parts cp, rFa N parts, rBo l.length l.length y.2])
    (fun y => y.1 ≤ parts.length ∧ OkC l parts y.1 0 ∧ Marks y.2 (Pre parts y.1 0)) (fun y => parts.length - y.1) (0, fun _ => false) ⟨Nat.zero_le _, okC_0 l parts, by rw [pre_0]; intro x; simp⟩ (Mt.wk (rl := [0, 1, 2, 3]) ⟨by kernel_rfl, ?_, ?_⟩) ?_
  · simp only [push_cast, ↓branch_true, ↓branch_false, Nat.reduceBEq, Nat.reduceAdd, Nat.reduceMul, Nat.reduceSub, Int.reduceToNat, reduceCtorEq, branch_decide, branch_not, branch_beq, branch_bne]
    rw [pre_0]; rfl
  · simp only [push_cast, ↓branch_true, ↓branch_false, Nat.reduceBEq, Nat.reduceAdd, Nat.reduceMul, Nat.reduceSub, Int.reduceToNat, reduceCtorEq, branch_decide, branch_not, branch_beq, branch_bne]
  rintro ⟨i, f⟩ ⟨g1, g2, g3⟩
  simp only at g1 g2 g3
  simp only [push_cast, ↓branch_true, ↓branch_false, Nat.reduceBEq, Nat.reduceAdd, Nat.reduceMul, Nat.reduceSub, Int.reduceToNat, reduceCtorEq, branch_decide, branch_not, branch_beq, branch_bne]
  refine ⟨fun h => ?_, fun h => ?_⟩
  rotate_left
  · obtain rfl : i = parts.length := by omega
    rw [pre_end]
    by_cases h3 : parts.flatten.length = l.length
    · rw [chkD_yes ⟨g2, h3⟩, h3]
      simp
    · have e : ((parts.flatten.length : Int) == (l.length : Int)) = false := by
        rw [beq_eq_false_iff_ne]; omega
      rw [chkD_no fun h => h3 h.2, e]
  have hi : i < parts.length := by omega
  have hpi := hpp i hi
  repeat (with_reducible refine And.intro (by omega) ?_)
  refine ⟨fun h3 => ?_, fun h3 => ?_⟩
  · rw [chkD_no]
    rintro ⟨q, _⟩
    exact (q.part i hi).1 (List.eq_nil_of_length_eq_zero (by omega))
  have hp0 : 0 < (ix parts i).length := by omega
  have hne : ix parts i ≠ [] := fun e => by rw [e] at hp0; simp at hp0
  refine tr_loop mixed (by kernel_rfl) (fun (z : Nat × (Nat → Bool)) => [(9, .v (.int .i64 z.1)), (8, .v (.int .i64 (sumP l ((ix parts i).take z.1)))), (6, .v (.int .i64 (Pre parts i z.1).length)), (7, .v (.int .i64 i)), (5, .s 3 0 0 l.length l.length 1), (0, .s 0 0 0 l.length c 1), (1, .s 1 0 0 parts.length c2 1)])
    (fun z => [rR l, rOut 2 parts cp, rFa N parts, rBo l.length l.length z.2])
    (fun z => z.1 ≤ (ix parts i).length ∧ OkC l parts i z.1 ∧ Marks z.2 (Pre parts i z.1)) (fun z => (ix parts i).length - z.1) (0, f) ⟨Nat.zero_le _, g2, g3⟩ (Mt.wk (rl := [0, 1, 2, 3]) ⟨by kernel_rfl, ?_, ?_⟩) ?_
  · simp only [push_cast, ↓branch_true, ↓branch_false, Nat.reduceBEq, Nat.reduceAdd, Nat.reduceMul, Nat.reduceSub, Int.reduceToNat, reduceCtorEq, branch_decide, branch_not, branch_beq, branch_bne]
    try rfl
  · simp only [push_cast, ↓branch_true, ↓branch_false, Nat.reduceBEq, Nat.reduceAdd, Nat.reduceMul, Nat.reduceSub, Int.reduceToNat, reduceCtorEq, branch_decide, branch_not, branch_beq, branch_bne]
  rintro ⟨k, fk⟩ ⟨k1, k2, k3⟩
  simp only at k1 k2 k3
  have hsr := sumP_range h2 ((ix parts i).take k)
  have htl : ((ix parts i).take k).length ≤ 1000 := by rw [List.length_take]; omega
  simp only [push_cast, ↓branch_true, ↓branch_false, Nat.reduceBEq, Nat.reduceAdd, Nat.reduceMul, Nat.reduceSub, Int.reduceToNat, reduceCtorEq, branch_decide, branch_not, branch_beq, branch_bne]
  have hpl0 := pre_len hpp i g1
  have hpl1 := pre_len1 parts i k k1
  refine ⟨by omega, by omega, by omega, hi, fun h5 => ?_, fun h5 => ?_⟩
  · have hk : k < (ix parts i).length := by omega
    have hps := pre_succ hk
    have hss := sumP_succ (l := l) hk
    have hat : chkB l parts → _ := fun h => okC_at h.1 hi hk
    have hpm : 0 < k → ix (ix parts i) (k - 1) ∈ Pre parts i k := fun h => by
      rw [show k = (k - 1) + 1 by omega, pre_succ (show k - 1 < (ix parts i).length by omega)]; simp
    have hpl2 := congrArg List.length hps
    rw [List.length_append, List.length_singleton] at hpl2
    generalize hxe : ix (ix parts i) k = x at *
    repeat (with_reducible refine And.intro (by omega) ?_)
    refine ⟨fun h6 => ?_, fun h6 => ⟨fun h7 => ?_, fun h7 => ?_⟩⟩
    · rw [chkD_no fun h => ?_]
      have := (hat h).1.1
      omega
    · rw [chkD_no fun h => ?_]
      have := (hat h).1.2
      omega
    obtain ⟨n, rfl⟩ : ∃ n : Nat, x = (n : Int) := ⟨x.toNat, by omega⟩
    have hn : n < 16 := by omega
    have hir := ix_range h2 n
    rw [Int.toNat_natCast] at hss ⊢
    repeat (with_reducible refine And.intro (by omega) ?_)
    cases h8 : fk n with
    | true =>
      rw [chkD_no fun h => (hat h).2.1 ((k3 n).1 h8)]
      simp only [push_cast, ↓branch_true, ↓branch_false, Nat.reduceBEq, Nat.reduceAdd, Nat.reduceMul, Nat.reduceSub, Int.reduceToNat, reduceCtorEq, branch_decide, branch_not, branch_beq, branch_bne]
    | false =>
      have hnm : (n : Int) ∉ Pre parts i k := fun h => by have := (k3 n).2 h; rw [h8] at this; cases this
      have hM := marks_snoc (n := n) k3
      rw [← hps] at hM
      simp only [push_cast, ↓branch_true, ↓branch_false, Nat.reduceBEq, Nat.reduceAdd, Nat.reduceMul, Nat.reduceSub, Int.reduceToNat, reduceCtorEq, branch_decide, branch_not, branch_beq, branch_bne]
      refine ⟨fun h9 => ?_, fun h9 => ?_⟩
      · have e6 : ((k : Int) - 1).toNat = k - 1 := by omega
        rw [e6]
        repeat (with_reducible refine And.intro (by omega) ?_)
        refine ⟨fun h10 => ?_, fun h10 => ?_⟩
        · rw [chkD_no fun h => ?_]
          have := (hat h).2.2 (by omega)
          omega
        have hlt : ix (ix parts i) (k - 1) < (n : Int) := by
          rcases Int.lt_trichotomy (ix (ix parts i) (k - 1)) n with e | e | e
          · exact e
          · exact absurd (e ▸ hpm (by omega)) hnm
          · omega
        have hOk := okC_step k2 hk (by rw [hxe]; omega) (by rw [hxe]; exact hnm) (by rw [hxe]; exact fun _ => hlt)
        repeat (with_reducible refine And.intro (by omega) ?_)
        refine lpK_normal (k + 1, fun q => fk q || decide (q = n)) [0, 1, 2, 3] ⟨hk, hOk, hM⟩ (show (ix parts i).length - (k + 1) < (ix parts i).length - k by omega) (by kernel_rfl) ?_ ?_
        · simp only [push_cast, ↓branch_true, ↓branch_false, Nat.reduceBEq, Nat.reduceAdd, Nat.reduceMul, Nat.reduceSub, Int.reduceToNat, reduceCtorEq, branch_decide, branch_not, branch_beq, branch_bne, hss, hpl2]
        · simp only [push_cast, ↓branch_true, ↓branch_false, Nat.reduceBEq, Nat.reduceAdd, Nat.reduceMul, Nat.reduceSub, Int.reduceToNat, reduceCtorEq, branch_decide, branch_not, branch_beq, branch_bne]
          exact fun _ h _ _ => mark_set h
      · have hOk := okC_step k2 hk (by rw [hxe]; omega) (by rw [hxe]; exact hnm) (fun h => absurd h (by omega))
        repeat (with_reducible refine And.intro (by omega) ?_)
        refine lpK_normal (k + 1, fun q => fk q || decide (q = n)) [0, 1, 2, 3] ⟨hk, hOk, hM⟩ (show (ix parts i).length - (k + 1) < (ix parts i).length - k by omega) (by kernel_rfl) ?_ ?_
        · simp only [push_cast, ↓branch_true, ↓branch_false, Nat.reduceBEq, Nat.reduceAdd, Nat.reduceMul, Nat.reduceSub, Int.reduceToNat, reduceCtorEq, branch_decide, branch_not, branch_beq, branch_bne, hss, hpl2]
        · simp only [push_cast, ↓branch_true, ↓branch_false, Nat.reduceBEq, Nat.reduceAdd, Nat.reduceMul, Nat.reduceSub, Int.reduceToNat, reduceCtorEq, branch_decide, branch_not, branch_beq, branch_bne]
          exact fun _ h _ _ => mark_set h
  · obtain rfl : k = (ix parts i).length := by omega
    rw [List.take_length] at hsr ⊢
    have hpn := pre_next hi
    have hln := congrArg List.length hpn
    refine ⟨fun h6 => ?_, fun h6 => ?_⟩
    rotate_right
    · rw [chkD_no]
      rintro ⟨q, _⟩
      exact h6 (q.part i hi).2
    refine ⟨fun h7 => ?_, fun h7 => ?_⟩
    · have e6 : ((i : Int) - 1).toNat = i - 1 := by omega
      have hq := (k2.part (i - 1) (by omega)).1
      have hq0 : 0 < (ix parts (i - 1)).length := List.length_pos_iff.2 hq
      have hne2 := head_ne k2 (by omega) hi hp0 hq
      rw [e6]
      repeat (with_reducible refine And.intro (by omega) ?_)
      refine ⟨fun h8 => ?_, fun h8 => ?_⟩
      · rw [chkD_no]
        rintro ⟨q, _⟩
        have := q.head i (by omega) hi
        omega
      repeat (with_reducible refine And.intro (by omega) ?_)
      refine lpK_normal (i + 1, fk) [0, 1, 2, 3] ⟨hi, okC_next hi k2 hne h6 (fun _ => by omega), by simp only [hpn]; exact k3⟩ (show parts.length - (i + 1) < parts.length - i by omega) (by kernel_rfl) ?_ ?_
      · simp only [push_cast, ↓branch_true, ↓branch_false, Nat.reduceBEq, Nat.reduceAdd, Nat.reduceMul, Nat.reduceSub, Int.reduceToNat, reduceCtorEq, branch_decide, branch_not, branch_beq, branch_bne, hln]
      · simp only [push_cast, ↓branch_true, ↓branch_false, Nat.reduceBEq, Nat.reduceAdd, Nat.reduceMul, Nat.reduceSub, Int.reduceToNat, reduceCtorEq, branch_decide, branch_not, branch_beq, branch_bne]
    · repeat (with_reducible refine And.intro (by omega) ?_)
      refine lpK_normal (i + 1, fk) [0, 1, 2, 3] ⟨hi, okC_next hi k2 hne h6 (fun h => absurd h (by omega)), by simp only [hpn]; exact k3⟩ (show parts.length - (i + 1) < parts.length - i by omega) (by kernel_rfl) ?_ ?_
      · simp only [push_cast, ↓branch_true, ↓branch_false, Nat.reduceBEq, Nat.reduceAdd, Nat.reduceMul, Nat.reduceSub, Int.reduceToNat, reduceCtorEq, branch_decide, branch_not, branch_beq, branch_bne, hln]
      · simp only [push_cast, ↓branch_true, ↓branch_false, Nat.reduceBEq, Nat.reduceAdd, Nat.reduceMul, Nat.reduceSub, Int.reduceToNat, reduceCtorEq, branch_decide, branch_not, branch_beq, branch_bne]
theorem indexL_pu (loads : List (List Int)) (lc N : Nat) (cp : Nat → Nat) (g : FuncId) (fs cs : List SV) (H : List Ob) (p : List Int → Bool) (hro : roB H = true) (hl : loads.length ≤ 9223372036854775807)
    (hp : ∀ k, k < loads.length → Pu Tryd.prog g (fs ++ [.s 1 k 0 (ix loads k).length (cp k) 1] ++ cs) (rOut 1 loads cp :: rFa N loads :: H) (.v (.bool (p (ix loads k))))) : Pu Tryd.prog 50 [.s 0 0 0 loads.length lc 1, .f (.func g) fs cs] (rOut 1 loads cp :: rFa N loads :: H) (.v (.int .i64 (idxB p loads 0))) := by
  refine pu_of_ex true [] mixed Tryd.call50 Tryd.func50 rfl Tryd.ntmps50 Tryd.results50 (by decide +kernel) rfl (by simp [roB, hro, rOut, rFa]) rfl ?_
  simp only [push_cast, ↓branch_true, ↓branch_false, Nat.reduceBEq, Nat.reduceAdd, Nat.reduceMul, Nat.reduceSub, Int.reduceToNat, reduceCtorEq, branch_decide, branch_not, branch_beq, branch_bne]
  refine tr_loop0 mixed (by kernel_rfl) (fun (k : Nat) => [(8, .v (.int .i64 k)), (7, .v (.int .i64 loads.length)), (0, .s 0 0 0 loads.length lc 1), (1, .f (.func g) fs cs)]) (fun k => k ≤ loads.length ∧ ∀ j, j < k → p (ix loads j) = false) (fun k => loads.length - k) 0 ⟨Nat.zero_le _, fun j h => by omega⟩ ?_ ?_
  · simp only [push_cast, ↓branch_true, ↓branch_false, Nat.reduceBEq, Nat.reduceAdd, Nat.reduceMul, Nat.reduceSub, Int.reduceToNat, reduceCtorEq, branch_decide, branch_not, branch_beq, branch_bne]
  · rintro k ⟨hk, hn⟩
    simp only [push_cast, ↓branch_true, ↓branch_false, Nat.reduceBEq, Nat.reduceAdd, Nat.reduceMul, Nat.reduceSub, Int.reduceToNat, reduceCtorEq, branch_decide, branch_not, branch_beq, branch_bne]
    refine ⟨fun h1 => ?_, fun h1 => ?_⟩
    · repeat (with_reducible refine And.intro (by omega) ?_)
      have hp1 := hp k (by omega)
      refine sp_pu (by simpa only [push_cast] using hp1) ?_
      simp only [push_cast, ↓branch_true, ↓branch_false, Nat.reduceBEq, Nat.reduceAdd, Nat.reduceMul, Nat.reduceSub, Int.reduceToNat, reduceCtorEq, branch_decide, branch_not, branch_beq, branch_bne]
      simp only [branch]
      refine ⟨fun h2 => ?_, fun h2 => ?_⟩
      · rw [idxB_at p loads 0 k (by omega) hn h2]; simp
      · repeat (with_reducible refine And.intro (by omega) ?_)
        refine lp0_normal (k + 1) ⟨by omega, fun j hj => ?_⟩ (by omega) ?_
        · by_cases e : j = k
          · rw [e]; exact h2
          · exact hn j (by omega)
        · simp only [push_cast, ↓branch_true, ↓branch_false, Nat.reduceBEq, Nat.reduceAdd, Nat.reduceMul, Nat.reduceSub, Int.reduceToNat, reduceCtorEq, branch_decide, branch_not, branch_beq, branch_bne]
    · rw [idxB_none p loads 0 fun j hj => hn j (by omega)]
theorem containsL_pu (loads : List (List Int)) (lc N : Nat) (cp : Nat → Nat) (g : FuncId) (fs cs : List SV) (H : List Ob) (p : List Int → Bool) (hro : roB H = true) (hl : loads.length ≤ 9223372036854775807)
    (hp : ∀ k, k < loads.length → Pu Tryd.prog g (fs ++ [.s 1 k 0 (ix loads k).length (cp k) 1] ++ cs) (rOut 1 loads cp :: rFa N loads :: H) (.v (.bool (p (ix loads k))))) : Pu Tryd.prog 26 [.s 0 0 0 loads.length lc 1, .f (.func g) fs cs] (rOut 1 loads cp :: rFa N loads :: H) (.v (.bool (loads.any p))) := by
  refine pu_of_ex true [] mixed Tryd.call26 Tryd.func26 rfl Tryd.ntmps26 Tryd.results26 (by decide +kernel) rfl (by simp [roB, hro, rOut, rFa]) rfl ?_
  simp only [push_cast, ↓branch_true, ↓branch_false, Nat.reduceBEq, Nat.reduceAdd, Nat.reduceMul, Nat.reduceSub, Int.reduceToNat, reduceCtorEq, branch_decide, branch_not, branch_beq, branch_bne]
  refine sp_pu (indexL_pu loads lc N cp g fs cs H p hro hl hp) ?_
  simp only [push_cast, ↓branch_true, ↓branch_false, Nat.reduceBEq, Nat.reduceAdd, Nat.reduceMul, Nat.reduceSub, Int.reduceToNat, reduceCtorEq, branch_decide, branch_not, branch_beq, branch_bne]
  rw [idxB_any p loads 0 (Int.le_refl 0)]
def longB (x : List Int) : Bool := decide (20 < x.length)
theorem long1_pu (loads : List (List Int)) (N k : Nat) (cp : Nat → Nat) : Pu Tryd.prog 27 [.s 1 k 0 (ix loads k).length (cp k) 1] [rOut 1 loads cp, rFa N loads] (.v (.bool (longB (ix loads k)))) := by
  refine pu_of_ex true [] mixed Tryd.call27 Tryd.func27 rfl Tryd.ntmps27 Tryd.results27 (by decide +kernel) rfl rfl rfl ?_
  simp only [push_cast, ↓branch_true, ↓branch_false, Nat.reduceBEq, Nat.reduceAdd, Nat.reduceMul, Nat.reduceSub, Int.reduceToNat, reduceCtorEq, branch_decide, branch_not, branch_beq, branch_bne]
  have e : decide ((20 : Int) < ((ix loads k).length : Int)) = decide (20 < (ix loads k).length) := by rw [decide_eq_decide]; omega
  rw [e]; rfl
end Go.Proofs.YtapbhppfecfobaaDoor
