/- Contracts: the reference's Fullest and Few; equality of best patterns. -/
import Derived.Test.YthnpnoclhmneoaaU
set_option maxRecDepth 100000
set_option linter.unusedSimpArgs false
set_option linter.unusedVariables false
namespace Go.Proofs.Ythnpnoclhmneoaa
open Go.RowKit
theorem fold_bound {B : Int} {pr : List Int} : ∀ {E : List (List Int)} {s : Bst}, (∀ q ∈ E, 0 ≤ priceL q pr ∧ priceL q pr ≤ B) → -1 ≤ s.2 → s.2 ≤ B → -1 ≤ (E.foldl (pickB [] 0 pr) s).2 ∧ (E.foldl (pickB [] 0 pr) s).2 ≤ B
  | [], s, _, h1, h2 => ⟨h1, h2⟩
  | q :: E, s, h, h1, h2 => by
    have hq := h q (List.mem_cons_self ..)
    rw [List.foldl_cons]
    refine fold_bound (fun x hx => h x (List.mem_cons_of_mem _ hx)) ?_ ?_ <;> unfold pickB <;> split <;> (try simp only) <;> omega
theorem bestE_0 {length : Int} {l : List Pc} {pr : List Int} (h : bestE length l pr = 0) : givenE length l pr.length = 0 ∧ (∀ x ∈ pr, 0 ≤ x ∧ x ≤ 1073741824) ∧ l.length ≤ 10 := by
  unfold bestE at h
  split at h
  · omega
  · split at h
    · omega
    · rename_i h1 h2
      split at h
      · omega
      · refine ⟨by omega, fun x hx => ?_, by omega⟩
        have := (List.any_eq_false.1 (by simpa using h2)) x hx
        simp only [badP, Bool.or_eq_true, decide_eq_true_eq] at this
        omega
theorem bestS_bound {length : Int} {l : List Pc} {pr : List Int} (h : bestE length l pr = 0) : -1 ≤ (bestS length l pr).2 ∧ (bestS length l pr).2 ≤ 11258999068426240 := by
  obtain ⟨h1, h2, h3⟩ := bestE_0 h
  obtain ⟨g1, g2, g3, g4⟩ := given_0 h1
  rw [bestS_fold g1 (by omega) (by omega) (fun x hx => (h2 x hx).1) h]
  refine fold_bound (fun q hq => ?_) (by simp) (by simp)
  obtain ⟨f1, f2, f3⟩ := (mem_eachG (posL_of g1) (by omega)).1 hq
  have := priceL_bound (inB_vals g1 f2 f1) h2
  omega
theorem rFullest_sp (length : Int) (l : List Pc) (c : Nat) (hl : l.length * 16 ≤ 140737488355328) (hn : givenE length l l.length = 0 → l.length ≤ 10 → (eachG l length).length ≤ 1000000) : Sp Try.prog 18 [.v (.int .i64 length), .s 0 0 0 l.length c 2] [rPc l]
    (fun r H => ∃ nb bi bl bc caps bf, r = .t [.s 1 bi 0 bl bc 1, .v (.int .i64 (fullW length l)), .v (.int .i64 (bestE length l (lensF l)))] ∧ BstOk l.length nb bi bl bc caps bf (bestS length l (lensF l)) ∧ H = [rPc l, rFam l.length nb bf]) := by
  refine sp_wk ?_
  refine sp_of_ex true [] mixed Try.call18 Try.func18 rfl Try.ntmps18 Try.results18 (by decide +kernel) rfl ?_
  simp only [push_cast, ↓branch_true, ↓branch_false, Nat.reduceBEq, Nat.reduceAdd, Nat.reduceMul, Nat.reduceSub, Int.reduceToNat, reduceCtorEq, branch_decide, branch_not, branch_beq, branch_bne]
  refine tr_loop mixed (by kernel_rfl) (fun (x : Nat × Nat) => [(8, .v (.int .i64 x.1)), (7, .s 1 0 0 x.1 x.2 1), (0, .v (.int .i64 length)), (1, .s 0 0 0 l.length c 2)])
    (fun x => [rPc l, rOwn 3 x.1 x.2 (fun k => (ix l k).len)]) (fun x => x.1 ≤ l.length) (fun x => l.length - x.1) (0, 0) (Nat.zero_le _) (Mt.wk (rl := [0, 1]) ⟨by kernel_rfl, ?_, ?_⟩) ?_
  · simp only [push_cast, ↓branch_true, ↓branch_false, Nat.reduceBEq, Nat.reduceAdd, Nat.reduceMul, Nat.reduceSub, Int.reduceToNat, reduceCtorEq, branch_decide, branch_not, branch_beq, branch_bne]
  · simp only [push_cast, ↓branch_true, ↓branch_false, Nat.reduceBEq, Nat.reduceAdd, Nat.reduceMul, Nat.reduceSub, Int.reduceToNat, reduceCtorEq, branch_decide, branch_not, branch_beq, branch_bne]
  rintro ⟨k, oc⟩ hk
  simp only at hk
  simp only [push_cast, ↓branch_true, ↓branch_false, Nat.reduceBEq, Nat.reduceAdd, Nat.reduceMul, Nat.reduceSub, Int.reduceToNat, reduceCtorEq, branch_decide, branch_not, branch_beq, branch_bne]
  refine ⟨fun h => ?_, fun h => ?_⟩
  · repeat (with_reducible refine And.intro (by omega) ?_)
    refine .inr ?_
    repeat (with_reducible refine And.intro (by omega) ?_)
    intro cap2 hcap2
    repeat (with_reducible refine And.intro (by omega) ?_)
    refine lpK_normal (k + 1, cap2) [0, 3] (by simp only; omega) (by simp only; omega) (by kernel_rfl) ?_ ?_
    · simp only [push_cast, ↓branch_true, ↓branch_false, Nat.reduceBEq, Nat.reduceAdd, Nat.reduceMul, Nat.reduceSub, Int.reduceToNat, reduceCtorEq, branch_decide, branch_not, branch_beq, branch_bne]
    · simp only [push_cast, ↓branch_true, ↓branch_false, Nat.reduceBEq, Nat.reduceAdd, Nat.reduceMul, Nat.reduceSub, Int.reduceToNat, reduceCtorEq, branch_decide, branch_not, branch_beq, branch_bne]
      intro j hj
      intro i hi
      by_cases e : i < k
      · simp [e, mtL]
      · obtain rfl : i = k := by omega
        simp [mtL]
  · obtain rfl : k = l.length := by omega
    have h0 := rBest_sp length l c (lensF l) oc (by omega) (by rw [lensF_len]; omega) hn
    refine sp_at h0 [0, 1] rfl ?_ ?_ ?_
    · rw [lensF_len]
      simp only [push_cast, ↓branch_true, ↓branch_false, Nat.reduceBEq, Nat.reduceAdd, Nat.reduceMul, Nat.reduceSub, Int.reduceToNat, reduceCtorEq, branch_decide, branch_not, branch_beq, branch_bne]
    · simp only [push_cast, ↓branch_true, ↓branch_false, Nat.reduceBEq, Nat.reduceAdd, Nat.reduceMul, Nat.reduceSub, Int.reduceToNat, reduceCtorEq, branch_decide, branch_not, branch_beq, branch_bne]
      rw [lensF_len]
      exact fun j hj => ⟨Nat.le_refl _, fun i hi => by rw [lensF_ix hi]⟩
    rintro r0 H1 ⟨nb, bi, bl, bc, caps, bf, rfl, q1, rfl⟩
    simp only [push_cast, ↓branch_true, ↓branch_false, Nat.reduceBEq, Nat.reduceAdd, Nat.reduceMul, Nat.reduceSub, Int.reduceToNat, reduceCtorEq, branch_decide, branch_not, branch_beq, branch_bne]
    refine ⟨fun h1 => ?_, fun h1 => ?_⟩
    · have hg : givenE length l (lensF l).length = 0 := by
        unfold bestE at h1
        split at h1
        · omega
        · omega
      obtain ⟨ho, hl0, hl1, _⟩ := given_ok hg
      have := order_len ho
      have e1 : fullW length l = length - (bestS length l (lensF l)).2 := by
        unfold fullW
        rw [if_pos h1]
      obtain ⟨b1, b2⟩ := bestS_bound h1
      repeat (with_reducible refine And.intro (by omega) ?_)
      rw [e1, h1]
      refine ⟨_, _, vwk_mt [0, 2] ?_ ?_ ?_, nb, bi, bl, bc, caps, bf, rfl, q1, rfl⟩
      · simp only [push_cast, ↓branch_true, ↓branch_false, Nat.reduceBEq, Nat.reduceAdd, Nat.reduceMul, Nat.reduceSub, Int.reduceToNat, reduceCtorEq, branch_decide, branch_not, branch_beq, branch_bne]
      · kernel_rfl
      · simp only [push_cast, ↓branch_true, ↓branch_false, Nat.reduceBEq, Nat.reduceAdd, Nat.reduceMul, Nat.reduceSub, Int.reduceToNat, reduceCtorEq, branch_decide, branch_not, branch_beq, branch_bne]
    · have e1 : fullW length l = 0 := by
        unfold fullW
        rw [if_neg h1]
      have e2 : bestS length l (lensF l) = ([], 0) := by
        unfold bestS
        rw [if_neg h1]
      rw [e1, e2]
      refine ⟨_, _, vwk_mt [0, 3] ?_ ?_ ?_, 0, 0, 0, 0, fun _ => 0, [], rfl, ⟨rfl, .inl ⟨rfl, rfl, rfl⟩⟩, rfl⟩
      · simp only [push_cast, ↓branch_true, ↓branch_false, Nat.reduceBEq, Nat.reduceAdd, Nat.reduceMul, Nat.reduceSub, Int.reduceToNat, reduceCtorEq, branch_decide, branch_not, branch_beq, branch_bne]
      · kernel_rfl
      · simp only [push_cast, ↓branch_true, ↓branch_false, Nat.reduceBEq, Nat.reduceAdd, Nat.reduceMul, Nat.reduceSub, Int.reduceToNat, reduceCtorEq, branch_decide, branch_not, branch_beq, branch_bne]
def fewB (length : Int) (l : List Pc) : Bool := !((decide (5 < l.length) && decide (l.length ≤ 10)) || decide (205 < l.length)) && (decide (givenE length l l.length ≠ 0) || decide (10 < l.length) || decide (prodL length l ≤ 2000))
theorem few_pu (length : Int) (l : List Pc) (c : Nat) (hl : l.length ≤ 9223372036854775807) : Pu Try.prog 10 [.v (.int .i64 length), .s 0 0 0 l.length c 2] [rPc l] (.v (.bool (fewB length l))) := by
  refine pu_of_ex true [] mixed Try.call10 Try.func10 rfl Try.ntmps10 Try.results10 (by decide +kernel) rfl rfl rfl ?_
  simp only [push_cast, ↓branch_true, ↓branch_false, Nat.reduceBEq, Nat.reduceAdd, Nat.reduceMul, Nat.reduceSub, Int.reduceToNat, reduceCtorEq, branch_decide, branch_not, branch_beq, branch_bne]
  refine ⟨fun h1 => ⟨fun h2 => ?_, fun h2 => ⟨fun h3 => ?_, fun h3 => ?_⟩⟩, fun h1 => ⟨fun h3 => ?_, fun h3 => ?_⟩⟩
  · simp [fewB, show 5 < l.length by omega, show l.length ≤ 10 by omega]
  · simp [fewB, show 205 < l.length by omega]
  · have e : fewB length l = true := by simp [fewB, show ¬ l.length ≤ 10 by omega, show ¬ 205 < l.length by omega, show 10 < l.length by omega]
    rw [e]
    refine sp_call (rgiven_pu length l.length l c (by omega)) rfl [0] rfl (by simp only [push_cast, ↓branch_true, ↓branch_false, Nat.reduceBEq, Nat.reduceAdd, Nat.reduceMul, Nat.reduceSub, Int.reduceToNat, reduceCtorEq, branch_decide, branch_not, branch_beq, branch_bne]) (by simp only [push_cast, ↓branch_true, ↓branch_false, Nat.reduceBEq, Nat.reduceAdd, Nat.reduceMul, Nat.reduceSub, Int.reduceToNat, reduceCtorEq, branch_decide, branch_not, branch_beq, branch_bne]) ?_
    simp only [push_cast, ↓branch_true, ↓branch_false, Nat.reduceBEq, Nat.reduceAdd, Nat.reduceMul, Nat.reduceSub, Int.reduceToNat, reduceCtorEq, branch_decide, branch_not, branch_beq, branch_bne]
    exact fun _ h => absurd (show 10 < (l.length : Int) by omega) h
  · simp [fewB, show 205 < l.length by omega]
  · have e : fewB length l = (decide (givenE length l l.length ≠ 0) || decide (prodL length l ≤ 2000)) := by simp [fewB, show ¬ 5 < l.length by omega, show ¬ 205 < l.length by omega, show ¬ 10 < l.length by omega]
    rw [e]
    refine sp_call (rgiven_pu length l.length l c (by omega)) rfl [0] rfl (by simp only [push_cast, ↓branch_true, ↓branch_false, Nat.reduceBEq, Nat.reduceAdd, Nat.reduceMul, Nat.reduceSub, Int.reduceToNat, reduceCtorEq, branch_decide, branch_not, branch_beq, branch_bne]) (by simp only [push_cast, ↓branch_true, ↓branch_false, Nat.reduceBEq, Nat.reduceAdd, Nat.reduceMul, Nat.reduceSub, Int.reduceToNat, reduceCtorEq, branch_decide, branch_not, branch_beq, branch_bne]) ?_
    simp only [push_cast, ↓branch_true, ↓branch_false, Nat.reduceBEq, Nat.reduceAdd, Nat.reduceMul, Nat.reduceSub, Int.reduceToNat, reduceCtorEq, branch_decide, branch_not, branch_beq, branch_bne]
    refine ⟨fun hg => ?_, fun hg => ?_⟩
    · obtain ⟨g1, g2, g3, g4⟩ := given_0 hg
      have hpos := posL_of g1
      refine ⟨fun h => absurd h (by omega), fun _ => ?_⟩
      simp only [hg, ne_eq, not_true_eq_false, decide_false, Bool.false_or]
      refine tr_loop0 mixed (by kernel_rfl) (fun (x : Nat × Int) => [(6, .v (.int .i64 x.1)), (5, .v (.int .i64 x.2)), (0, .v (.int .i64 length)), (1, .s 0 0 0 l.length c 2)]) (fun x => x.1 ≤ l.length ∧ 1 ≤ x.2 ∧ x.2 ≤ 2000 ∧ x.2 * prodL length (l.drop x.1) = prodL length l) (fun x => l.length - x.1) (0, 1) ⟨Nat.zero_le _, Int.le_refl _, by simp, by simp⟩ ?_ ?_
      · simp only [push_cast, ↓branch_true, ↓branch_false, Nat.reduceBEq, Nat.reduceAdd, Nat.reduceMul, Nat.reduceSub, Int.reduceToNat, reduceCtorEq, branch_decide, branch_not, branch_beq, branch_bne]
      rintro ⟨i, n⟩ ⟨r1, r2, r3, r4⟩
      simp only at r1 r2 r3 r4
      simp only [push_cast, ↓branch_true, ↓branch_false, Nat.reduceBEq, Nat.reduceAdd, Nat.reduceMul, Nat.reduceSub, Int.reduceToNat, reduceCtorEq, branch_decide, branch_not, branch_beq, branch_bne]
      refine ⟨fun h => ?_, fun h => ?_⟩
      · have hk : i < l.length := by omega
        have hat := order_at g1 hk
        have hd : prodL length (l.drop i) = (mostF (ix l i) length + 1) * prodL length (l.drop (i + 1)) := by rw [drop_ix hk, prodL]
        have htd : length.tdiv (ix l i).len = length / (ix l i).len := Int.tdiv_eq_ediv_of_nonneg (by omega)
        have hq0 : 0 ≤ length / (ix l i).len := Int.ediv_nonneg (by omega) (by omega)
        have hq1 : length / (ix l i).len ≤ length := Int.ediv_le_self _ (by omega)
        have hmin : min (ix l i).cnt (length / (ix l i).len) = mostF (ix l i) length := rfl
        rw [htd, hmin]
        obtain ⟨m0, m1, m2⟩ := most_bound (rest := length) hat (by omega) g3
        have p1 := prodL_pos (l := l.drop (i + 1)) (length := length) (fun q hq => hpos q (List.mem_of_mem_drop hq)) (by omega)
        have n0 : n ≤ n * (mostF (ix l i) length + 1) := by
          have := Int.mul_le_mul_of_nonneg_left (show 1 ≤ mostF (ix l i) length + 1 by omega) (show 0 ≤ n by omega)
          omega
        have n1 : n * (mostF (ix l i) length + 1) ≤ 2000 * 1048577 := Int.mul_le_mul r3 (by omega) (by omega) (by omega)
        have n2 : n * (mostF (ix l i) length + 1) * prodL length (l.drop (i + 1)) = prodL length l := by rw [← r4, hd, Int.mul_assoc]
        have n3 : n * (mostF (ix l i) length + 1) ≤ prodL length l := by
          rw [← n2]
          have := Int.mul_le_mul_of_nonneg_left p1 (show 0 ≤ n * (mostF (ix l i) length + 1) by omega)
          omega
        repeat (with_reducible refine And.intro (by omega) ?_)
        refine ⟨fun h2 => ?_, fun h2 => ?_⟩
        · simp [show ¬ prodL length l ≤ 2000 by omega]
        · repeat (with_reducible refine And.intro (by omega) ?_)
          refine lp0_normal (i + 1, n * (mostF (ix l i) length + 1)) ⟨by simp only; omega, by simp only; omega, by simp only; omega, n2⟩ (by simp only; omega) ?_
          simp only [push_cast, ↓branch_true, ↓branch_false, Nat.reduceBEq, Nat.reduceAdd, Nat.reduceMul, Nat.reduceSub, Int.reduceToNat, reduceCtorEq, branch_decide, branch_not, branch_beq, branch_bne]
      · obtain rfl : i = l.length := by omega
        rw [List.drop_length, prodL, Int.mul_one] at r4
        simp [show prodL length l ≤ 2000 by omega]
    · simp [hg]
theorem only_ob {n nb bi : Nat} {s : List Int} {bf : List (List Int)} (a1 : s = ix bf bi) (a2 : s.length = n) : ∀ i, i < nb → (ix (onlyAt nb bi s) i).length ≤ n ∧ ∀ k, k < (ix (onlyAt nb bi s) i).length → Value.int IntKind.i64 (ix (ix (onlyAt nb bi s) i) k) = Value.int IntKind.i64 (ix (ix bf i) k) := fun i h => by
  rw [onlyAt_ix h]
  by_cases e : i = bi
  · subst e
    rw [if_pos rfl, a1]
    exact ⟨by rw [← a1]; omega, fun k _ => rfl⟩
  · rw [if_neg e]
    exact ⟨Nat.zero_le _, fun k hk => absurd hk (Nat.not_lt_zero _)⟩
/-- Whether two best patterns are the same. -/
theorem equalBB_pu (n nb nc bi bl bc bj cl cc : Nat) (caps caps' : Nat → Nat) (bf bg : List (List Int)) (s t : Bst) (hn : n ≤ 9223372036854775806) (h1 : BstOk n nb bi bl bc caps bf s) (h2 : BstOk n nc bj cl cc caps' bg t) :
    Pu Try.prog 14 [.s 0 bi 0 bl bc 1, .s 1 bj 0 cl cc 1] [rFam n nb bf, rFam n nc bg] (.v (.bool (decide (s.1 = t.1)))) := by
  obtain ⟨a0, h1⟩ := h1
  obtain ⟨c0, h2⟩ := h2
  have e0 : ix [([] : List Int)] 0 = [] := rfl
  rcases h1 with ⟨rfl, rfl, h1⟩ | ⟨a1, rfl, a2, a3, a4⟩
  · rcases h2 with ⟨rfl, rfl, h2⟩ | ⟨c1, rfl, c2, c3, c4⟩
    · have := equal_pu [[]] [[]] 0 0 0 0 (by simp) (by simp) (by decide) (by decide)
      rw [h1, h2]
      simp only [e0] at this
      refine pu_at this rfl [2, 3] rfl ?_ ?_
      · simp only [push_cast, ↓branch_true, ↓branch_false, Nat.reduceBEq, Nat.reduceAdd, Nat.reduceMul, Nat.reduceSub, Int.reduceToNat, reduceCtorEq, branch_decide, branch_not, branch_beq, branch_bne]
      · simp only [push_cast, ↓branch_true, ↓branch_false, Nat.reduceBEq, Nat.reduceAdd, Nat.reduceMul, Nat.reduceSub, Int.reduceToNat, reduceCtorEq, branch_decide, branch_not, branch_beq, branch_bne]
        exact ⟨rfl, by omega, rfl⟩
    · have := equal_pu [[]] (onlyAt nc bj t.1) 0 bj 0 cc (by simp) (by rw [onlyAt_len]; exact c1) (by decide) (by rw [onlyAt_ix c1, if_pos rfl]; omega)
      rw [onlyAt_ix c1, if_pos rfl, c4] at this
      rw [h1]
      simp only [e0] at this
      refine pu_at this rfl [2, 1] rfl ?_ ?_
      · simp only [push_cast, ↓branch_true, ↓branch_false, Nat.reduceBEq, Nat.reduceAdd, Nat.reduceMul, Nat.reduceSub, Int.reduceToNat, reduceCtorEq, branch_decide, branch_not, branch_beq, branch_bne]
      · simp only [push_cast, ↓branch_true, ↓branch_false, Nat.reduceBEq, Nat.reduceAdd, Nat.reduceMul, Nat.reduceSub, Int.reduceToNat, reduceCtorEq, branch_decide, branch_not, branch_beq, branch_bne]
        exact ⟨rfl, only_ob c3 c4⟩
  · rcases h2 with ⟨rfl, rfl, h2⟩ | ⟨c1, rfl, c2, c3, c4⟩
    · have := equal_pu (onlyAt nb bi s.1) [[]] bi 0 bc 0 (by rw [onlyAt_len]; exact a1) (by simp) (by rw [onlyAt_ix a1, if_pos rfl]; omega) (by decide)
      rw [onlyAt_ix a1, if_pos rfl, a4] at this
      rw [h2]
      simp only [e0] at this
      refine pu_at this rfl [0, 2] rfl ?_ ?_
      · simp only [push_cast, ↓branch_true, ↓branch_false, Nat.reduceBEq, Nat.reduceAdd, Nat.reduceMul, Nat.reduceSub, Int.reduceToNat, reduceCtorEq, branch_decide, branch_not, branch_beq, branch_bne]
      · simp only [push_cast, ↓branch_true, ↓branch_false, Nat.reduceBEq, Nat.reduceAdd, Nat.reduceMul, Nat.reduceSub, Int.reduceToNat, reduceCtorEq, branch_decide, branch_not, branch_beq, branch_bne]
        exact ⟨only_ob a3 a4, rfl⟩
    · have := equal_pu (onlyAt nb bi s.1) (onlyAt nc bj t.1) bi bj bc cc (by rw [onlyAt_len]; exact a1) (by rw [onlyAt_len]; exact c1) (by rw [onlyAt_ix a1, if_pos rfl]; omega) (by rw [onlyAt_ix c1, if_pos rfl]; omega)
      rw [onlyAt_ix a1, if_pos rfl, onlyAt_ix c1, if_pos rfl, a4, c4] at this
      refine pu_at this rfl [0, 1] rfl ?_ ?_
      · simp only [push_cast, ↓branch_true, ↓branch_false, Nat.reduceBEq, Nat.reduceAdd, Nat.reduceMul, Nat.reduceSub, Int.reduceToNat, reduceCtorEq, branch_decide, branch_not, branch_beq, branch_bne]
      · simp only [push_cast, ↓branch_true, ↓branch_false, Nat.reduceBEq, Nat.reduceAdd, Nat.reduceMul, Nat.reduceSub, Int.reduceToNat, reduceCtorEq, branch_decide, branch_not, branch_beq, branch_bne]
        exact ⟨only_ob a3 a4, only_ob c3 c4⟩
end Go.Proofs.Ythnpnoclhmneoaa
