/- Contracts: the reference's fill and less. -/
import Derived.Test.YtdeaaonppokgkaaQ9
set_option maxRecDepth 100000
set_option linter.unusedSimpArgs false
set_option linter.unusedVariables false
-- 
namespace Go.Proofs.Ytdeaaonppokgkaa.Pat
open Go.RowKit
theorem inB_drop : ∀ {l : List Pc} {b : List Int} (k : Nat), inB l b = true → inB (l.drop k) (b.drop k) = true
  | _, _, 0, h => h
  | [], b, k + 1, _ => by simp [inB]
  | _ :: _, [], k + 1, _ => by simp [inB]
  | p :: l, n :: b, k + 1, h => by
    simp only [inB, Bool.and_eq_true] at h
    exact inB_drop k h.2
theorem fill_ix {full pre : List Int} {left : Int} {l : List Pc} {i : Nat} (hi : i < l.length) (hp : pre.length = i) (h : full = pre ++ fillL left (l.drop i)) :
    ix full i = mostF (ix l i) left ∧ full = (pre ++ [mostF (ix l i) left]) ++ fillL (left - mostF (ix l i) left * (ix l i).len) (l.drop (i + 1)) := by
  rw [drop_ix hi, fillL] at h
  subst hp
  constructor
  · rw [h, ix_eq (by simp)]
    simp
  · rw [h]; simp
theorem fill_sp (length : Int) (l : List Pc) (b : List Int) (c cb : Nat) (ho : orderB l = true) (h0 : 0 ≤ length) (h1 : length ≤ 1048576) (hb : b.length ≤ l.length) (hi : inB l b = true) (hs : sumL l b ≤ length) :
    Sp Try.prog 84 [.v (.int .i64 length), .s 0 0 0 l.length c 2, .s 1 0 0 b.length cb 1] [rPc l, rInt 3 b] (fun r H => ∃ cap, l.length ≤ cap ∧ r = .s 2 0 0 l.length cap 1 ∧ H = [rPc l, rInt 3 b, rOwn 3 l.length cap (fun k => ix (b ++ fillL (length - sumL l b) (l.drop b.length)) k)]) := by
  have h200 := order_len ho
  have hpos := posL_of ho
  refine sp_weak ?_
  refine sp_of_ex true [] mixed Try.call84 Try.func84 rfl Try.ntmps84 Try.results84 (by decide +kernel) rfl ?_
  simp only [push_cast, ↓branch_true, ↓branch_false, Nat.reduceBEq, Nat.reduceAdd, Nat.reduceMul, Nat.reduceSub, Int.reduceToNat, reduceCtorEq, branch_decide, branch_not, branch_beq, branch_bne]
  refine' share (X := Nat) (fun cap => [(9, .v (.int .i64 0)), (8, .v (.int .i64 length)), (7, .s 2 0 0 b.length cap 1), (1, .s 0 0 0 l.length c 2), (2, .s 1 0 0 b.length cb 1)]) (fun cap => [rPc l, rInt 3 b, rOwn 3 b.length cap (fun k => ix b k)]) (fun cap => b.length ≤ cap) ?_ ?_
  case refine'_4 =>
    intro hrest
    refine ⟨by omega, by omega, ?_, appZ_of (fun h => ?_) fun _ => .inl ⟨by omega, by omega, fun cap hcap => ?_⟩⟩
    · unfold srcOk
      split <;> simp [lenP, lenIs, ones, one1]
    · refine tr_wk (Mt.wk (rl := [0, 1, 2]) ⟨by kernel_rfl, ?_, ?_⟩) (hrest 0 (by omega))
      · simp only [push_cast, ↓branch_true, ↓branch_false, Nat.reduceBEq, Nat.reduceAdd, Nat.reduceMul, Nat.reduceSub, Int.reduceToNat, reduceCtorEq, branch_decide, branch_not, branch_beq, branch_bne]
        try omega
      · simp only [push_cast, ↓branch_true, ↓branch_false, Nat.reduceBEq, Nat.reduceAdd, Nat.reduceMul, Nat.reduceSub, Int.reduceToNat, reduceCtorEq, branch_decide, branch_not, branch_beq, branch_bne]
        try (exact fun _ _ => ⟨by omega, fun k hk => by omega⟩)
    · refine tr_wk (Mt.wk (rl := [0, 1, 3]) ⟨by kernel_rfl, ?_, ?_⟩) (hrest cap hcap)
      · simp only [push_cast, ↓branch_true, ↓branch_false, Nat.reduceBEq, Nat.reduceAdd, Nat.reduceMul, Nat.reduceSub, Int.reduceToNat, reduceCtorEq, branch_decide, branch_not, branch_beq, branch_bne]
      · simp only [push_cast, ↓branch_true, ↓branch_false, Nat.reduceBEq, Nat.reduceAdd, Nat.reduceMul, Nat.reduceSub, Int.reduceToNat, reduceCtorEq, branch_decide, branch_not, branch_beq, branch_bne]
  intro cap hcap
  have hS0 := sumL_nonneg (fun q hq => (hpos q hq).1) hi
  refine tr_loop0 mixed (by kernel_rfl) (fun (x : Nat × Int) => [(9, .v (.int .i64 x.1)), (8, .v (.int .i64 x.2)), (7, .s 2 0 0 b.length cap 1), (1, .s 0 0 0 l.length c 2), (2, .s 1 0 0 b.length cb 1)])
    (fun x => x.1 ≤ b.length ∧ x.2 = length - sumL l b + sumL (l.drop x.1) (b.drop x.1) ∧ x.2 ≤ length) (fun x => b.length - x.1) (0, length) ⟨Nat.zero_le _, by simp only [List.drop_zero]; omega, Int.le_refl _⟩ ?_ ?_
  · simp only [push_cast, ↓branch_true, ↓branch_false, Nat.reduceBEq, Nat.reduceAdd, Nat.reduceMul, Nat.reduceSub, Int.reduceToNat, reduceCtorEq, branch_decide, branch_not, branch_beq, branch_bne]
  rintro ⟨i, left⟩ ⟨r1, r2, r3⟩
  simp only at r1 r2 r3
  simp only [push_cast, ↓branch_true, ↓branch_false, Nat.reduceBEq, Nat.reduceAdd, Nat.reduceMul, Nat.reduceSub, Int.reduceToNat, reduceCtorEq, branch_decide, branch_not, branch_beq, branch_bne]
  refine ⟨fun h => ?_, fun h => ?_⟩
  · have hb1 : i < b.length := by omega
    have hl1 : i < l.length := by omega
    have hat := order_at ho hl1
    have hbi := inB_at hi i hl1 hb1
    obtain ⟨t1, t2⟩ := term_le (a := (ix l i).len) (b := ix b i) (by omega) (by omega) (by omega) (by omega)
    have hst := sumL_step hl1 hb1
    have hn0 := sumL_nonneg (l := l.drop (i + 1)) (ns := b.drop (i + 1)) (fun q hq => (hpos q (List.mem_of_mem_drop hq)).1) (inB_drop (i + 1) hi)
    repeat (with_reducible refine And.intro (by omega) ?_)
    refine lp0_normal (i + 1, left - (ix l i).len * ix b i) ⟨by simp only; omega, by simp only; omega, by simp only; omega⟩ (by simp only; omega) ?_
    simp only [push_cast, ↓branch_true, ↓branch_false, Nat.reduceBEq, Nat.reduceAdd, Nat.reduceMul, Nat.reduceSub, Int.reduceToNat, reduceCtorEq, branch_decide, branch_not, branch_beq, branch_bne]
  · obtain rfl : i = b.length := by omega
    have r2 : left = length - sumL l b := by rw [r2, List.drop_length, sumL_nil]; omega
    generalize hfull : b ++ fillL (length - sumL l b) (l.drop b.length) = full
    refine tr_loop mixed (by kernel_rfl) (fun (x : Nat × Int × Nat) => [(10, .v (.int .i64 x.1)), (8, .v (.int .i64 x.2.1)), (7, .s 2 0 0 x.1 x.2.2 1), (1, .s 0 0 0 l.length c 2)])
      (fun x => [rPc l, rInt 3 b, rOwn 3 x.1 x.2.2 (fun k => ix full k)]) (fun x => (b.length ≤ x.1 ∧ x.1 ≤ x.2.2) ∧ x.1 ≤ l.length ∧ 0 ≤ x.2.1 ∧ x.2.1 ≤ 1048576 ∧ ∃ pre, pre.length = x.1 ∧ full = pre ++ fillL x.2.1 (l.drop x.1)) (fun x => l.length - x.1) (b.length, left, cap)
      ⟨⟨Nat.le_refl _, hcap⟩, hb, by simp only; omega, by simp only; omega, b, rfl, by simp only; rw [← hfull, r2]⟩ (Mt.wk (rl := [0, 1, 2]) ⟨by kernel_rfl, ?_, ?_⟩) ?_
    · simp only [push_cast, ↓branch_true, ↓branch_false, Nat.reduceBEq, Nat.reduceAdd, Nat.reduceMul, Nat.reduceSub, Int.reduceToNat, reduceCtorEq, branch_decide, branch_not, branch_beq, branch_bne]
    · simp only [push_cast, ↓branch_true, ↓branch_false, Nat.reduceBEq, Nat.reduceAdd, Nat.reduceMul, Nat.reduceSub, Int.reduceToNat, reduceCtorEq, branch_decide, branch_not, branch_beq, branch_bne]
      intro j hj k hk
      rw [← hfull, ix_eq (by simp; omega), ix_eq hk, List.getElem_append_left hk]
    rintro ⟨i, left, cap⟩ ⟨⟨s1, s0⟩, s2, s3, s4, pre, s5, s6⟩
    simp only at s0 s1 s2 s3 s4 s5 s6
    simp only [push_cast, ↓branch_true, ↓branch_false, Nat.reduceBEq, Nat.reduceAdd, Nat.reduceMul, Nat.reduceSub, Int.reduceToNat, reduceCtorEq, branch_decide, branch_not, branch_beq, branch_bne]
    refine ⟨fun h => ?_, fun h => ?_⟩
    · have hl1 : i < l.length := by omega
      have hat := order_at ho hl1
      obtain ⟨m0, m1, m2⟩ := most_bound (rest := left) hat s3 s4
      obtain ⟨f1, f2⟩ := fill_ix hl1 s5 s6
      have htd : left.tdiv (ix l i).len = left / (ix l i).len := Int.tdiv_eq_ediv_of_nonneg s3
      have hq0 : 0 ≤ left / (ix l i).len := Int.ediv_nonneg s3 (by omega)
      have hq1 : left / (ix l i).len ≤ left := Int.ediv_le_self _ s3
      rw [htd]
      have hmm := most_mul (n := mostF (ix l i) left) ⟨by omega, by omega⟩ (Int.le_refl _)
      have hm0 : 0 ≤ mostF (ix l i) left * (ix l i).len := Int.mul_nonneg m0 (by omega)
      have hmin : min (ix l i).cnt (left / (ix l i).len) = mostF (ix l i) left := rfl
      rw [hmin]
      repeat (with_reducible refine And.intro (by omega) ?_)
      refine .inr ?_
      repeat (with_reducible refine And.intro (by omega) ?_)
      intro cap2 hcap2
      repeat (with_reducible refine And.intro (by omega) ?_)
      refine lpK_normal (i + 1, left - mostF (ix l i) left * (ix l i).len, cap2) [0, 1, 4] ⟨⟨by simp only; omega, by simp only; omega⟩, by simp only; omega, by simp only; omega, by simp only; omega, pre ++ [mostF (ix l i) left], by simp [s5], f2⟩ (by simp only; omega) (by kernel_rfl) ?_ ?_
      · simp only [push_cast, ↓branch_true, ↓branch_false, Nat.reduceBEq, Nat.reduceAdd, Nat.reduceMul, Nat.reduceSub, Int.reduceToNat, reduceCtorEq, branch_decide, branch_not, branch_beq, branch_bne]
      · simp only [push_cast, ↓branch_true, ↓branch_false, Nat.reduceBEq, Nat.reduceAdd, Nat.reduceMul, Nat.reduceSub, Int.reduceToNat, reduceCtorEq, branch_decide, branch_not, branch_beq, branch_bne]
        intro j hj k hk
        by_cases e : k < i
        · simp [e, mtL]
        · obtain rfl : k = i := by omega
          simp [mtL, f1]
    · obtain rfl : i = l.length := by omega
      refine ⟨_, _, [0, 1, 2], ?_, ?_, ?_, cap, ?_, rfl, rfl⟩
      · simp only [push_cast, ↓branch_true, ↓branch_false, Nat.reduceBEq, Nat.reduceAdd, Nat.reduceMul, Nat.reduceSub, Int.reduceToNat, reduceCtorEq, branch_decide, branch_not, branch_beq, branch_bne]
      · kernel_rfl
      · simp only [push_cast, ↓branch_true, ↓branch_false, Nat.reduceBEq, Nat.reduceAdd, Nat.reduceMul, Nat.reduceSub, Int.reduceToNat, reduceCtorEq, branch_decide, branch_not, branch_beq, branch_bne]
      · exact s0
theorem lessB_facts : ∀ {l : List Pc} {p b : List Int}, PosL l → p.length = l.length → inB l p = true → lessB p = some b → inB l b = true ∧ sumL l b ≤ sumL l p ∧ b.length ≤ p.length
  | _, [], _, _, _, _, h => by simp [lessB] at h
  | [], _ :: _, _, _, hl, _, _ => by simp at hl
  | a :: l, n :: ns, b, hp, hl, hi, h => by
    simp only [inB, Bool.and_eq_true, decide_eq_true_eq] at hi
    have hpp := hp.head
    simp only [lessB] at h
    cases hb : lessB ns with
    | some c =>
      rw [hb] at h
      simp only [Option.some.injEq] at h
      subst h
      obtain ⟨q1, q2, q3⟩ := lessB_facts hp.tail (by simpa using hl) hi.2 hb
      refine ⟨?_, ?_, by simp; omega⟩
      · simp only [inB, q1, Bool.and_true, Bool.and_eq_true, decide_eq_true_eq]; exact hi.1
      · simp only [sumL]; omega
    | none =>
      rw [hb] at h
      simp only at h
      split at h
      · cases h
      · rename_i hn
        simp only [Option.some.injEq] at h
        subst h
        have := sumL_nonneg (fun q hq => (hp.tail q hq).1) hi.2
        refine ⟨?_, ?_, by simp⟩
        · simp only [inB, Bool.and_true, Bool.and_eq_true, decide_eq_true_eq]; omega
        · simp only [sumL]
          rw [Int.mul_sub, Int.mul_one]
          omega
theorem lessB_none : ∀ {p : List Int}, (∀ k, k < p.length → ix p k = 0) → lessB p = none
  | [], _ => rfl
  | n :: ns, h => by
    have h0 : n = 0 := by have := h 0 (by simp); rwa [ix_eq (by simp)] at this
    rw [lessB, lessB_none (p := ns) fun k hk => by have := h (k + 1) (by simpa using hk); rwa [ix_eq (by simpa using hk), List.getElem_cons_succ, ← ix_eq hk] at this]
    simp [h0]
theorem lessB_at : ∀ {p : List Int} {k : Nat}, k < p.length → ix p k ≠ 0 → (∀ j, k < j → j < p.length → ix p j = 0) → lessB p = some (p.take k ++ [ix p k - 1])
  | [], k, h, _, _ => by simp at h
  | n :: ns, 0, _, h0, h => by
    have e : ix (n :: ns) 0 = n := by rw [ix_eq (by simp)]; rfl
    rw [e] at h0 ⊢
    rw [lessB, lessB_none (p := ns) fun k hk => by have := h (k + 1) (by omega) (by simpa using hk); rwa [ix_eq (by simpa using hk), List.getElem_cons_succ, ← ix_eq hk] at this]
    simp [h0]
  | n :: ns, k + 1, hk, h0, h => by
    have hk' : k < ns.length := by simpa using hk
    have e : ix (n :: ns) (k + 1) = ix ns k := by rw [ix_eq hk, ix_eq hk', List.getElem_cons_succ]
    rw [e] at h0 ⊢
    rw [lessB, lessB_at hk' h0 fun j hj hj2 => by have := h (j + 1) (by omega) (by simpa using hj2); rwa [ix_eq (by simpa using hj2), List.getElem_cons_succ, ← ix_eq hj2] at this]
    simp
theorem ix_take_lt {p : List Int} {x : Int} {k m : Nat} (h : k < m) (hm : m ≤ p.length) : ix (p.take m ++ [x]) k = ix p k := by
  rw [ix_eq (show k < (p.take m ++ [x]).length by simp; omega), ix_eq (show k < p.length by omega), List.getElem_append_left (by simp; omega), List.getElem_take]
theorem ix_take_at {p : List Int} {x : Int} {m : Nat} (hm : m ≤ p.length) : ix (p.take m ++ [x]) m = x := by
  have := ix_snoc (p.take m) x
  rwa [List.length_take, Nat.min_eq_left hm] at this
def lessQ (length : Int) (l : List Pc) (p : List Int) : List Int := (lessO length l p).getD []
theorem less_sp (length : Int) (l : List Pc) (p : List Int) (c cp : Nat) (ho : orderB l = true) (h0 : 0 ≤ length) (h1 : length ≤ 1048576) (hp : p.length = l.length) (hi : inB l p = true) (hs : sumL l p ≤ length) (hcp : p.length ≤ cp) :
    Sp Try.prog 85 [.v (.int .i64 length), .s 0 0 0 l.length c 2, .s 1 0 0 p.length cp 1] [rPc l, rInt 3 p] (fun r H => ∃ cap, (lessQ length l p).length ≤ cap ∧ r = .s 2 0 0 (lessQ length l p).length cap 1 ∧ H = [rPc l, rInt 3 p, rOwn 3 (lessQ length l p).length cap (fun k => ix (lessQ length l p) k)]) := by
  have h200 := order_len ho
  have hpos := posL_of ho
  refine sp_weak ?_
  refine sp_of_ex true [] mixed Try.call85 Try.func85 rfl Try.ntmps85 Try.results85 (by decide +kernel) rfl ?_
  simp only [push_cast, ↓branch_true, ↓branch_false, Nat.reduceBEq, Nat.reduceAdd, Nat.reduceMul, Nat.reduceSub, Int.reduceToNat, reduceCtorEq, branch_decide, branch_not, branch_beq, branch_bne]
  repeat (with_reducible refine And.intro (by omega) ?_)
  refine tr_loop0 mixed (by kernel_rfl) (fun (k : Int) => [(7, .v (.int .i64 k)), (0, .v (.int .i64 length)), (1, .s 0 0 0 l.length c 2), (2, .s 1 0 0 p.length cp 1)])
    (fun k => -1 ≤ k ∧ k < p.length ∧ ∀ j : Nat, k < j → j < p.length → ix p j = 0) (fun k => (k + 1).toNat) ((p.length : Int) - 1) ⟨by omega, by omega, fun j h1 h2 => by omega⟩ ?_ ?_
  · simp only [push_cast, ↓branch_true, ↓branch_false, Nat.reduceBEq, Nat.reduceAdd, Nat.reduceMul, Nat.reduceSub, Int.reduceToNat, reduceCtorEq, branch_decide, branch_not, branch_beq, branch_bne]
  rintro k ⟨r1, r2, r3⟩
  simp only [push_cast, ↓branch_true, ↓branch_false, Nat.reduceBEq, Nat.reduceAdd, Nat.reduceMul, Nat.reduceSub, Int.reduceToNat, reduceCtorEq, branch_decide, branch_not, branch_beq, branch_bne]
  refine ⟨fun h => ?_, fun h => ⟨fun _ => ?_, fun h2 => absurd h (by omega)⟩⟩
  · obtain ⟨m, rfl⟩ := Int.eq_ofNat_of_zero_le h
    simp only [Int.toNat_natCast, Nat.sub_zero]
    have hm : m < p.length := by omega
    repeat (with_reducible refine And.intro (by omega) ?_)
    refine ⟨fun hz => ?_, fun hz => ⟨fun h2 => absurd h2 (by omega), fun _ => ?_⟩⟩
    · repeat (with_reducible refine And.intro (by omega) ?_)
      refine lp0_normal ((m : Int) - 1) ⟨by omega, by omega, fun j hj1 hj2 => ?_⟩ (by omega) ?_
      · by_cases e : j = m
        · subst e; exact hz
        · exact r3 j (by omega) hj2
      · simp only [push_cast, ↓branch_true, ↓branch_false, Nat.reduceBEq, Nat.reduceAdd, Nat.reduceMul, Nat.reduceSub, Int.reduceToNat, reduceCtorEq, branch_decide, branch_not, branch_beq, branch_bne]
    · have hB := lessB_at hm hz fun j hj1 hj2 => r3 j (by omega) hj2
      obtain ⟨q1, q2, q3⟩ := lessB_facts hpos hp hi hB
      have hat := order_at ho (show m < l.length by omega)
      have hbi := inB_at hi m (by omega) hm
      have hQ : lessQ length l p = (p.take m ++ [ix p m - 1]) ++ fillL (length - sumL l (p.take m ++ [ix p m - 1])) (l.drop (p.take m ++ [ix p m - 1]).length) := by
        rw [lessQ, lessO, hB]; rfl
      have hbl : (p.take m ++ [ix p m - 1]).length = m + 1 := by simp; omega
      have hQl : (lessQ length l p).length = l.length := by rw [hQ, List.length_append, fillL_len, hbl, List.length_drop]; omega
      repeat (with_reducible refine And.intro (by omega) ?_)
      refine ⟨by (unfold srcOk; split <;> simp [lenP, lenIs, ones, one1]), appZ_of (fun hm0 => ?_) fun _ => .inl ?_⟩
      · subst hm0
        repeat (with_reducible refine And.intro (by omega) ?_)
        refine .inl ⟨by omega, by omega, fun cap2 hcap2 => ?_⟩
        have hf := fill_sp length l (p.take 0 ++ [ix p 0 - 1]) c cap2 ho h0 h1 (by omega) q1 (by omega)
        rw [← hQ, hbl] at hf
        refine sp_at hf [0, 4] rfl ?_ ?_ ?_
        · simp only [push_cast, ↓branch_true, ↓branch_false, Nat.reduceBEq, Nat.reduceAdd, Nat.reduceMul, Nat.reduceSub, Int.reduceToNat, reduceCtorEq, branch_decide, branch_not, branch_beq, branch_bne]
        · simp only [push_cast, ↓branch_true, ↓branch_false, Nat.reduceBEq, Nat.reduceAdd, Nat.reduceMul, Nat.reduceSub, Int.reduceToNat, reduceCtorEq, branch_decide, branch_not, branch_beq, branch_bne]
          intro j hj k hk
          obtain rfl : k = 0 := by omega
          simp [mtL, mt, ix]
        rintro r0 H1 ⟨cap3, hcap3, rfl, rfl⟩
        simp only [push_cast, ↓branch_true, ↓branch_false, Nat.reduceBEq, Nat.reduceAdd, Nat.reduceMul, Nat.reduceSub, Int.reduceToNat, reduceCtorEq, branch_decide, branch_not, branch_beq, branch_bne]
        simp only [hQl]
        refine ⟨_, _, [0, 1, 5], ?_, ?_, ?_, cap3, hcap3, rfl, rfl⟩
        · simp only [push_cast, ↓branch_true, ↓branch_false, Nat.reduceBEq, Nat.reduceAdd, Nat.reduceMul, Nat.reduceSub, Int.reduceToNat, reduceCtorEq, branch_decide, branch_not, branch_beq, branch_bne]
        · kernel_rfl
        · simp only [push_cast, ↓branch_true, ↓branch_false, Nat.reduceBEq, Nat.reduceAdd, Nat.reduceMul, Nat.reduceSub, Int.reduceToNat, reduceCtorEq, branch_decide, branch_not, branch_beq, branch_bne]
      repeat (with_reducible refine And.intro (by omega) ?_)
      intro cap hcap
      repeat (with_reducible refine And.intro (by omega) ?_)
      refine .inr ?_
      repeat (with_reducible refine And.intro (by omega) ?_)
      intro cap2 hcap2
      have hf := fill_sp length l (p.take m ++ [ix p m - 1]) c cap2 ho h0 h1 (by omega) q1 (by omega)
      rw [← hQ, hbl] at hf
      refine sp_at hf [0, 5] rfl ?_ ?_ ?_
      · simp only [push_cast, ↓branch_true, ↓branch_false, Nat.reduceBEq, Nat.reduceAdd, Nat.reduceMul, Nat.reduceSub, Int.reduceToNat, reduceCtorEq, branch_decide, branch_not, branch_beq, branch_bne]
      · simp only [push_cast, ↓branch_true, ↓branch_false, Nat.reduceBEq, Nat.reduceAdd, Nat.reduceMul, Nat.reduceSub, Int.reduceToNat, reduceCtorEq, branch_decide, branch_not, branch_beq, branch_bne]
        rw [hbl]
        intro j hj
        refine ⟨Nat.le_refl _, fun k hk => ?_⟩
        by_cases e : k < m
        · simp [e, ix_take_lt e (Nat.le_of_lt hm), mtL]
        · obtain rfl : k = m := by omega
          simp [ix_take_at (Nat.le_of_lt hm), mtL]
      rintro r0 H1 ⟨cap3, hcap3, rfl, rfl⟩
      simp only [push_cast, ↓branch_true, ↓branch_false, Nat.reduceBEq, Nat.reduceAdd, Nat.reduceMul, Nat.reduceSub, Int.reduceToNat, reduceCtorEq, branch_decide, branch_not, branch_beq, branch_bne]
      simp only [hQl]
      refine ⟨_, _, [0, 1, 6], ?_, ?_, ?_, cap3, hcap3, rfl, rfl⟩
      · simp only [push_cast, ↓branch_true, ↓branch_false, Nat.reduceBEq, Nat.reduceAdd, Nat.reduceMul, Nat.reduceSub, Int.reduceToNat, reduceCtorEq, branch_decide, branch_not, branch_beq, branch_bne]
      · kernel_rfl
      · simp only [push_cast, ↓branch_true, ↓branch_false, Nat.reduceBEq, Nat.reduceAdd, Nat.reduceMul, Nat.reduceSub, Int.reduceToNat, reduceCtorEq, branch_decide, branch_not, branch_beq, branch_bne]
  · have hQ : lessQ length l p = [] := by
      rw [lessQ, lessO, lessB_none fun j hj => r3 j (by omega) hj]; rfl
    rw [hQ]
    refine ⟨_, _, [0, 1, 2], ?_, ?_, ?_, 0, Nat.le_refl _, rfl, rfl⟩
    · simp only [push_cast, ↓branch_true, ↓branch_false, Nat.reduceBEq, Nat.reduceAdd, Nat.reduceMul, Nat.reduceSub, Int.reduceToNat, reduceCtorEq, branch_decide, branch_not, branch_beq, branch_bne]
    · kernel_rfl
    · simp only [push_cast, ↓branch_true, ↓branch_false, Nat.reduceBEq, Nat.reduceAdd, Nat.reduceMul, Nat.reduceSub, Int.reduceToNat, reduceCtorEq, branch_decide, branch_not, branch_beq, branch_bne]
end Go.Proofs.Ytdeaaonppokgkaa.Pat
