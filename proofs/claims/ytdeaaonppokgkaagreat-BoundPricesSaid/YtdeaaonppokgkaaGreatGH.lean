/- Contracts: the reference's fill and less. Contract: the reference's Each. Contracts at a member of a list of patterns; the reference's All. Contracts: the reference's Sum, Maximal and All. -/
import Derived.Test.YtdeaaonppokgkaaGreatGG
set_option maxRecDepth 100000
set_option linter.unusedSimpArgs false
set_option linter.unusedVariables false
namespace Go.Proofs.YtdeaaonppokgkaaGreat.Pat
open Go.RowKit
theorem inB_drop : ∀ {l : List Pc} {b : List Int} (k : Nat), inB l b = true → inB (l.drop k) (b.drop k) = true
  | _, _, 0, h => h
  | [], b, k + 1, _ => by simp [inB]
  | _ :: _, [], k + 1, _ => by simp [inB]
  | p :: l, n :: b, k + 1, h => by
    simp only [inB, Bool.and_eq_true] at h
    exact inB_drop k h.2
theorem fill_ix {full pre : List Int} {left : Int} {l : List Pc} {i : Nat} (hi : i < l.length) (hp : pre.length = i) (h : full = pre ++ fillL left (l.drop i)) :
    ix full i = mostF (ix l i) left ∧ full = (pre ++ [mostF (ix l i) left]) ++ fillL (left - mostF (ix l i) left * (ix l i).len) (l.drop (i + 1)) := by
  rw [drop_ix hi, fillL] at h
  subst hp
  constructor
  · rw [h, ix_eq (by simp)]
    simp
  · rw [h]; simp
theorem fill_sp (length : Int) (l : List Pc) (b : List Int) (c cb : Nat) (ho : orderB l = true) (h0 : 0 ≤ length) (h1 : length ≤ 1048576) (hb : b.length ≤ l.length) (hi : inB l b = true) (hs : sumL l b ≤ length) :
    Sp Tryz.prog 95 [.v (.int .i64 length), .s 0 0 0 l.length c 2, .s 1 0 0 b.length cb 1] [rPc l, rInt 3 b] (fun r H => ∃ cap, l.length ≤ cap ∧ r = .s 2 0 0 l.length cap 1 ∧ H = [rPc l, rInt 3 b, rOwn 3 l.length cap (fun k => ix (b ++ fillL (length - sumL l b) (l.drop b.length)) k)]) := by
  have h200 := order_len ho
  have hpos := posL_of ho
  refine sp_weak ?_
  refine sp_of_ex true [] mixed Tryz.call95 Tryz.func95 rfl Tryz.ntmps95 Tryz.results95 (by decide +kernel) rfl ?_
  refine sxo ?_
  try with_reducible exact trivial
  refine' share (X := Nat) (fun cap => [(9, .v (.int .i64 0)), (8, .v (.int .i64 length)), (7, .s 2 0 0 b.length cap 1), (1, .s 0 0 0 l.length c 2), (2, .s 1 0 0 b.length cb 1)]) (fun cap => [rPc l, rInt 3 b, rOwn 3 b.length cap (fun k => ix b k)]) (fun cap => b.length ≤ cap) ?_ ?_
  case refine'_4 =>
    intro hrest
    refine ⟨by omega, by omega, ?_, appZ_of (fun h => ?_) fun _ => .inl ⟨by omega, by omega, fun cap hcap => ?_⟩⟩
    · unfold srcOk
      split <;> simp [lenP, lenIs, ones, one1]
    · refine tr_wk (Mt.wk (rl := [0, 1, 2]) ⟨by kernel_rfl, ?_, ?_⟩) (hrest 0 (by omega))
      · refine sxo ?_
        try with_reducible exact trivial
        try omega
      · refine sxo ?_
        try with_reducible exact trivial
        try (exact fun _ _ => ⟨by omega, fun k hk => by omega⟩)
    · refine tr_wk (Mt.wk (rl := [0, 1, 3]) ⟨by kernel_rfl, ?_, ?_⟩) (hrest cap hcap)
      · refine sxo ?_
        try with_reducible exact trivial
      · refine sxo ?_
        try with_reducible exact trivial
  intro cap hcap
  have hS0 := sumL_nonneg (fun q hq => (hpos q hq).1) hi
  refine tr_loop0 mixed (by kernel_rfl) (fun (x : Nat × Int) => [(9, .v (.int .i64 x.1)), (8, .v (.int .i64 x.2)), (7, .s 2 0 0 b.length cap 1), (1, .s 0 0 0 l.length c 2), (2, .s 1 0 0 b.length cb 1)])
    (fun x => x.1 ≤ b.length ∧ x.2 = length - sumL l b + sumL (l.drop x.1) (b.drop x.1) ∧ x.2 ≤ length) (fun x => b.length - x.1) (0, length) ⟨Nat.zero_le _, by simp only [List.drop_zero]; omega, Int.le_refl _⟩ ?_ ?_
  · refine sxo ?_
    try with_reducible exact trivial
  rintro ⟨i, left⟩ ⟨r1, r2, r3⟩
  simp only at r1 r2 r3
  refine sxo ?_
  try with_reducible exact trivial
  refine ⟨fun h => ?_, fun h => ?_⟩
  · have hb1 : i < b.length := by omega
    have hl1 : i < l.length := by omega
    have hat := order_at ho hl1
    have hbi := inB_at hi i hl1 hb1
    obtain ⟨t1, t2⟩ := term_le (a := (ix l i).len) (b := ix b i) (by omega) (by omega) (by omega) (by omega)
    have hst := sumL_step hl1 hb1
    have hn0 := sumL_nonneg (l := l.drop (i + 1)) (ns := b.drop (i + 1)) (fun q hq => (hpos q (List.mem_of_mem_drop hq)).1) (inB_drop (i + 1) hi)
    repeat (with_reducible refine And.intro (by omega) ?_)
    refine lp0_normal (i + 1, left - (ix l i).len * ix b i) ⟨by simp only; omega, by simp only; omega, by simp only; omega⟩ (by simp only; omega) ?_
    refine sxo ?_
    try with_reducible exact trivial
  · obtain rfl : i = b.length := by omega
    have r2 : left = length - sumL l b := by rw [r2, List.drop_length, sumL_nil]; omega
    generalize hfull : b ++ fillL (length - sumL l b) (l.drop b.length) = full
    refine tr_loop mixed (by kernel_rfl) (fun (x : Nat × Int × Nat) => [(10, .v (.int .i64 x.1)), (8, .v (.int .i64 x.2.1)), (7, .s 2 0 0 x.1 x.2.2 1), (1, .s 0 0 0 l.length c 2)])
      (fun x => [rPc l, rInt 3 b, rOwn 3 x.1 x.2.2 (fun k => ix full k)]) (fun x => (b.length ≤ x.1 ∧ x.1 ≤ x.2.2) ∧ x.1 ≤ l.length ∧ 0 ≤ x.2.1 ∧ x.2.1 ≤ 1048576 ∧ ∃ pre, pre.length = x.1 ∧ full = pre ++ fillL x.2.1 (l.drop x.1)) (fun x => l.length - x.1) (b.length, left, cap)
      ⟨⟨Nat.le_refl _, hcap⟩, hb, by simp only; omega, by simp only; omega, b, rfl, by simp only; rw [← hfull, r2]⟩ (Mt.wk (rl := [0, 1, 2]) ⟨by kernel_rfl, ?_, ?_⟩) ?_
    · refine sxo ?_
      try with_reducible exact trivial
    · refine sxo ?_
      try with_reducible exact trivial
      intro j hj k hk
      rw [← hfull, ix_eq (by simp; omega), ix_eq hk, List.getElem_append_left hk]
    rintro ⟨i, left, cap⟩ ⟨⟨s1, s0⟩, s2, s3, s4, pre, s5, s6⟩
    simp only at s0 s1 s2 s3 s4 s5 s6
    refine sxo ?_
    try with_reducible exact trivial
    refine ⟨fun h => ?_, fun h => ?_⟩
    · have hl1 : i < l.length := by omega
      have hat := order_at ho hl1
      obtain ⟨m0, m1, m2⟩ := most_bound (rest := left) hat s3 s4
      obtain ⟨f1, f2⟩ := fill_ix hl1 s5 s6
      have htd : left.tdiv (ix l i).len = left / (ix l i).len := Int.tdiv_eq_ediv_of_nonneg s3
      have hq0 : 0 ≤ left / (ix l i).len := Int.ediv_nonneg s3 (by omega)
      have hq1 : left / (ix l i).len ≤ left := Int.ediv_le_self _ s3
      rw [htd]
      have hmm := most_mul (n := mostF (ix l i) left) ⟨by omega, by omega⟩ (Int.le_refl _)
      have hm0 : 0 ≤ mostF (ix l i) left * (ix l i).len := Int.mul_nonneg m0 (by omega)
      have hmin : min (ix l i).cnt (left / (ix l i).len) = mostF (ix l i) left := rfl
      rw [hmin]
      repeat (with_reducible refine And.intro (by omega) ?_)
      refine .inr ?_
      repeat (with_reducible refine And.intro (by omega) ?_)
      intro cap2 hcap2
      repeat (with_reducible refine And.intro (by omega) ?_)
      refine lpK_normal (i + 1, left - mostF (ix l i) left * (ix l i).len, cap2) [0, 1, 4] ⟨⟨by simp only; omega, by simp only; omega⟩, by simp only; omega, by simp only; omega, by simp only; omega, pre ++ [mostF (ix l i) left], by simp [s5], f2⟩ (by simp only; omega) (by kernel_rfl) ?_ ?_
      · refine sxo ?_
        try with_reducible exact trivial
      · refine sxo ?_
        try with_reducible exact trivial
        intro j hj k hk
        by_cases e : k < i
        · simp [e, mtL]
        · obtain rfl : k = i := by omega
          simp [mtL, f1]
    · obtain rfl : i = l.length := by omega
      refine ⟨_, _, [0, 1, 2], ?_, ?_, ?_, cap, ?_, rfl, rfl⟩
      · refine sxo ?_
        try with_reducible exact trivial
      · kernel_rfl
      · refine sxo ?_
        try with_reducible exact trivial
      · exact s0
theorem lessB_facts : ∀ {l : List Pc} {p b : List Int}, PosL l → p.length = l.length → inB l p = true → lessB p = some b → inB l b = true ∧ sumL l b ≤ sumL l p ∧ b.length ≤ p.length
  | _, [], _, _, _, _, h => by simp [lessB] at h
  | [], _ :: _, _, _, hl, _, _ => by simp at hl
  | a :: l, n :: ns, b, hp, hl, hi, h => by
    simp only [inB, Bool.and_eq_true, decide_eq_true_eq] at hi
    have hpp := hp.head
    simp only [lessB] at h
    cases hb : lessB ns with
    | some c =>
      rw [hb] at h
      simp only [Option.some.injEq] at h
      subst h
      obtain ⟨q1, q2, q3⟩ := lessB_facts hp.tail (by simpa using hl) hi.2 hb
      refine ⟨?_, ?_, by simp; omega⟩
      · simp only [inB, q1, Bool.and_true, Bool.and_eq_true, decide_eq_true_eq]; exact hi.1
      · simp only [sumL]; omega
    | none =>
      rw [hb] at h
      simp only at h
      split at h
      · cases h
      · rename_i hn
        simp only [Option.some.injEq] at h
        subst h
        have := sumL_nonneg (fun q hq => (hp.tail q hq).1) hi.2
        refine ⟨?_, ?_, by simp⟩
        · simp only [inB, Bool.and_true, Bool.and_eq_true, decide_eq_true_eq]; omega
        · simp only [sumL]
          rw [Int.mul_sub, Int.mul_one]
          omega
theorem lessB_none : ∀ {p : List Int}, (∀ k, k < p.length → ix p k = 0) → lessB p = none
  | [], _ => rfl
  | n :: ns, h => by
    have h0 : n = 0 := by have := h 0 (by simp); rwa [ix_eq (by simp)] at this
    rw [lessB, lessB_none (p := ns) fun k hk => by have := h (k + 1) (by simpa using hk); rwa [ix_eq (by simpa using hk), List.getElem_cons_succ, ← ix_eq hk] at this]
    simp [h0]
theorem lessB_at : ∀ {p : List Int} {k : Nat}, k < p.length → ix p k ≠ 0 → (∀ j, k < j → j < p.length → ix p j = 0) → lessB p = some (p.take k ++ [ix p k - 1])
  | [], k, h, _, _ => by simp at h
  | n :: ns, 0, _, h0, h => by
    have e : ix (n :: ns) 0 = n := by rw [ix_eq (by simp)]; rfl
    rw [e] at h0 ⊢
    rw [lessB, lessB_none (p := ns) fun k hk => by have := h (k + 1) (by omega) (by simpa using hk); rwa [ix_eq (by simpa using hk), List.getElem_cons_succ, ← ix_eq hk] at this]
    simp [h0]
  | n :: ns, k + 1, hk, h0, h => by
    have hk' : k < ns.length := by simpa using hk
    have e : ix (n :: ns) (k + 1) = ix ns k := by rw [ix_eq hk, ix_eq hk', List.getElem_cons_succ]
    rw [e] at h0 ⊢
    rw [lessB, lessB_at hk' h0 fun j hj hj2 => by have := h (j + 1) (by omega) (by simpa using hj2); rwa [ix_eq (by simpa using hj2), List.getElem_cons_succ, ← ix_eq hj2] at this]
    simp
theorem ix_take_lt {p : List Int} {x : Int} {k m : Nat} (h : k < m) (hm : m ≤ p.length) : ix (p.take m ++ [x]) k = ix p k := by
  rw [ix_eq (show k < (p.take m ++ [x]).length by simp; omega), ix_eq (show k < p.length by omega), List.getElem_append_left (by simp; omega), List.getElem_take]
theorem ix_take_at {p : List Int} {x : Int} {m : Nat} (hm : m ≤ p.length) : ix (p.take m ++ [x]) m = x := by
  have := ix_snoc (p.take m) x
  rwa [List.length_take, Nat.min_eq_left hm] at this
def lessQ (length : Int) (l : List Pc) (p : List Int) : List Int := (lessO length l p).getD []
theorem less_sp (length : Int) (l : List Pc) (p : List Int) (c cp : Nat) (ho : orderB l = true) (h0 : 0 ≤ length) (h1 : length ≤ 1048576) (hp : p.length = l.length) (hi : inB l p = true) (hs : sumL l p ≤ length) (hcp : p.length ≤ cp) :
    Sp Tryz.prog 96 [.v (.int .i64 length), .s 0 0 0 l.length c 2, .s 1 0 0 p.length cp 1] [rPc l, rInt 3 p] (fun r H => ∃ cap, (lessQ length l p).length ≤ cap ∧ r = .s 2 0 0 (lessQ length l p).length cap 1 ∧ H = [rPc l, rInt 3 p, rOwn 3 (lessQ length l p).length cap (fun k => ix (lessQ length l p) k)]) := by
  have h200 := order_len ho
  have hpos := posL_of ho
  refine sp_weak ?_
  refine sp_of_ex true [] mixed Tryz.call96 Tryz.func96 rfl Tryz.ntmps96 Tryz.results96 (by decide +kernel) rfl ?_
  refine sxo ?_
  try with_reducible exact trivial
  repeat (with_reducible refine And.intro (by omega) ?_)
  refine tr_loop0 mixed (by kernel_rfl) (fun (k : Int) => [(7, .v (.int .i64 k)), (0, .v (.int .i64 length)), (1, .s 0 0 0 l.length c 2), (2, .s 1 0 0 p.length cp 1)])
    (fun k => -1 ≤ k ∧ k < p.length ∧ ∀ j : Nat, k < j → j < p.length → ix p j = 0) (fun k => (k + 1).toNat) ((p.length : Int) - 1) ⟨by omega, by omega, fun j h1 h2 => by omega⟩ ?_ ?_
  · refine sxo ?_
    try with_reducible exact trivial
  rintro k ⟨r1, r2, r3⟩
  refine sxo ?_
  try with_reducible exact trivial
  refine ⟨fun h => ?_, fun h => ⟨fun _ => ?_, fun h2 => absurd h (by omega)⟩⟩
  · obtain ⟨m, rfl⟩ := Int.eq_ofNat_of_zero_le h
    simp only [Int.toNat_natCast, Nat.sub_zero]
    have hm : m < p.length := by omega
    repeat (with_reducible refine And.intro (by omega) ?_)
    refine ⟨fun hz => ?_, fun hz => ⟨fun h2 => absurd h2 (by omega), fun _ => ?_⟩⟩
    · repeat (with_reducible refine And.intro (by omega) ?_)
      refine lp0_normal ((m : Int) - 1) ⟨by omega, by omega, fun j hj1 hj2 => ?_⟩ (by omega) ?_
      · by_cases e : j = m
        · subst e; exact hz
        · exact r3 j (by omega) hj2
      · refine sxo ?_
        try with_reducible exact trivial
    · have hB := lessB_at hm hz fun j hj1 hj2 => r3 j (by omega) hj2
      obtain ⟨q1, q2, q3⟩ := lessB_facts hpos hp hi hB
      have hat := order_at ho (show m < l.length by omega)
      have hbi := inB_at hi m (by omega) hm
      have hQ : lessQ length l p = (p.take m ++ [ix p m - 1]) ++ fillL (length - sumL l (p.take m ++ [ix p m - 1])) (l.drop (p.take m ++ [ix p m - 1]).length) := by
        rw [lessQ, lessO, hB]; rfl
      have hbl : (p.take m ++ [ix p m - 1]).length = m + 1 := by simp; omega
      have hQl : (lessQ length l p).length = l.length := by rw [hQ, List.length_append, fillL_len, hbl, List.length_drop]; omega
      repeat (with_reducible refine And.intro (by omega) ?_)
      refine ⟨by (unfold srcOk; split <;> simp [lenP, lenIs, ones, one1]), appZ_of (fun hm0 => ?_) fun _ => .inl ?_⟩
      · subst hm0
        repeat (with_reducible refine And.intro (by omega) ?_)
        refine .inl ⟨by omega, by omega, fun cap2 hcap2 => ?_⟩
        have hf := fill_sp length l (p.take 0 ++ [ix p 0 - 1]) c cap2 ho h0 h1 (by omega) q1 (by omega)
        rw [← hQ, hbl] at hf
        refine sp_at hf [0, 4] rfl ?_ ?_ ?_
        · refine sxo ?_
          try with_reducible exact trivial
        · refine sxo ?_
          try with_reducible exact trivial
          intro j hj k hk
          obtain rfl : k = 0 := by omega
          simp [mtL, mt, ix]
        rintro r0 H1 ⟨cap3, hcap3, rfl, rfl⟩
        refine sxo ?_
        try with_reducible exact trivial
        simp only [hQl]
        refine ⟨_, _, [0, 1, 5], ?_, ?_, ?_, cap3, hcap3, rfl, rfl⟩
        · refine sxo ?_
          try with_reducible exact trivial
        · kernel_rfl
        · refine sxo ?_
          try with_reducible exact trivial
      repeat (with_reducible refine And.intro (by omega) ?_)
      intro cap hcap
      repeat (with_reducible refine And.intro (by omega) ?_)
      refine .inr ?_
      repeat (with_reducible refine And.intro (by omega) ?_)
      intro cap2 hcap2
      have hf := fill_sp length l (p.take m ++ [ix p m - 1]) c cap2 ho h0 h1 (by omega) q1 (by omega)
      rw [← hQ, hbl] at hf
      refine sp_at hf [0, 5] rfl ?_ ?_ ?_
      · refine sxo ?_
        try with_reducible exact trivial
      · refine sxo ?_
        try with_reducible exact trivial
        rw [hbl]
        intro j hj
        refine ⟨Nat.le_refl _, fun k hk => ?_⟩
        by_cases e : k < m
        · simp [e, ix_take_lt e (Nat.le_of_lt hm), mtL]
        · obtain rfl : k = m := by omega
          simp [ix_take_at (Nat.le_of_lt hm), mtL]
      rintro r0 H1 ⟨cap3, hcap3, rfl, rfl⟩
      refine sxo ?_
      try with_reducible exact trivial
      simp only [hQl]
      refine ⟨_, _, [0, 1, 6], ?_, ?_, ?_, cap3, hcap3, rfl, rfl⟩
      · refine sxo ?_
        try with_reducible exact trivial
      · kernel_rfl
      · refine sxo ?_
        try with_reducible exact trivial
  · have hQ : lessQ length l p = [] := by
      rw [lessQ, lessO, lessB_none fun j hj => r3 j (by omega) hj]; rfl
    rw [hQ]
    refine ⟨_, _, [0, 1, 2], ?_, ?_, ?_, 0, Nat.le_refl _, rfl, rfl⟩
    · refine sxo ?_
      try with_reducible exact trivial
    · kernel_rfl
    · refine sxo ?_
      try with_reducible exact trivial
end Go.Proofs.YtdeaaonppokgkaaGreat.Pat
namespace Go.Proofs.YtdeaaonppokgkaaGreat.Pat
open Go.RowKit
def rFam (n m : Nat) (pats : List (List Int)) : Ob := ⟨3, true, .row 1 m (fun _ => n) (fun _ => 0) (fun k t => [.v (.int .i64 (ix (ix pats k) t))])⟩
attribute [push_cast] rFam
theorem chain_ix {α : Type} [Inhabited α] {f : α → Option α} {t : Option α} : ∀ {E : List α}, chainT f E t → ∀ k, k < E.length → f (ix E k) = if k + 1 < E.length then some (ix E (k + 1)) else t
  | [], _, k, h => by simp at h
  | [a], h, k, hk => by
    obtain rfl : k = 0 := by simpa using hk
    rw [if_neg (by simp), ix_eq (by simp)]
    exact h
  | a :: b :: r, h, 0, hk => by
    rw [if_pos (by simp), ix_eq (by simp), ix_eq (by simp)]
    exact h.1
  | a :: b :: r, h, k + 1, hk => by
    have e : ∀ j, j < (b :: r).length → ix (a :: b :: r) (j + 1) = ix (b :: r) j := fun j hj => by rw [ix_eq (by simpa using hj), ix_eq hj, List.getElem_cons_succ]
    have hk' : k < (b :: r).length := by simpa using hk
    have := chain_ix h.2 k hk'
    rw [e k hk', this]
    by_cases c : k + 1 < (b :: r).length
    · rw [if_pos c, if_pos (by simpa using c), e (k + 1) c]
    · rw [if_neg c, if_neg (by simpa using c)]
/-- The pattern at a place, or none behind the last one. -/
def curE (E : List (List Int)) (k : Nat) : List Int := if k < E.length then ix E k else []
theorem curE_next {l : List Pc} {length : Int} (hp : PosL l) (h0 : 0 ≤ length) {k : Nat} (hk : k < (eachG l length).length) : lessQ length l (curE (eachG l length) k) = curE (eachG l length) (k + 1) := by
  have := chain_ix (each_chain hp h0) k hk
  rw [curE, if_pos hk, lessQ, this, curE]
  split <;> rfl
theorem curE_facts {l : List Pc} {length : Int} (hp : PosL l) (h0 : 0 ≤ length) {k : Nat} (hk : k < (eachG l length).length) : (curE (eachG l length) k).length = l.length ∧ inB l (curE (eachG l length) k) = true ∧ sumL l (curE (eachG l length) k) ≤ length := by
  rw [curE, if_pos hk]
  exact (mem_eachG hp h0).1 (ix_mem hk)
theorem curE_zero {l : List Pc} {length : Int} (hp : PosL l) (h0 : 0 ≤ length) : curE (eachG l length) 0 = fillL length l ∧ 0 < (eachG l length).length := by
  obtain ⟨r, hr⟩ := eachG_head hp h0
  rw [hr, curE, if_pos (by simp), ix_eq (by simp)]
  exact ⟨rfl, by simp⟩
theorem each_sp (length : Int) (l : List Pc) (c : Nat) (ho : orderB l = true) (h0 : 0 ≤ length) (h1 : length ≤ 1048576) (hn : (eachG l length).length ≤ 1000000) :
    Sp Tryz.prog 61 [.v (.int .i64 length), .s 0 0 0 l.length c 2] [rPc l] (fun r H => ∃ oc caps, r = .s 2 0 0 (eachG l length).length oc 1 ∧ H = [rPc l, rFam l.length (eachG l length).length (eachG l length), oOutJ 1 l.length (eachG l length).length oc caps]) := by
  have h200 := order_len ho
  have hpos := posL_of ho
  obtain ⟨hz, hE⟩ := curE_zero hpos h0
  refine sp_wk ?_
  refine sp_of_ex true [] mixed Tryz.call61 Tryz.func61 rfl Tryz.ntmps61 Tryz.results61 (by decide +kernel) rfl ?_
  refine sxo ?_
  try with_reducible exact trivial
  have hfill := fill_sp length l [] c 0 ho h0 h1 (Nat.zero_le _) (by cases l <;> rfl) (by rw [sumL_nil]; exact h0)
  rw [sumL_nil, Int.sub_zero, List.nil_append, List.length_nil, List.drop_zero, ← hz] at hfill
  refine sp_pre_mt (args' := [.v (.int .i64 length), .s 0 0 0 l.length c 2, .s 1 0 0 0 0 1]) (H' := [rPc l, rInt 3 []]) [0, 1] ?_ (by kernel_rfl) ?_ (hfill.mono ?_)
  · refine sxo ?_
    try with_reducible exact trivial
  · refine sxo ?_
    try with_reducible exact trivial
  rintro r0 H1 ⟨cap, hcap, rfl, rfl⟩
  refine sxo ?_
  try with_reducible exact trivial
  have hcl : (curE (eachG l length) 0).length = l.length := (curE_facts hpos h0 hE).1
  refine tr_loop mixed (by kernel_rfl) (fun (x : Nat × (Nat → Nat) × Nat × Nat) => [(5, .s 2 0 0 x.1 x.2.2.1 1), (6, .s 3 0 0 (curE (eachG l length) x.1).length x.2.2.2 1), (0, .v (.int .i64 length)), (1, .s 0 0 0 l.length c 2)])
    (fun x => [rPc l, rFam l.length x.1 (eachG l length), oOutJ 1 l.length x.1 x.2.2.1 x.2.1, rOwn 3 (curE (eachG l length) x.1).length x.2.2.2 (fun k => ix (curE (eachG l length) x.1) k)])
    (fun x => (x.1 ≤ (eachG l length).length ∧ (l.length = 0 → x.1 = 0)) ∧ (curE (eachG l length) x.1).length ≤ x.2.2.2) (fun x => (eachG l length).length - x.1) (0, fun _ => 0, 0, cap) ⟨⟨Nat.zero_le _, fun _ => rfl⟩, by simp only; omega⟩ (Mt.wk (rl := [0, 3, 4, 2]) ⟨by kernel_rfl, ?_, ?_⟩) ?_
  · refine sxo ?_
    try with_reducible exact trivial
    exact hcl
  · refine sxo ?_
    try with_reducible exact trivial
    exact ⟨by omega, fun i hi => by omega⟩
  rintro ⟨k, caps, oc, ccap⟩ ⟨⟨r1, r3⟩, r2⟩
  simp only at r1 r2 r3
  refine sxo ?_
  try with_reducible exact trivial
  refine ⟨fun h => ?_, fun h => ?_⟩
  · have hk : k < (eachG l length).length := by
      by_cases hz0 : l.length = 0
      · rw [r3 hz0]; exact hE
      · apply Decidable.byContradiction
        intro hk
        rw [curE, if_neg hk] at h
        simp at h
        omega
    obtain ⟨f1, f2, f3⟩ := curE_facts hpos h0 hk
    have hnx := curE_next hpos h0 hk
    have hcx : ∀ j, ix (curE (eachG l length) k) j = ix (ix (eachG l length) k) j := fun j => by rw [curE, if_pos hk]
    repeat (with_reducible refine And.intro (by omega) ?_)
    refine .inr ?_
    repeat (with_reducible refine And.intro (by omega) ?_)
    intro cap2 hcap2
    refine ⟨fun hl0 => ?_, fun hl0 => ?_⟩
    · have hk0 : k = 0 := r3 (by omega)
      have hEl : (eachG l length).length = 1 := by
        obtain rfl : l = [] := List.length_eq_zero_iff.1 (by omega)
        rfl
      subst hk0
      refine ⟨_, _, (vwk_mt (r' := .s 5 0 0 1 cap2 1) (H' := [rPc l, rFam l.length 0 (eachG l length), deadOb, rInt 3 (curE (eachG l length) 0), deadOb, ⟨32, false, .row 1 1 (fun _ => 1) (fun _ => cap2) (fun _ _ => [.s 3 0 0 l.length ccap 1])⟩]) [0, 1, 2, 3, 4, 5] ?_ ?_ ?_).trans ((vwk_join 1 3 (by omega) (by omega) ?_).trans (vwk_mt [0, 1, 5] ?_ ?_ ?_)), cap2, fun _ => ccap, rfl, rfl⟩
      · refine sxo ?_
        try with_reducible exact trivial
      · kernel_rfl
      · refine sxo ?_
        try with_reducible exact trivial
        intro i hi k hk
        obtain rfl : k = 0 := by omega
        simp only [f1, Nat.lt_irrefl, decide_false, cond_false]
        refine sxo ?_
        try with_reducible exact trivial
      · refine sxo ?_
        try with_reducible exact trivial
      · refine sxo ?_
        try with_reducible exact trivial
        exact hEl
      · kernel_rfl
      · refine sxo ?_
        try with_reducible exact trivial
        refine ⟨⟨hEl, fun i hi => ⟨?_, fun k hk => absurd hk (by omega)⟩⟩, fun i hi => ⟨by omega, fun k hk => .inr (by omega)⟩⟩
        obtain rfl : i = 0 := by omega
        simp [f1]
    · have hl := less_sp length l (curE (eachG l length) k) c ccap ho h0 h1 f1 f2 f3 r2
      rw [hnx] at hl
      refine sp_at hl [0, 3] rfl ?_ ?_ ?_
      · refine sxo ?_
        try with_reducible exact trivial
      · refine sxo ?_
        try with_reducible exact trivial
      rintro r0 H1 ⟨cap3, hcap3, rfl, rfl⟩
      refine sxo ?_
      try with_reducible exact trivial
      refine lpK_wk (k + 1, (fun i => bif i == k then ccap else caps i), cap2, cap3) ⟨⟨by simp only; omega, fun h => absurd h (by omega)⟩, hcap3⟩ (by simp only; omega) ((swk_join 1 3 (by omega) (by omega) ?_).trans (Mt.wk (rl := [0, 1, 5, 6]) ⟨by kernel_rfl, ?_, ?_⟩))
      · refine sxo ?_
        try with_reducible exact trivial
      · refine sxo ?_
        try with_reducible exact trivial
      · refine sxo ?_
        try with_reducible exact trivial
        refine ⟨fun i hi => ⟨?_, fun j hj => ?_⟩, fun i hi j hj => ?_⟩
        · cases (i == k) <;> simp [f1]
        · by_cases e : i = k
          · subst e
            simp only [beq_self_eq_true, cond_true, hcx, jnL, jn1, mtL, mt, and_true]
          · have eb : (i == k) = false := by simpa using e
            simp only [eb, cond_false, jnL, jn1, mtL, mt, and_true]
        · by_cases e : j < k
          · have eb : (j == k) = false := by simp; omega
            simp only [eb, e, decide_true, cond_true, cond_false]
            refine sxo ?_
            try with_reducible exact trivial
          · obtain rfl : j = k := by omega
            simp only [e, decide_false, beq_self_eq_true, cond_true, cond_false]
            refine sxo ?_
            try with_reducible exact trivial
            exact f1.symm
  · have hk : k = (eachG l length).length := by
      apply Decidable.byContradiction
      intro hk
      exact h (by rw [(curE_facts hpos h0 (show k < _ by omega)).1])
    subst hk
    refine ⟨_, _, vwk_mt [0, 1, 2] ?_ ?_ ?_, oc, caps, rfl, rfl⟩
    · refine sxo ?_
      try with_reducible exact trivial
    · kernel_rfl
    · refine sxo ?_
      try with_reducible exact trivial
end Go.Proofs.YtdeaaonppokgkaaGreat.Pat
namespace Go.Proofs.YtdeaaonppokgkaaGreat.Pat
open Go.RowKit
@[push_cast] theorem vwO_row0 {ty : TypeId} {ro : Bool} {sz N : Nat} {len cap : Nat → Nat} {f : Nat → Nat → List SV} {a : Nat} : vwO ⟨ty, ro, .row sz N len cap f⟩ a = ⟨ty, true, .row sz 1 (fun _ => len a) (fun _ => 0) (fun _ => f a)⟩ := rfl
theorem pick_next {α : Type} [Inhabited α] {E : List α} {F : α → Bool} {i m : Nat} {g : Nat → Nat} (hi : i < E.length) (r2 : m = ((E.take i).filter F).length) (r3 : ∀ k, k < m → g k < E.length ∧ ix E (g k) = ix ((E.take i).filter F) k) :
    (F (ix E i) = true → m + 1 = ((E.take (i + 1)).filter F).length ∧ ∀ k, k < m + 1 → (bif k == m then i else g k) < E.length ∧ ix E (bif k == m then i else g k) = ix ((E.take (i + 1)).filter F) k) ∧ (F (ix E i) = false → (E.take (i + 1)).filter F = (E.take i).filter F) := by
  have htk : E.take (i + 1) = E.take i ++ [ix E i] := by rw [List.take_add_one, List.getElem?_eq_getElem hi, ix_eq hi]; rfl
  constructor
  · intro hF
    have e : (E.take (i + 1)).filter F = (E.take i).filter F ++ [ix E i] := by rw [htk, List.filter_append]; simp [hF]
    rw [e]
    refine ⟨by simp [r2], fun k hk => ?_⟩
    by_cases c : k = m
    · rw [show (k == m) = true by simpa using c, cond_true, c, r2, ix_snoc]
      exact ⟨hi, rfl⟩
    · rw [show (k == m) = false by simpa using c, cond_false, ix_app (by omega)]
      exact r3 k (by omega)
  · intro hF
    rw [htk, List.filter_append]
    simp [hF]
/-- The reference's list of maximal patterns. -/
def maxE (length : Int) (l : List Pc) : List (List Int) := (eachG l length).filter fun q => fullB (length - sumL l q) l q
def rAllE (length : Int) (l : List Pc) : Int := if givenE length l l.length ≠ 0 then givenE length l l.length else if 10 < l.length then 6 else if 1000 < (maxE length l).length then 6 else 0
def rAllL (length : Int) (l : List Pc) : List (List Int) := if rAllE length l = 0 then maxE length l else []
/-- A list of members of a family, by their numbers. -/
def oPick (jf n m oc : Nat) (g caps : Nat → Nat) : Ob := ⟨32, false, .row 1 1 (fun _ => m) (fun _ => oc) (fun _ k => [.s jf (g k) 0 n (caps k) 1])⟩
attribute [push_cast] oPick
end Go.Proofs.YtdeaaonppokgkaaGreat.Pat
namespace Go.Proofs.YtdeaaonppokgkaaGreat.Pat
open Go.RowKit
theorem rsum_pu (l : List Pc) (ns : List Int) (c c2 : Nat) (ho : orderB l = true) (hi : inB l ns = true) (he : ns.length = l.length) : Pu Tryz.prog 97 [.s 0 0 0 l.length c 2, .s 1 0 0 ns.length c2 1] [rPc l, rInt 3 ns] (.v (.int .i64 (sumL l ns))) := by
  have h200 := order_len ho
  refine pu_of_ex true [] mixed Tryz.call97 Tryz.func97 rfl Tryz.ntmps97 Tryz.results97 (by decide +kernel) rfl rfl rfl ?_
  refine sxo ?_
  try with_reducible exact trivial
  refine tr_loop0 mixed (by kernel_rfl) (fun (x : Nat × Int) => [(6, .v (.int .i64 x.1)), (5, .v (.int .i64 x.2)), (0, .s 0 0 0 l.length c 2), (1, .s 1 0 0 ns.length c2 1)]) (fun x => x.1 ≤ l.length ∧ 0 ≤ x.2 ∧ x.2 ≤ x.1 * 1048576000000 ∧ sumL l ns = x.2 + sumL (l.drop x.1) (ns.drop x.1)) (fun x => l.length - x.1) (0, 0) ⟨Nat.zero_le _, by omega, by simp, by simp⟩ ?_ ?_
  · refine sxo ?_
    try with_reducible exact trivial
  · rintro ⟨k, m⟩ ⟨hk, hm0, hm1, hr⟩
    simp only at hk hm0 hm1 hr
    refine sxo ?_
    try with_reducible exact trivial
    refine ⟨fun h1 => ?_, fun h1 => ?_⟩
    · rw [sumL_step (by omega) (by omega)] at hr
      obtain ⟨a1, a2, a3, a4⟩ := order_at ho (k := k) (by omega)
      obtain ⟨b1, b2⟩ := inB_at hi k (by omega) (by omega)
      obtain ⟨t1, t2⟩ := term_le (a := (ix l k).len) (b := ix ns k) (by omega) a2 b1 (by omega)
      repeat (with_reducible refine And.intro (by omega) ?_)
      refine lp0_normal (k + 1, m + (ix l k).len * ix ns k) ⟨by simp only; omega, by simp only; omega, by simp only; omega, by simp only; omega⟩ (by simp only; omega) ?_
      refine sxo ?_
      try with_reducible exact trivial
    · have e : k = l.length := by omega
      subst e
      simp only [List.drop_length, sumL] at hr
      rw [hr, Int.add_zero]
theorem rmaximal_pu (length : Int) (l : List Pc) (ns : List Int) (c c2 : Nat) (ho : orderB l = true) (hi : inB l ns = true) (h1 : 0 ≤ length) (h2 : length ≤ 1048576) (he : ns.length = l.length) : Pu Tryz.prog 62 [.v (.int .i64 length), .s 0 0 0 l.length c 2, .s 1 0 0 ns.length c2 1] [rPc l, rInt 3 ns] (.v (.bool (fullB (length - sumL l ns) l ns))) := by
  have h200 := order_len ho
  obtain ⟨s1, s2⟩ := sumL_le ho hi
  refine pu_of_ex true [] mixed Tryz.call62 Tryz.func62 rfl Tryz.ntmps62 Tryz.results62 (by decide +kernel) rfl rfl rfl ?_
  refine sxo ?_
  try with_reducible exact trivial
  refine sp_call (rsum_pu l ns c c2 ho hi he) rfl [0, 1] rfl (by simp only [push_cast, ↓branch_true, ↓branch_false, Nat.reduceBEq, Nat.reduceAdd, Nat.reduceMul, Nat.reduceSub, Int.reduceToNat, reduceCtorEq, branch_decide, branch_not, branch_beq, branch_bne]) (by simp only [push_cast, ↓branch_true, ↓branch_false, Nat.reduceBEq, Nat.reduceAdd, Nat.reduceMul, Nat.reduceSub, Int.reduceToNat, reduceCtorEq, branch_decide, branch_not, branch_beq, branch_bne]) ?_
  refine sxo ?_
  try with_reducible exact trivial
  repeat (with_reducible refine And.intro (by omega) ?_)
  refine tr_loop0 mixed (by kernel_rfl) (fun (k : Nat) => [(8, .v (.int .i64 k)), (7, .v (.int .i64 (length - sumL l ns))), (1, .s 0 0 0 l.length c 2), (2, .s 1 0 0 ns.length c2 1)]) (fun k => k ≤ l.length ∧ fullB (length - sumL l ns) l ns = fullB (length - sumL l ns) (l.drop k) (ns.drop k)) (fun k => l.length - k) 0 ⟨Nat.zero_le _, by simp⟩ ?_ ?_
  · refine sxo ?_
    try with_reducible exact trivial
  · rintro k ⟨hk, hr⟩
    refine sxo ?_
    try with_reducible exact trivial
    refine ⟨fun h1 => ?_, fun h1 => ?_⟩
    · rw [fullB_step (by omega) (by omega)] at hr
      repeat' (with_reducible (first | apply And.intro | intro _))
      all_goals try omega
      · simp [*]
      · refine lp0_normal (k + 1) ⟨by omega, by simp [*]⟩ (by omega) ?_
        refine sxo ?_
        try with_reducible exact trivial
      · refine lp0_normal (k + 1) ⟨by omega, by simp [*]⟩ (by omega) ?_
        refine sxo ?_
        try with_reducible exact trivial
    · have e : k = l.length := by omega
      subst e
      simp only [List.drop_length, fullB] at hr
      rw [hr]
theorem rmaximalM_pu (length : Int) (l : List Pc) (P : List (List Int)) (a : Nat) (c c2 : Nat) (ha : a < P.length) (ho : orderB l = true) (hi : inB l (ix P a) = true) (h1 : 0 ≤ length) (h2 : length ≤ 1048576) (he : (ix P a).length = l.length) :
    Pu Tryz.prog 62 [.v (.int .i64 length), .s 0 0 0 l.length c 2, .s 1 a 0 (ix P a).length c2 1] [rPc l, rLL P] (.v (.bool (fullB (length - sumL l (ix P a)) l (ix P a)))) := by
  refine pu_member 1 a [0, 2] rfl ⟨rfl, ha⟩ ?_ (by kernel_rfl) ?_ (rmaximal_pu length l (ix P a) c c2 ho hi h1 h2 he)
  · refine sxo ?_
    try with_reducible exact trivial
  · refine sxo ?_
    try with_reducible exact trivial
theorem rAll_sp (length : Int) (l : List Pc) (c : Nat) (hl : l.length ≤ 9223372036854775806) (hn : givenE length l l.length = 0 → l.length ≤ 10 → (eachG l length).length ≤ 1000000) :
    Sp Tryz.prog 24 [.v (.int .i64 length), .s 0 0 0 l.length c 2] [rPc l] (fun r H => ∃ nE E g caps oc, r = .t [.s 2 0 0 (rAllL length l).length oc 1, .v (.int .i64 (rAllE length l))] ∧ nE = E.length ∧ (∀ q ∈ E, q.length = l.length) ∧ (∀ k, k < (rAllL length l).length → g k < E.length ∧ ix E (g k) = ix (rAllL length l) k) ∧ H = [rPc l, rFam l.length nE E, oPick 1 l.length (rAllL length l).length oc g caps]) := by
  refine sp_wk ?_
  refine sp_of_ex true [] mixed Tryz.call24 Tryz.func24 rfl Tryz.ntmps24 Tryz.results24 (by decide +kernel) rfl ?_
  refine sxo ?_
  try with_reducible exact trivial
  refine sp_call (rgiven_pu length l.length l c (by omega)) rfl [0] rfl (by simp only [push_cast, ↓branch_true, ↓branch_false, Nat.reduceBEq, Nat.reduceAdd, Nat.reduceMul, Nat.reduceSub, Int.reduceToNat, reduceCtorEq, branch_decide, branch_not, branch_beq, branch_bne]) (by simp only [push_cast, ↓branch_true, ↓branch_false, Nat.reduceBEq, Nat.reduceAdd, Nat.reduceMul, Nat.reduceSub, Int.reduceToNat, reduceCtorEq, branch_decide, branch_not, branch_beq, branch_bne]) ?_
  refine sxo ?_
  try with_reducible exact trivial
  refine ⟨fun hg => ?_, fun hg => ?_⟩
  · obtain ⟨g1, g2, g3, g4⟩ := given_0 hg
    refine ⟨fun hl10 => ?_, fun hl10 => ?_⟩
    · have e1 : rAllE length l = 6 := by unfold rAllE; rw [if_neg (by simp [hg]), if_pos (by omega)]
      have e2 : rAllL length l = [] := by unfold rAllL; rw [if_neg (by rw [e1]; decide)]
      rw [e1, e2]
      refine ⟨_, _, vwk_mt [0, 1, 2] ?_ ?_ ?_, 0, [], fun _ => 0, fun _ => 0, 0, rfl, rfl, (fun q hq => by simp at hq), (fun k hk => by simp at hk), rfl⟩
      · refine sxo ?_
        try with_reducible exact trivial
      · kernel_rfl
      · refine sxo ?_
        try with_reducible exact trivial
        omega
    · have hn := hn hg (by omega)
      have hpos := posL_of g1
      refine sp_at (each_sp length l c g1 (by omega) g3 hn) [0] rfl ?_ ?_ ?_
      · refine sxo ?_
        try with_reducible exact trivial
      · refine sxo ?_
        try with_reducible exact trivial
      rintro r0 H1 ⟨oc0, caps0, rfl, rfl⟩
      refine sxo ?_
      try with_reducible exact trivial
      generalize hE : eachG l length = E at hn
      have hEm : ∀ q ∈ E, q.length = l.length ∧ inB l q = true ∧ sumL l q ≤ length := fun q hq => (mem_eachG hpos (by omega)).1 (by rw [hE]; exact hq)
      refine tr_loop mixed (by kernel_rfl) (fun (x : Nat × Nat × (Nat → Nat) × (Nat → Nat) × Nat) => [(9, .v (.int .i64 x.1)), (8, .s 3 0 0 E.length oc0 1), (7, .s 2 0 0 x.2.1 x.2.2.2.2 1), (0, .v (.int .i64 length)), (1, .s 0 0 0 l.length c 2)])
        (fun x => [rPc l, rFam l.length E.length E, oPick 1 l.length x.2.1 x.2.2.2.2 x.2.2.1 x.2.2.2.1, oOutJ 1 l.length E.length oc0 caps0])
        (fun x => x.1 ≤ E.length ∧ x.2.1 = ((E.take x.1).filter fun q => fullB (length - sumL l q) l q).length ∧ ∀ k, k < x.2.1 → x.2.2.1 k < E.length ∧ ix E (x.2.2.1 k) = ix ((E.take x.1).filter fun q => fullB (length - sumL l q) l q) k)
        (fun x => E.length - x.1) (0, 0, fun _ => 0, fun _ => 0, 0) ⟨Nat.zero_le _, rfl, fun k hk => absurd hk (Nat.not_lt_zero _)⟩ (Mt.wk (rl := [0, 1, 3, 2]) ⟨by kernel_rfl, ?_, ?_⟩) ?_
      · refine sxo ?_
        try with_reducible exact trivial
      · refine sxo ?_
        try with_reducible exact trivial
      rintro ⟨i, m, g, caps, oc⟩ ⟨r1, r2, r3⟩
      simp only at r1 r2 r3
      refine sxo ?_
      try with_reducible exact trivial
      refine ⟨fun h => ?_, fun h => ?_⟩
      · have hi : i < E.length := by omega
        obtain ⟨f1, f2, f3⟩ := hEm _ (ix_mem hi)
        have hml : m ≤ E.length := by
          rw [r2]
          refine Nat.le_trans (List.length_filter_le _ _) ?_
          rw [List.length_take]; omega
        repeat (with_reducible refine And.intro (by omega) ?_)
        refine sp_call (rmaximalM_pu length l E i c (caps0 i) hi g1 f2 (by omega) g3 f1) rfl [0, 1] rfl ?_ ?_ ?_
        · refine sxo ?_
          try with_reducible exact trivial
          exact f1
        · refine sxo ?_
          try with_reducible exact trivial
          exact fun i hi => Nat.le_of_eq (hEm _ (ix_mem hi)).1
        refine sxo ?_
        try with_reducible exact trivial
        refine ⟨fun hf => ?_, fun hf => ?_⟩
        · obtain ⟨s1, s2⟩ := (pick_next hi r2 r3).1 hf
          repeat (with_reducible refine And.intro (by omega) ?_)
          refine .inr ?_
          repeat (with_reducible refine And.intro (by omega) ?_)
          intro cap2 hcap2
          repeat (with_reducible refine And.intro (by omega) ?_)
          refine lpK_normal (i + 1, m + 1, (fun k => bif k == m then i else g k), (fun k => bif k == m then caps0 i else caps k), cap2) [0, 1, 5, 3] ⟨by simp only; omega, s1, s2⟩ (by simp only; omega) (by kernel_rfl) ?_ ?_
          · refine sxo ?_
            try with_reducible exact trivial
          · refine sxo ?_
            try with_reducible exact trivial
            intro j hj k hk
            by_cases e : k < m
            · have eb : (k == m) = false := by simp; omega
              simp only [eb, e, decide_true, cond_true, cond_false]
              refine sxo ?_
              try with_reducible exact trivial
            · obtain rfl : k = m := by omega
              simp only [e, decide_false, beq_self_eq_true, cond_true, cond_false]
              refine sxo ?_
              try with_reducible exact trivial
        · have s1 := (pick_next hi r2 r3).2 hf
          repeat (with_reducible refine And.intro (by omega) ?_)
          refine lpK_normal (i + 1, m, g, caps, oc) [0, 1, 2, 3] ⟨by simp only; omega, by simp only; rw [s1]; exact r2, by simp only; rw [s1]; exact r3⟩ (by simp only; omega) (by kernel_rfl) ?_ ?_
          · refine sxo ?_
            try with_reducible exact trivial
          · refine sxo ?_
            try with_reducible exact trivial
      · obtain rfl : i = E.length := by omega
        rw [List.take_length] at r2 r3
        have hmx : maxE length l = E.filter fun q => fullB (length - sumL l q) l q := by rw [maxE, hE]
        rw [← hmx] at r2 r3
        refine ⟨fun h2 => ?_, fun h2 => ?_⟩
        · have e1 : rAllE length l = 6 := by unfold rAllE; rw [if_neg (by simp [hg]), if_neg (by omega), if_pos (by omega)]
          have e2 : rAllL length l = [] := by unfold rAllL; rw [if_neg (by rw [e1]; decide)]
          rw [e1, e2]
          refine ⟨_, _, vwk_mt [0, 4, 5] ?_ ?_ ?_, 0, [], fun _ => 0, fun _ => 0, 0, rfl, rfl, (fun q hq => by simp at hq), (fun k hk => by simp at hk), rfl⟩
          · refine sxo ?_
            try with_reducible exact trivial
          · kernel_rfl
          · refine sxo ?_
            try with_reducible exact trivial
            omega
        · have e1 : rAllE length l = 0 := by unfold rAllE; rw [if_neg (by simp [hg]), if_neg (by omega), if_neg (by omega)]
          have e2 : rAllL length l = maxE length l := by unfold rAllL; rw [if_pos e1]
          rw [e1, e2]
          refine ⟨_, _, vwk_mt [0, 1, 2] ?_ ?_ ?_, E.length, E, g, caps, oc, rfl, rfl, fun q hq => (hEm q hq).1, fun k hk => r3 k (by omega), rfl⟩
          · refine sxo ?_
            try with_reducible exact trivial
            exact r2.symm
          · kernel_rfl
          · refine sxo ?_
            try with_reducible exact trivial
            exact fun _ _ => Nat.le_of_eq r2.symm
  · have e1 : rAllE length l = givenE length l l.length := by unfold rAllE; rw [if_pos hg]
    have e2 : rAllL length l = [] := by unfold rAllL; rw [if_neg (by rw [e1]; exact hg)]
    rw [e1, e2]
    refine ⟨_, _, vwk_mt [0, 1, 2] ?_ ?_ ?_, 0, [], fun _ => 0, fun _ => 0, 0, rfl, rfl, (fun q hq => by simp at hq), (fun k hk => by simp at hk), rfl⟩
    · refine sxo ?_
      try with_reducible exact trivial
    · kernel_rfl
    · refine sxo ?_
      try with_reducible exact trivial
      omega
end Go.Proofs.YtdeaaonppokgkaaGreat.Pat
