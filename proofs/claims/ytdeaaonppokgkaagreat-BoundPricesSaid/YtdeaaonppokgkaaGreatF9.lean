/- Contract: the search for the best pattern. -/
import Derived.Test.YtdeaaonppokgkaaGreatE9
set_option maxRecDepth 100000
set_option linter.unusedSimpArgs false
set_option linter.unusedVariables false
-- 
namespace Go.Proofs.YtdeaaonppokgkaaGreat.Pat
open Go.RowKit
def downS {σ : Type} (f : Int → σ → σ) : Nat → σ → σ
  | 0, s => f 0 s
  | n + 1, s => downS f n (f (n + 1) s)
/-- What is hoped for. -/
def hopeF (rest : Int) : List Pc → List Int → Int
  | p :: l, q :: qs => mostF p rest * q + hopeF rest l qs
  | _, _ => 0
theorem hopeF_step {rest : Int} {l : List Pc} {qs : List Int} {k : Nat} (h1 : k < l.length) (h2 : k < qs.length) : hopeF rest (l.drop k) (qs.drop k) = mostF (ix l k) rest * ix qs k + hopeF rest (l.drop (k + 1)) (qs.drop (k + 1)) := by
  rw [drop_ix h1, drop_ix h2, hopeF]
theorem most_bound {p : Pc} {rest : Int} (hp : 1 ≤ p.len ∧ p.len ≤ 1048576 ∧ 1 ≤ p.cnt ∧ p.cnt ≤ 1000000) (h0 : 0 ≤ rest) (h1 : rest ≤ 1048576) : 0 ≤ mostF p rest ∧ mostF p rest ≤ 1048576 ∧ mostF p rest ≤ rest / p.len := by
  have hq0 : 0 ≤ rest / p.len := Int.ediv_nonneg h0 (by omega)
  have hq1 : rest / p.len ≤ rest := Int.ediv_le_self _ h0
  unfold mostF
  omega
/-- The best pattern so far, and its price. -/
abbrev Bst := List Int × Int
def dearG : List Pc → List Int → List Int → Int → Int → Bst → Bst
  | p :: ps, q :: qs, pre, rest, price, s =>
    if price + hopeF rest (p :: ps) (q :: qs) ≤ s.2 then s
    else downS (fun n s => dearG ps qs (pre ++ [n]) (rest - n * p.len) (price + n * q) s) (mostF p rest).toNat s
  | _, _, pre, _, price, s => if s.2 < price then (pre, price) else s
theorem downS_next {σ : Type} {f : Int → σ → σ} {n : Int} {s : σ} (h : 0 ≤ n) : downS f n.toNat s = if n - 1 < 0 then f n s else downS f (n - 1).toNat (f n s) := by
  obtain ⟨m, rfl⟩ := Int.eq_ofNat_of_zero_le h
  cases m with
  | zero => simp [downS]
  | succ m =>
    have e : ((m + 1 : Nat) : Int) = (m : Int) + 1 := by omega
    rw [if_neg (by omega), show (((m + 1 : Nat) : Int) - 1).toNat = m by omega, show ((m + 1 : Nat) : Int).toNat = m + 1 by omega, downS, e]
theorem downS_inv {σ : Type} {f : Int → σ → σ} (Q : σ → Prop) (h : ∀ n s, Q s → Q (f n s)) : ∀ (m : Nat) (s : σ), Q s → Q (downS f m s)
  | 0, s, hs => h 0 s hs
  | m + 1, s, hs => downS_inv Q h m _ (h _ s hs)
theorem dearG_ge : ∀ (l : List Pc) (qs pre : List Int) (rest price : Int) (s : Bst), s.2 ≤ (dearG l qs pre rest price s).2
  | [], qs, pre, rest, price, s => by
    simp only [dearG]
    split
    · simp only; omega
    · exact Int.le_refl _
  | p :: l, [], pre, rest, price, s => by
    simp only [dearG]
    split
    · simp only; omega
    · exact Int.le_refl _
  | p :: l, q :: qs, pre, rest, price, s => by
    simp only [dearG]
    split
    · exact Int.le_refl _
    · exact downS_inv (fun t => s.2 ≤ t.2) (fun n t ht => Int.le_trans ht (dearG_ge l qs _ _ _ t)) _ s (Int.le_refl _)
/-- A search that knows a best pattern. -/
def oB (n c np cp bi bl bc : Nat) (most : Int) : Ob := oS n c np cp n (n + 1) (.v (.slice none 0 0)) (.s 5 bi 0 bl bc 1) most
attribute [push_cast] oB
/-- What is known of the best pattern: none yet, or the last of the family. -/
def BstOk (n nb bi bl bc : Nat) (caps : Nat → Nat) (bf : List (List Int)) (s : Bst) : Prop := bf.length = nb ∧ ((bl = 0 ∧ bc = 0 ∧ s.1 = []) ∨ (bi < nb ∧ bl = n ∧ bc = caps bi ∧ s.1 = ix bf bi ∧ s.1.length = n))
set_option pp.deepTerms false in
set_option pp.maxSteps 6000 in
theorem dearest_sp (l : List Pc) (pr : List Int) (c cp : Nat) (ho : orderB l = true) (hpr : pr.length = l.length) (hpq : ∀ q ∈ pr, 0 ≤ q ∧ q ≤ 1073741824) : ∀ (d i : Nat) (rest price : Int) (nf : Nat → Int) (bf : List (List Int)) (caps : Nat → Nat) (bi bl bc : Nat) (s : Bst), i + d = l.length → 0 ≤ rest → rest ≤ 1048576 → 0 ≤ price → price ≤ 1125899906842624 * i → -1 ≤ s.2 → s.2 ≤ 1125899906842624 * l.length →
    BstOk l.length bf.length bi bl bc caps bf s →
    Sp Tryz.prog 76 [.p 4 0 0, .v (.int .i64 i), .v (.int .i64 rest), .v (.int .i64 price)] [rPc l, rInt 3 pr, rOwn 3 l.length l.length nf, rOwn 3 (l.length + 1) (l.length + 1) (fun k => aft (l.drop k)), oB l.length c pr.length cp bi bl bc s.2, oFam l.length bf.length caps bf]
      (fun r H => ∃ nf' bf' caps' bi' bl' bc' s', r = .t [] ∧ (∀ k, k < i → nf' k = nf k) ∧ s' = dearG (l.drop i) (pr.drop i) (preF nf i) rest price s ∧ s'.2 ≤ 1125899906842624 * l.length ∧ BstOk l.length bf'.length bi' bl' bc' caps' bf' s' ∧
        H = [rPc l, rInt 3 pr, rOwn 3 l.length l.length nf', rOwn 3 (l.length + 1) (l.length + 1) (fun k => aft (l.drop k)), oB l.length c pr.length cp bi' bl' bc' s'.2, oFam l.length bf'.length caps' bf']) := by
  have hl := order_len ho
  intro d
  induction d with
  | zero =>
    intro i rest price nf bf caps bi bl bc s hi h0 h1 hp0 hp1 hs hs2 hb
    obtain rfl : i = l.length := by omega
    refine sp_wk ?_
    refine sp_of_ex true [(13, .one 0 (.one 1 (.one 2 (.one 3 (.one 4 (.one 5 (.one 6 (.one 7 (.one 9 (.one 15 (.one 16 (.one 17 (.one 18 (.one 19 (.one 21 (.alt [(8, .one 10 (.one 11 (.alt [(12, .one 13 (.one 14 (.one 20 (.one 22 (.one 23 (.one 24 (.one 25 (.one 26 .fin)))))))), (20, .one 22 (.alt [(12, .one 13 (.one 14 (.one 23 (.one 24 (.one 25 (.one 26 .fin)))))), (23, .one 24 (.one 25 (.one 12 (.one 13 (.one 14 (.one 26 .fin))))))]))]))), (20, .one 22 (.alt [(8, .one 10 (.one 11 (.alt [(12, .one 13 (.one 14 (.one 23 (.one 24 (.one 25 (.one 26 .fin)))))), (23, .one 24 (.one 25 (.one 12 (.one 13 (.one 14 (.one 26 .fin))))))]))), (23, .one 24 (.one 25 (.one 8 (.one 10 (.one 11 (.one 12 (.one 13 (.one 14 (.one 26 .fin)))))))))]))]))))))))))))))))] mixed Tryz.call76 Tryz.func76 rfl Tryz.ntmps76 Tryz.results76 (by decide +kernel) rfl ?_
    refine sxo ?_
    try with_reducible exact trivial
    refine ⟨fun h => ?_, fun h => ?_⟩
    · refine sp_at (clone_sp false l.length l.length l.length nf (Nat.le_refl _) (by omega)) [2] rfl ?_ ?_ ?_
      · refine sxo ?_
        try with_reducible exact trivial
      · refine sxo ?_
        try with_reducible exact trivial
      · rintro r0 H1 ⟨cap, hcap, rfl, rfl⟩
        refine sxo ?_
        try with_reducible exact trivial
        refine ⟨_, _, (vwk_join 5 6 (by omega) (by omega) ?_).trans (vwk_mt [0, 1, 2, 3, 4, 5] ?_ ?_ ?_), nf, bf ++ [preF nf l.length], fun k => bif k == bf.length then cap else caps k, bf.length, l.length, cap, (preF nf l.length, price), rfl, fun k hk => rfl, ?_, ?_, ?_, rfl⟩
        · refine sxo ?_
          try with_reducible exact trivial
        · refine sxo ?_
          try with_reducible exact trivial
        · kernel_rfl
        · have hlen : (bf ++ [preF nf l.length]).length = bf.length + 1 := by simp
          refine sxo ?_
          try with_reducible exact trivial
          refine ⟨hlen, fun i hi => ⟨by cases (i == bf.length) <;> simp, fun k hk => ?_⟩⟩
          by_cases e : i = bf.length
          · subst e
            simp only [beq_self_eq_true, cond_true, ix_snoc, preF_ix _ _ _ hk, jnL, jn1, mtL, mt, and_true]
          · have eb : (i == bf.length) = false := by simpa using e
            simp only [eb, cond_false, ix_app (show i < bf.length by omega), jnL, jn1, mtL, mt, and_true]
        · rw [List.drop_length, dearG, if_pos (by omega)]
          all_goals simp
        · simp only; omega
        · refine ⟨rfl, .inr ⟨by simp, rfl, by simp, by rw [ix_snoc], preF_len _ _⟩⟩
    · refine ⟨_, _, vwk_mt [0, 1, 2, 3, 4, 5] ?_ ?_ ?_, nf, bf, caps, bi, bl, bc, s, rfl, fun k hk => rfl, ?_, hs2, hb, rfl⟩
      · refine sxo ?_
        try with_reducible exact trivial
      · kernel_rfl
      · refine sxo ?_
        try with_reducible exact trivial
      · rw [List.drop_length, dearG, if_neg (by omega)]
        all_goals simp
  | succ d ih =>
    intro i rest price nf bf caps bi bl bc s hi h0 h1 hp0 hp1 hs hs2 hb
    have hk : i < l.length := by omega
    have hat := order_at ho hk
    refine sp_wk ?_
    refine sp_of_ex true [(13, .one 0 (.one 1 (.one 2 (.one 3 (.one 4 (.one 5 (.one 6 (.one 7 (.one 9 (.one 15 (.one 16 (.one 17 (.one 18 (.one 19 (.one 21 (.alt [(8, .one 10 (.one 11 (.alt [(12, .one 13 (.one 14 (.one 20 (.one 22 (.one 23 (.one 24 (.one 25 (.one 26 .fin)))))))), (20, .one 22 (.alt [(12, .one 13 (.one 14 (.one 23 (.one 24 (.one 25 (.one 26 .fin)))))), (23, .one 24 (.one 25 (.one 12 (.one 13 (.one 14 (.one 26 .fin))))))]))]))), (20, .one 22 (.alt [(8, .one 10 (.one 11 (.alt [(12, .one 13 (.one 14 (.one 23 (.one 24 (.one 25 (.one 26 .fin)))))), (23, .one 24 (.one 25 (.one 12 (.one 13 (.one 14 (.one 26 .fin))))))]))), (23, .one 24 (.one 25 (.one 8 (.one 10 (.one 11 (.one 12 (.one 13 (.one 14 (.one 26 .fin)))))))))]))]))))))))))))))))] mixed Tryz.call76 Tryz.func76 rfl Tryz.ntmps76 Tryz.results76 (by decide +kernel) rfl ?_
    refine sxo ?_
    try with_reducible exact trivial
    refine ⟨fun h => by omega, fun _ => ?_⟩
    refine tr_loop0 mixed (by kernel_rfl) (fun (x : Nat × Int) => [(9, .v (.int .i64 x.1)), (8, .v (.int .i64 x.2)), (0, .p 4 0 0), (1, .v (.int .i64 i)), (2, .v (.int .i64 rest)), (3, .v (.int .i64 price))]) (fun x => i ≤ x.1 ∧ x.1 ≤ l.length ∧ 0 ≤ x.2 ∧ x.2 ≤ 1125899906842624 * x.1 ∧ price + hopeF rest (l.drop i) (pr.drop i) = x.2 + hopeF rest (l.drop x.1) (pr.drop x.1)) (fun x => l.length - x.1) (i, price) ⟨Nat.le_refl _, by simp only; omega, hp0, hp1, rfl⟩ ?_ ?_
    · refine sxo ?_
      try with_reducible exact trivial
    · rintro ⟨k, m⟩ ⟨r1, r2, r3, r4, r5⟩
      simp only at r1 r2 r3 r4 r5
      refine sxo ?_
      try with_reducible exact trivial
      refine ⟨fun h => ?_, fun h => ?_⟩
      · have hk2 : k < l.length := by omega
        have hat2 := order_at ho hk2
        have htd : rest.tdiv (ix l k).len = rest / (ix l k).len := Int.tdiv_eq_ediv_of_nonneg h0
        have hM : min (ix l k).cnt (rest / (ix l k).len) = mostF (ix l k) rest := rfl
        obtain ⟨m0, m1, m2⟩ := most_bound hat2 h0 h1
        have hq := hpq _ (ix_mem (l := pr) (k := k) (by omega))
        have b1 : 0 ≤ mostF (ix l k) rest * ix pr k := Int.mul_nonneg m0 hq.1
        have b2 : mostF (ix l k) rest * ix pr k ≤ 1048576 * 1073741824 := Int.mul_le_mul m1 hq.2 hq.1 (by omega)
        have hst := hopeF_step (rest := rest) hk2 (show k < pr.length by omega)
        simp only [htd, hM]
        have hq0 : 0 ≤ rest / (ix l k).len := Int.ediv_nonneg h0 (by omega)
        have hq1 : rest / (ix l k).len ≤ rest := Int.ediv_le_self _ h0
        repeat (with_reducible refine And.intro (by omega) ?_)
        refine lp0_normal (k + 1, m + mostF (ix l k) rest * ix pr k) ⟨by simp only; omega, by simp only; omega, by simp only; omega, by simp only; push_cast; omega, ?_⟩ (by simp only; omega) ?_
        · simp only
          rw [r5, hst]
          omega
        · refine sxo ?_
          try with_reducible exact trivial
      · obtain rfl : k = l.length := by omega
        have hh : hopeF rest (l.drop l.length) (pr.drop l.length) = 0 := by rw [List.drop_length]; rfl
        rw [hh, Int.add_zero] at r5
        refine ⟨fun hle => ?_, fun hgt => ?_⟩
        · refine ⟨_, _, vwk_mt [0, 1, 2, 3, 4, 5] ?_ ?_ ?_, nf, bf, caps, bi, bl, bc, s, rfl, fun k hk => rfl, ?_, hs2, hb, rfl⟩
          · refine sxo ?_
            try with_reducible exact trivial
          · kernel_rfl
          · refine sxo ?_
            try with_reducible exact trivial
          · rw [drop_ix hk, drop_ix (show i < pr.length by omega), dearG, ← drop_ix hk, ← drop_ix (show i < pr.length by omega), if_pos (by omega)]
        · have hat := order_at ho hk
          have htd : rest.tdiv (ix l i).len = rest / (ix l i).len := Int.tdiv_eq_ediv_of_nonneg h0
          have hq0 : 0 ≤ rest / (ix l i).len := Int.ediv_nonneg h0 (by omega)
          have hq1 : rest / (ix l i).len ≤ rest := Int.ediv_le_self _ h0
          have hM : min (ix l i).cnt (rest / (ix l i).len) = mostF (ix l i) rest := rfl
          obtain ⟨m0, m1, m2⟩ := most_bound hat h0 h1
          have hq := hpq _ (ix_mem (l := pr) (k := i) (by omega))
          have htot : dearG (l.drop i) (pr.drop i) (preF nf i) rest price s = downS (fun n s => dearG (l.drop (i + 1)) (pr.drop (i + 1)) (preF nf i ++ [n]) (rest - n * (ix l i).len) (price + n * ix pr i) s) (mostF (ix l i) rest).toNat s := by
            rw [drop_ix hk, drop_ix (show i < pr.length by omega), dearG, ← drop_ix hk, ← drop_ix (show i < pr.length by omega), if_neg (by omega)]
          rw [htot]
          clear htot
          simp only [htd, hM]
          generalize mostF (ix l i) rest = M at m0 m1 m2
          generalize hf : (fun n s => dearG (l.drop (i + 1)) (pr.drop (i + 1)) (preF nf i ++ [n]) (rest - n * (ix l i).len) (price + n * ix pr i) s) = f
          repeat (with_reducible refine And.intro (by omega) ?_)
          refine tr_loop mixed (by kernel_rfl) (fun (x : Int × (Nat → Int) × List (List Int) × (Nat → Nat) × Nat × Nat × Nat × Bst) => [(10, .v (.int .i64 x.1)), (0, .p 4 0 0), (1, .v (.int .i64 i)), (2, .v (.int .i64 rest)), (3, .v (.int .i64 price))])
            (fun x => [rPc l, rInt 3 pr, rOwn 3 l.length l.length x.2.1, rOwn 3 (l.length + 1) (l.length + 1) (fun k => aft (l.drop k)), oB l.length c pr.length cp x.2.2.2.2.1 x.2.2.2.2.2.1 x.2.2.2.2.2.2.1 x.2.2.2.2.2.2.2.2, oFam l.length x.2.2.1.length x.2.2.2.1 x.2.2.1])
            (fun x => -1 ≤ x.1 ∧ x.1 ≤ M ∧ (∀ k, k < i → x.2.1 k = nf k) ∧ -1 ≤ x.2.2.2.2.2.2.2.2 ∧ x.2.2.2.2.2.2.2.2 ≤ 1125899906842624 * l.length ∧ BstOk l.length x.2.2.1.length x.2.2.2.2.1 x.2.2.2.2.2.1 x.2.2.2.2.2.2.1 x.2.2.2.1 x.2.2.1 x.2.2.2.2.2.2.2 ∧ downS f M.toNat s = (if x.1 < 0 then x.2.2.2.2.2.2.2 else downS f x.1.toNat x.2.2.2.2.2.2.2))
            (fun x => (x.1 + 1).toNat) (M, nf, bf, caps, bi, bl, bc, s) ⟨by simp only; omega, by simp only; omega, fun k hk => rfl, hs, hs2, hb, by simp only; rw [if_neg (by omega)]⟩ (Mt.wk (rl := [0, 1, 2, 3, 4, 5]) ⟨by kernel_rfl, ?_, ?_⟩) ?_
          · refine sxo ?_
            try with_reducible exact trivial
          · refine sxo ?_
            try with_reducible exact trivial
          rintro ⟨n, nf1, bf1, caps1, bi1, bl1, bc1, s1⟩ ⟨r1, r2, r3, r4, r4b, r5, r6⟩
          simp only at r1 r2 r3 r4 r4b r5 r6
          refine sxo ?_
          try with_reducible exact trivial
          refine ⟨fun hn0 => ?_, fun hn0 => ?_⟩
          · have k0 : 0 ≤ n * (ix l i).len := Int.mul_nonneg hn0 (by omega)
            have k1 : n * (ix l i).len ≤ rest := Int.mul_le_of_le_ediv (by omega) (by omega)
            have k2 : 0 ≤ n * ix pr i := Int.mul_nonneg hn0 hq.1
            have k3 : n * ix pr i ≤ 1048576 * 1073741824 := Int.mul_le_mul (by omega) hq.2 hq.1 (by omega)
            rw [if_neg (by omega)] at r6
            repeat (with_reducible refine And.intro (by omega) ?_)
            repeat' (with_reducible apply And.intro)
            all_goals try omega
            all_goals
              have ih' := ih (i + 1) (rest - n * (ix l i).len) (price + n * ix pr i) (fun k => if k = i then n else nf1 k) bf1 caps1 bi1 bl1 bc1 s1 (by omega) (by omega) (by omega) (by omega) (by push_cast; omega) r4 r4b r5
              have hpre : preF (fun k => if k = i then n else nf1 k) (i + 1) = preF nf i ++ [n] := preF_next nf nf1 i n r3
              have hfn : f n s1 = dearG (l.drop (i + 1)) (pr.drop (i + 1)) (preF nf i ++ [n]) (rest - n * (ix l i).len) (price + n * ix pr i) s1 := by rw [← hf]
              rw [hpre, ← hfn] at ih'
              refine sp_at ih' [0, 1, 2, 3, 4, 5] rfl ?_ ?_ ?_
              · refine sxo ?_
                try with_reducible exact trivial
              · refine sxo ?_
                try with_reducible exact trivial
                intro j hj k hk
                obtain rfl : j = 0 := by omega
                (by_cases e : k = i; (simp [e, mtL]); (simp [e, beq_false_of_ne e, mtL]))
              · rintro r0 H1 ⟨nf2, bf2, caps2, bi2, bl2, bc2, s2, rfl, q1, q2, q2b, q3, rfl⟩
                have q5 : ∀ k, k < i → nf2 k = nf k := fun k hk => by
                  rw [q1 k (by omega), if_neg (by omega), r3 k hk]
                have q6 : s1.2 ≤ s2.2 := by rw [q2, hfn]; exact dearG_ge _ _ _ _ _ _
                refine sxo ?_
                try with_reducible exact trivial
                repeat (with_reducible refine And.intro (by omega) ?_)
                refine lpK_normal (n - 1, nf2, bf2, caps2, bi2, bl2, bc2, s2) [0, 1, 2, 3, 4, 5] ⟨by simp only; omega, by simp only; omega, q5, by simp only; omega, q2b, q3, ?_⟩ (by simp only; omega) (by kernel_rfl) ?_ ?_
                · simp only
                  rw [r6, downS_next hn0, ← q2]
                · refine sxo ?_
                  try with_reducible exact trivial
                · refine sxo ?_
                  try with_reducible exact trivial
          · have hn1 : n < 0 := by omega
            rw [if_pos hn1] at r6
            repeat (with_reducible refine And.intro (by omega) ?_)
            refine ⟨_, _, vwk_mt [0, 1, 2, 3, 4, 5] ?_ ?_ ?_, fun k => if k = i then 0 else nf1 k, bf1, caps1, bi1, bl1, bc1, s1, rfl, fun k hk => by show (if k = i then 0 else nf1 k) = nf k; rw [if_neg (by omega), r3 k hk], r6.symm, r4b, r5, rfl⟩
            · refine sxo ?_
              try with_reducible exact trivial
            · kernel_rfl
            · refine sxo ?_
              try with_reducible exact trivial
              intro j hj k hk
              obtain rfl : j = 0 := by omega
              (by_cases e : k = i; (simp [e, mtL]); (simp [e, beq_false_of_ne e, mtL]))
end Go.Proofs.YtdeaaonppokgkaaGreat.Pat
