/- Contract: the search for all maximal patterns. -/
import Derived.Test.YtdeaaonppokgkaaGreatGF
set_option maxRecDepth 100000
set_option linter.unusedSimpArgs false
set_option linter.unusedVariables false
-- 
namespace Go.Proofs.YtdeaaonppokgkaaGreat.Pat
open Go.RowKit
def mostF (p : Pc) (rest : Int) : Int := min p.cnt (rest / p.len)
def downG {α : Type} (g : Int → List α) (stop : Int → Bool) : Nat → List α
  | 0 => if stop 0 then [] else g 0
  | n + 1 => if stop (n + 1) then [] else g (n + 1) ++ downG g stop n
def stopF (p : Pc) (ps : List Pc) (rest m n : Int) : Bool := decide (n < m) && decide (p.len ≤ rest - n * p.len - aft ps)
/-- The maximal patterns, by what comes first. -/
def allG (L : List Pc) : List Pc → List Int → Int → List (List Int)
  | [], pre, rest => bif fullB rest L pre then [pre] else []
  | p :: ps, pre, rest => downG (fun n => allG L ps (pre ++ [n]) (rest - n * p.len)) (stopF p ps rest (mostF p rest)) (mostF p rest).toNat
def preF (nf : Nat → Int) (i : Nat) : List Int := (List.range i).map nf
theorem preF_len (nf : Nat → Int) (i : Nat) : (preF nf i).length = i := by simp [preF]
theorem preF_ix (nf : Nat → Int) (i k : Nat) (h : k < i) : ix (preF nf i) k = nf k := by
  rw [ix_eq (by simpa [preF] using h)]
  simp [preF]
theorem ix_snoc {α : Type} [Inhabited α] (l : List α) (a : α) : ix (l ++ [a]) l.length = a := by
  rw [ix_eq (by simp)]; simp
theorem ix_app {α : Type} [Inhabited α] {l : List α} {a : α} {k : Nat} (h : k < l.length) : ix (l ++ [a]) k = ix l k := by
  rw [ix_eq (by simp; omega), ix_eq h, List.getElem_append_left h]
theorem preF_next (nf nf1 : Nat → Int) (i : Nat) (n : Int) (h : ∀ k, k < i → nf1 k = nf k) : preF (fun k => if k = i then n else nf1 k) (i + 1) = preF nf i ++ [n] := by
  unfold preF
  rw [List.range_succ, List.map_append]
  congr 1
  · refine List.map_congr_left fun k hk => ?_
    have := List.mem_range.1 hk
    rw [if_neg (by omega), h k this]
  · simp
theorem downG_next {α : Type} {g : Int → List α} {stop : Int → Bool} {n : Int} (h : 0 ≤ n) (hs : stop n = false) : downG g stop n.toNat = g n ++ (if n - 1 < 0 then [] else downG g stop (n - 1).toNat) := by
  obtain ⟨m, rfl⟩ := Int.eq_ofNat_of_zero_le h
  cases m with
  | zero =>
    have hs : stop 0 = false := hs
    simp [downG, hs]
  | succ m =>
    have e : ((m + 1 : Nat) : Int) = (m : Int) + 1 := by omega
    rw [if_neg (by omega), show (((m + 1 : Nat) : Int) - 1).toNat = m by omega, show ((m + 1 : Nat) : Int).toNat = m + 1 by omega, downG]
    rw [e] at hs ⊢
    simp [hs]
theorem downG_stop {α : Type} {g : Int → List α} {stop : Int → Bool} {n : Int} (h : 0 ≤ n) (hs : stop n = true) : downG g stop n.toNat = [] := by
  obtain ⟨m, rfl⟩ := Int.eq_ofNat_of_zero_le h
  cases m with
  | zero =>
    have hs : stop 0 = true := hs
    simp [downG, hs]
  | succ m =>
    have e : ((m + 1 : Nat) : Int) = (m : Int) + 1 := by omega
    rw [show ((m + 1 : Nat) : Int).toNat = m + 1 by omega, downG]
    rw [e] at hs
    simp [hs]
/-- A search that has found patterns. -/
def oA (n c np cp j m oc : Nat) : Ob := oS n c np cp n (n + 1) (.s j 0 0 m oc 1) (.v (.slice none 0 0)) (-1)
def oOut (n m oc : Nat) (caps : Nat → Nat) : Ob := ⟨32, false, .row 1 1 (fun _ => m) (fun _ => oc) (fun _ k => [.s 6 k 0 n (caps k) 1])⟩
def oFam (n m : Nat) (caps : Nat → Nat) (pats : List (List Int)) : Ob := ⟨3, false, .row 1 m (fun _ => n) caps (fun k t => [.v (.int .i64 (ix (ix pats k) t))])⟩
attribute [push_cast] oA oOut oFam
set_option pp.deepTerms false in
set_option pp.maxSteps 6000 in
theorem all_sp (l : List Pc) (pr : List Int) (c cp : Nat) (ho : orderB l = true) : ∀ (d i : Nat) (rest : Int) (nf : Nat → Int) (pats : List (List Int)) (caps : Nat → Nat) (oc : Nat), i + d = l.length → 0 ≤ rest → rest ≤ 1048576 → pats.length ≤ 1000 → (∀ q ∈ pats, q.length = l.length) →
    Sp Tryz.prog 51 [.p 4 0 0, .v (.int .i64 i), .v (.int .i64 rest)] [rPc l, rInt 3 pr, rOwn 3 l.length l.length nf, rOwn 3 (l.length + 1) (l.length + 1) (fun k => aft (l.drop k)), oA l.length c pr.length cp 5 pats.length oc, oOut l.length pats.length oc caps, oFam l.length pats.length caps pats]
      (fun r H => ∃ b nf' pats' caps' oc', r = .v (.bool b) ∧ (∀ k, k < i → nf' k = nf k) ∧ (∀ q ∈ pats', q.length = l.length) ∧ (b = true → pats' = pats ++ allG l (l.drop i) (preF nf i) rest ∧ pats'.length ≤ 1000) ∧ (b = false → 1000 < (pats ++ allG l (l.drop i) (preF nf i) rest).length) ∧
        H = [rPc l, rInt 3 pr, rOwn 3 l.length l.length nf', rOwn 3 (l.length + 1) (l.length + 1) (fun k => aft (l.drop k)), oA l.length c pr.length cp 7 pats'.length oc', deadOb, oFam l.length pats'.length caps' pats', oOut l.length pats'.length oc' caps']) := by
  have hl := order_len ho
  intro d
  induction d with
  | zero =>
    intro i rest nf pats caps oc hi h0 h1 hp hq
    obtain rfl : i = l.length := by omega
    refine sp_wk ?_
    refine sp_of_ex true [(3, .one 0 (.one 1 (.one 2 (.one 3 (.one 5 (.one 6 (.one 7 (.alt [(4, .one 8 (.one 9 (.one 10 (.one 11 (.one 12 (.one 13 (.one 14 .fin))))))), (8, .alt [(4, .one 9 (.one 10 (.one 11 (.one 12 (.one 13 (.one 14 .fin)))))), (9, .alt [(4, .one 10 (.one 11 (.one 12 (.one 13 (.one 14 .fin))))), (10, .one 4 (.one 11 (.one 12 (.one 13 (.one 14 .fin)))))])])]))))))))] mixed Tryz.call51 Tryz.func51 rfl Tryz.ntmps51 Tryz.results51 (by decide +kernel) rfl ?_
    refine sxo ?_
    try with_reducible exact trivial
    refine qc_call (full_pu rest l (preF nf l.length) c l.length (by omega) (preF_len _ _)) rfl [0, 2] rfl ?_ ?_ ?_
    · rw [preF_len]
      refine sxo ?_
      try with_reducible exact trivial
    · refine sxo ?_
      try with_reducible exact trivial
      rw [preF_len]
      exact fun j hj => ⟨Nat.le_refl _, fun k hk => by rw [preF_ix _ _ _ hk]⟩
    · refine sxo ?_
      try with_reducible exact trivial
      simp only [branch]
      refine ⟨fun hf => ?_, fun hf => ?_⟩
      · have hall : allG l (l.drop l.length) (preF nf l.length) rest = [preF nf l.length] := by
          rw [List.drop_length, allG, hf]; rfl
        have hlen : (pats ++ [preF nf l.length]).length = pats.length + 1 := by simp
        repeat' (with_reducible (first | apply And.intro | intro _))
        all_goals
          refine sp_at (clone_sp false l.length l.length l.length nf (Nat.le_refl _) (by omega)) [2] rfl ?_ ?_ ?_
          · refine sxo ?_
            try with_reducible exact trivial
          · refine sxo ?_
            try with_reducible exact trivial
          · rintro r0 H1 ⟨cap, hcap, rfl, rfl⟩
            refine sxo ?_
            try with_reducible exact trivial
            repeat' (with_reducible apply And.intro)
            all_goals try omega
            all_goals
              refine .inr ⟨by omega, by omega, by omega, fun cap2 hcap2 => ?_⟩
              refine ⟨_, _, (vwk_join 6 7 (by omega) (by omega) ?_).trans (vwk_mt [0, 1, 2, 3, 4, 5, 6, 9] ?_ ?_ ?_), decide (pats.length + 1 ≤ 1000), nf, pats ++ [preF nf l.length], fun k => bif k == pats.length then cap else caps k, cap2, rfl, fun k hk => rfl, ?_, ?_, ?_, rfl⟩
              · refine sxo ?_
                try with_reducible exact trivial
              · refine sxo ?_
                try with_reducible exact trivial
                simp only [Value.bool.injEq, decide_eq_decide]
                omega
              · kernel_rfl
              · refine sxo ?_
                try with_reducible exact trivial
                refine ⟨hlen, ⟨hlen, fun i hi => ⟨by cases (i == pats.length) <;> simp, fun k hk => ?_⟩⟩, fun i hi => ⟨by omega, fun k hk => ?_⟩⟩
                · by_cases e : i = pats.length
                  · subst e
                    simp only [beq_self_eq_true, cond_true, ix_snoc, preF_ix _ _ _ hk, jnL, jn1, mtL, mt, and_true]
                  · have eb : (i == pats.length) = false := by simpa using e
                    simp only [eb, cond_false, ix_app (show i < pats.length by omega), jnL, jn1, mtL, mt, and_true]
                · by_cases e : k < pats.length
                  · have eb : (k == pats.length) = false := by simp; omega
                    simp only [eb, e, decide_true, cond_true, cond_false]
                    refine sxo ?_
                    try with_reducible exact trivial
                  · obtain rfl : k = pats.length := by omega
                    simp only [e, decide_false, beq_self_eq_true, cond_true, cond_false]
                    refine sxo ?_
                    try with_reducible exact trivial
              · intro q hq'
                rcases List.mem_append.1 hq' with h | h
                · exact hq q h
                · simp only [List.mem_singleton] at h
                  rw [h, preF_len]
              · intro hb
                refine ⟨by rw [hall], ?_⟩
                simp only [decide_eq_true_eq] at hb
                omega
              · intro hb
                rw [hall]
                simp only [decide_eq_false_iff_not] at hb
                omega
      · have hall : allG l (l.drop l.length) (preF nf l.length) rest = [] := by
          rw [List.drop_length, allG, hf]; rfl
        refine ⟨_, _, vwk_mt [0, 1, 2, 3, 4, 5, 6, 5] ?_ ?_ ?_, true, nf, pats, caps, oc, rfl, fun k hk => rfl, hq, fun _ => ?_, (fun h => by cases h), rfl⟩
        · refine sxo ?_
          try with_reducible exact trivial
          simp only [Value.bool.injEq]
          exact (decide_eq_true (by omega)).symm
        · kernel_rfl
        · refine sxo ?_
          try with_reducible exact trivial
          trace_state
        · rw [hall]
          exact ⟨by simp, hp⟩
  | succ d ih =>
    intro i rest nf pats caps oc hi h0 h1 hp hq
    have hk : i < l.length := by omega
    have hat := order_at ho hk
    refine sp_wk ?_
    refine sp_of_ex true [(3, .one 0 (.one 1 (.one 2 (.one 3 (.one 5 (.one 6 (.one 7 (.alt [(4, .one 8 (.one 9 (.one 10 (.one 11 (.one 12 (.one 13 (.one 14 .fin))))))), (8, .alt [(4, .one 9 (.one 10 (.one 11 (.one 12 (.one 13 (.one 14 .fin)))))), (9, .alt [(4, .one 10 (.one 11 (.one 12 (.one 13 (.one 14 .fin))))), (10, .one 4 (.one 11 (.one 12 (.one 13 (.one 14 .fin)))))])])]))))))))] mixed Tryz.call51 Tryz.func51 rfl Tryz.ntmps51 Tryz.results51 (by decide +kernel) rfl ?_
    refine sxo ?_
    try with_reducible exact trivial
    refine ⟨fun h => by omega, fun _ => ?_⟩
    have htd : rest.tdiv (ix l i).len = rest / (ix l i).len := Int.tdiv_eq_ediv_of_nonneg h0
    have hq0 : 0 ≤ rest / (ix l i).len := Int.ediv_nonneg h0 (by omega)
    have hq1 : rest / (ix l i).len ≤ rest := Int.ediv_le_self _ h0
    rw [htd]
    repeat (with_reducible refine And.intro (by omega) ?_)
    generalize hM : mostF (ix l i) rest = M
    have hM0 : 0 ≤ M ∧ M ≤ (ix l i).cnt ∧ M ≤ rest / (ix l i).len := by
      rw [← hM]; unfold mostF; omega
    generalize hg : (fun n => allG l (l.drop (i + 1)) (preF nf i ++ [n]) (rest - n * (ix l i).len)) = g
    generalize hs : stopF (ix l i) (l.drop (i + 1)) rest M = stop
    have htot : allG l (l.drop i) (preF nf i) rest = downG g stop M.toNat := by
      rw [drop_ix hk, allG, hM, hg, hs]
    refine tr_loop mixed (by kernel_rfl) (fun (x : Int × (Nat → Int) × List (List Int) × (Nat → Nat) × Nat) => [(8, .v (.int .i64 x.1)), (7, .v (.int .i64 M)), (0, .p 4 0 0), (1, .v (.int .i64 i)), (2, .v (.int .i64 rest))])
      (fun x => [rPc l, rInt 3 pr, rOwn 3 l.length l.length x.2.1, rOwn 3 (l.length + 1) (l.length + 1) (fun k => aft (l.drop k)), oA l.length c pr.length cp 7 x.2.2.1.length x.2.2.2.2, deadOb, oFam l.length x.2.2.1.length x.2.2.2.1 x.2.2.1, oOut l.length x.2.2.1.length x.2.2.2.2 x.2.2.2.1])
      (fun x => -1 ≤ x.1 ∧ x.1 ≤ M ∧ (∀ k, k < i → x.2.1 k = nf k) ∧ x.2.2.1.length ≤ 1000 ∧ (∀ q ∈ x.2.2.1, q.length = l.length) ∧ pats ++ downG g stop M.toNat = x.2.2.1 ++ (if x.1 < 0 then [] else downG g stop x.1.toNat))
      (fun x => (x.1 + 1).toNat) (M, nf, pats, caps, oc) ⟨by simp only; omega, by simp only; omega, fun k hk => rfl, hp, hq, by simp only; rw [if_neg (by omega)]⟩ (Mt.wk (rl := [0, 1, 2, 3, 4, 5, 6, 5]) ⟨by kernel_rfl, ?_, ?_⟩) ?_
    · refine sxo ?_
      try with_reducible exact trivial
      unfold mostF at hM
      rw [hM]
      exact ⟨rfl, rfl⟩
    · refine sxo ?_
      try with_reducible exact trivial
    rintro ⟨n, nf1, pats1, caps1, oc1⟩ ⟨r1, r2, r3, r4, r5, r6⟩
    simp only at r1 r2 r3 r4 r5 r6
    refine sxo ?_
    try with_reducible exact trivial
    have e1 : ((i : Int) + 1).toNat = i + 1 := by omega
    simp only [e1]
    refine ⟨fun hn0 => ?_, fun hn0 => ?_⟩
    · have hm0 : 0 ≤ n * (ix l i).len := Int.mul_nonneg hn0 (by omega)
      have hm1 : n * (ix l i).len ≤ rest := Int.mul_le_of_le_ediv (by omega) (by omega)
      have hb2 := aft_bound (l.drop (i + 1)) fun p hp => order_mem ho (List.mem_of_mem_drop hp)
      have hdl : (l.drop (i + 1)).length ≤ 200 := by rw [List.length_drop]; omega
      have hst : stop n = (decide (n < M) && decide ((ix l i).len ≤ rest - n * (ix l i).len - aft (l.drop (i + 1)))) := by rw [← hs]; rfl
      have hgn : g n = allG l (l.drop (i + 1)) (preF nf i ++ [n]) (rest - n * (ix l i).len) := by rw [← hg]
      rw [if_neg (by omega)] at r6
      repeat (with_reducible refine And.intro (by omega) ?_)
      refine ⟨fun hlt => ?_, fun hge => ?_⟩
      · repeat (with_reducible refine And.intro (by omega) ?_)
        refine ⟨fun hbr => ?_, fun hbr => ?_⟩
        · have hstop : stop n = true := by rw [hst]; simp [hlt, hbr]
          repeat (with_reducible refine And.intro (by omega) ?_)
          refine ⟨_, _, vwk_mt [0, 1, 2, 3, 4, 5, 6, 7] ?_ ?_ ?_, true, fun k => if k = i then 0 else nf1 k, pats1, caps1, oc1, rfl, fun k hk => by show (if k = i then 0 else nf1 k) = nf k; rw [if_neg (by omega), r3 k hk], r5, fun _ => ⟨?_, r4⟩, (fun h => by cases h), rfl⟩
          · refine sxo ?_
            try with_reducible exact trivial
          · kernel_rfl
          · refine sxo ?_
            try with_reducible exact trivial
            intro j hj k hk
            obtain rfl : j = 0 := by omega
            (by_cases e : k = i; (simp [e, mtL]); (simp [e, beq_false_of_ne e, mtL]))
          · rw [htot, r6, downG_stop hn0 hstop, List.append_nil]
        · have hstop : stop n = false := by rw [hst]; simp [hbr]
          repeat (with_reducible refine And.intro (by omega) ?_)
          have ih' := ih (i + 1) (rest - n * (ix l i).len) (fun k => if k = i then n else nf1 k) pats1 caps1 oc1 (by omega) (by omega) (by omega) r4 r5
          have hpre : preF (fun k => if k = i then n else nf1 k) (i + 1) = preF nf i ++ [n] := preF_next nf nf1 i n r3
          rw [hpre, ← hgn] at ih'
          refine sp_at ih' [0, 1, 2, 3, 4, 7, 6] rfl ?_ ?_ ?_
          · refine sxo ?_
            try with_reducible exact trivial
          · refine sxo ?_
            try with_reducible exact trivial
            intro j hj k hk
            obtain rfl : j = 0 := by omega
            (by_cases e : k = i; (simp [e, mtL]); (simp [e, beq_false_of_ne e, mtL]))
          · rintro r0 H1 ⟨b, nf2, pats2, caps2, oc2, rfl, q1, q2, q3, q4, rfl⟩
            have q5 : ∀ k, k < i → nf2 k = nf k := fun k hk => by
              rw [q1 k (by omega), if_neg (by omega), r3 k hk]
            cases b
            · refine sxo ?_
              try with_reducible exact trivial
              refine ⟨_, _, vwk_mt [0, 1, 2, 3, 4, 5, 6, 8] ?_ ?_ ?_, false, nf2, pats2, caps2, oc2, rfl, q5, q2, (fun h => by cases h), fun _ => ?_, rfl⟩
              · refine sxo ?_
                try with_reducible exact trivial
              · kernel_rfl
              · refine sxo ?_
                try with_reducible exact trivial
              · have := q4 rfl
                rw [htot, r6, downG_next hn0 hstop]
                simp only [List.length_append] at this ⊢
                omega
            · refine sxo ?_
              try with_reducible exact trivial
              repeat (with_reducible refine And.intro (by omega) ?_)
              obtain ⟨p1, p2⟩ := q3 rfl
              refine lpK_normal (n - 1, nf2, pats2, caps2, oc2) [0, 1, 2, 3, 4, 5, 6, 8] ⟨by simp only; omega, by simp only; omega, q5, p2, q2, ?_⟩ (by simp only; omega) (by kernel_rfl) ?_ ?_
              · simp only
                rw [r6, downG_next hn0 hstop, p1, List.append_assoc]
              · refine sxo ?_
                try with_reducible exact trivial
              · refine sxo ?_
                try with_reducible exact trivial
      · have hstop : stop n = false := by rw [hst]; simp [hge]
        repeat (with_reducible refine And.intro (by omega) ?_)
        have ih' := ih (i + 1) (rest - n * (ix l i).len) (fun k => if k = i then n else nf1 k) pats1 caps1 oc1 (by omega) (by omega) (by omega) r4 r5
        have hpre : preF (fun k => if k = i then n else nf1 k) (i + 1) = preF nf i ++ [n] := preF_next nf nf1 i n r3
        rw [hpre, ← hgn] at ih'
        refine sp_at ih' [0, 1, 2, 3, 4, 7, 6] rfl ?_ ?_ ?_
        · refine sxo ?_
          try with_reducible exact trivial
        · refine sxo ?_
          try with_reducible exact trivial
          intro j hj k hk
          obtain rfl : j = 0 := by omega
          (by_cases e : k = i; (simp [e, mtL]); (simp [e, beq_false_of_ne e, mtL]))
        · rintro r0 H1 ⟨b, nf2, pats2, caps2, oc2, rfl, q1, q2, q3, q4, rfl⟩
          have q5 : ∀ k, k < i → nf2 k = nf k := fun k hk => by
            rw [q1 k (by omega), if_neg (by omega), r3 k hk]
          cases b
          · refine sxo ?_
            try with_reducible exact trivial
            refine ⟨_, _, vwk_mt [0, 1, 2, 3, 4, 5, 6, 8] ?_ ?_ ?_, false, nf2, pats2, caps2, oc2, rfl, q5, q2, (fun h => by cases h), fun _ => ?_, rfl⟩
            · refine sxo ?_
              try with_reducible exact trivial
            · kernel_rfl
            · refine sxo ?_
              try with_reducible exact trivial
            · have := q4 rfl
              rw [htot, r6, downG_next hn0 hstop]
              simp only [List.length_append] at this ⊢
              omega
          · refine sxo ?_
            try with_reducible exact trivial
            repeat (with_reducible refine And.intro (by omega) ?_)
            obtain ⟨p1, p2⟩ := q3 rfl
            refine lpK_normal (n - 1, nf2, pats2, caps2, oc2) [0, 1, 2, 3, 4, 5, 6, 8] ⟨by simp only; omega, by simp only; omega, q5, p2, q2, ?_⟩ (by simp only; omega) (by kernel_rfl) ?_ ?_
            · simp only
              rw [r6, downG_next hn0 hstop, p1, List.append_assoc]
            · refine sxo ?_
              try with_reducible exact trivial
            · refine sxo ?_
              try with_reducible exact trivial
    · have hn1 : n < 0 := by omega
      rw [if_pos hn1, List.append_nil] at r6
      repeat (with_reducible refine And.intro (by omega) ?_)
      refine ⟨_, _, vwk_mt [0, 1, 2, 3, 4, 5, 6, 7] ?_ ?_ ?_, true, fun k => if k = i then 0 else nf1 k, pats1, caps1, oc1, rfl, fun k hk => by show (if k = i then 0 else nf1 k) = nf k; rw [if_neg (by omega), r3 k hk], r5, fun _ => ⟨?_, r4⟩, (fun h => by cases h), rfl⟩
      · refine sxo ?_
        try with_reducible exact trivial
      · kernel_rfl
      · refine sxo ?_
        try with_reducible exact trivial
        intro j hj k hk
        obtain rfl : j = 0 := by omega
        (by_cases e : k = i; (simp [e, mtL]); (simp [e, beq_false_of_ne e, mtL]))
      · rw [htot, r6]
end Go.Proofs.YtdeaaonppokgkaaGreat.Pat
