/- The search of exact loads: a bundle more. -/
import Derived.Test.YtdinkpefoljigaaAM
set_option maxRecDepth 100000
set_option linter.unusedSimpArgs false
set_option linter.unusedVariables false
namespace Go.Proofs.Ytdinkpefoljigaa
open Go.RowKit
/-- The state between the tries. -/
structure VX where
  j : Nat
  B : List (List Int)
  bc : Nat
  s : VS
  t : VS
  S : List Int
def visF (l : List Bun) (most i : Int) (rest : List Int) (L B : List (List Int)) (j : Nat) : List (List Int) := (List.range j).foldl (fun B j => if skipL l most i L j then B else vis l most rest (L.set j (ix L j ++ [i])) B) B
theorem visF_succ {l : List Bun} {most i : Int} {rest : List Int} {L B : List (List Int)} {j : Nat} : visF l most i rest L B (j + 1) = if skipL l most i L j then visF l most i rest L B j else vis l most rest (L.set j (ix L j ++ [i])) (visF l most i rest L B j) := by
  unfold visF
  rw [List.range_succ, List.foldl_append]; rfl
theorem lnF_self {L : List (List Int)} {j : Nat} {i : Int} (h : j < L.length) : lnF (L.set j (ix L j ++ [i])) j = lnF L j + 1 := by
  unfold lnF
  rw [ix_set_self h]; simp
theorem lnF_ne {L : List (List Int)} {j q : Nat} {y : List Int} (h : q ≠ j) : lnF (L.set j y) q = lnF L q := by
  unfold lnF
  rw [ix_set_ne h]
structure VI (l : List Bun) (most i : Int) (rest : List Int) (L B : List (List Int)) (s0 : VS) (x : VX) : Prop where
  j : x.j ≤ L.length
  B : x.B = visF l most i rest L B x.j
  ok : VOk L x.s
  keep : Keep L.length (lnF L) s0 x.s
  best : VOk x.B x.t
  bc : x.B.length ≤ x.bc
  len : x.B.length ≤ 12
  S : ∀ v, v ∈ x.S ↔ v + (ix l i.toNat).mass ≤ most ∧ ∃ q, q < x.j ∧ massL l (ix L q) = v
theorem skip_has {l : List Bun} {most i : Int} {L : List (List Int)} {j : Nat} {S : List Int} (h : ∀ v, v ∈ S ↔ v + (ix l i.toNat).mass ≤ most ∧ ∃ q, q < j ∧ massL l (ix L q) = v) : skipL l most i L j = (hasI S (massL l (ix L j)) || decide (most < massL l (ix L j) + (ix l i.toNat).mass)) := by
  unfold skipL
  by_cases hf : most < massL l (ix L j) + (ix l i.toNat).mass
  · simp [hf]
  · rw [decide_eq_false hf, Bool.or_false, Bool.or_false, Bool.eq_iff_iff, hasI_iff, h]
    unfold seenL
    rw [List.any_eq_true]
    constructor
    · rintro ⟨q, hq, e⟩
      exact ⟨by omega, q, List.mem_range.1 hq, by simpa using e⟩
    · rintro ⟨_, q, hq, e⟩
      exact ⟨q, List.mem_range.2 hq, by simpa using e⟩
theorem vi_skip {l : List Bun} {most i : Int} {rest : List Int} {L B : List (List Int)} {s0 : VS} {x : VX} (h : VI l most i rest L B s0 x) (hj : x.j < L.length) (hs : skipL l most i L x.j = true) : VI l most i rest L B s0 ⟨x.j + 1, x.B, x.bc, x.s, x.t, x.S⟩ := by
  refine ⟨hj, ?_, h.ok, h.keep, h.best, h.bc, h.len, fun v => ?_⟩
  · show x.B = _
    rw [visF_succ, if_pos hs]
    exact h.B
  · show v ∈ x.S ↔ _
    constructor
    · intro hv
      obtain ⟨a, q, hq, e⟩ := (h.S v).1 hv
      exact ⟨a, q, Nat.lt_succ_of_lt hq, e⟩
    · rintro ⟨a, q, hq, e⟩
      rcases Nat.lt_succ_iff_lt_or_eq.1 hq with hq | hq
      · exact (h.S v).2 ⟨a, q, hq, e⟩
      · rw [skip_has h.S] at hs
        rw [hq] at e
        rw [e] at hs
        have hb : decide (most < v + (ix l i.toNat).mass) = false := by simp; omega
        rw [hb, Bool.or_false] at hs
        exact hasI_iff.1 hs
theorem vi_try {l : List Bun} {most i : Int} {rest : List Int} {L B : List (List Int)} {s0 : VS} {x : VX} {B' : List (List Int)} {bc' : Nat} {s' t' : VS} (h : VI l most i rest L B s0 x) (hj : x.j < L.length) (hs : skipL l most i L x.j = false) (h1 : VOk L s') (h2 : Keep L.length (lnF L) s0 s')
    (h3 : B' = vis l most rest (L.set x.j (ix L x.j ++ [i])) x.B) (h4 : VOk B' t') (h5 : B'.length ≤ bc') (h6 : B'.length ≤ 12) : VI l most i rest L B s0 ⟨x.j + 1, B', bc', s', t', x.S ++ [massL l (ix L x.j)]⟩ := by
  refine ⟨hj, ?_, h1, h2, h4, h5, h6, fun v => ?_⟩
  · show B' = _
    rw [visF_succ, if_neg (by rw [hs]; simp), ← h.B]
    exact h3
  · show v ∈ x.S ++ [massL l (ix L x.j)] ↔ _
    rw [List.mem_append, List.mem_singleton, h.S v]
    constructor
    · rintro (⟨a, q, hq, e⟩ | rfl)
      · exact ⟨a, q, Nat.lt_succ_of_lt hq, e⟩
      · exact ⟨skip_fits hs, x.j, Nat.lt_succ_self _, rfl⟩
    · rintro ⟨a, q, hq, e⟩
      rcases Nat.lt_succ_iff_lt_or_eq.1 hq with hq | hq
      · exact .inl ⟨a, q, hq, e⟩
      · rw [hq] at e
        exact .inr e.symm
set_option maxHeartbeats 4000000 in
theorem vis_cons (l : List Bun) (most : Int) (c xc : Nat) (x0 : List Int) (hv : vB l = true) (hm1 : 1 ≤ most) (hm2 : most ≤ 1099511627776) (hx : ∀ i ∈ x0, 0 ≤ i ∧ i < l.length ∧ (ix l i.toNat).mass ≤ most) (hx0 : x0.length ≤ 12) {i : Int} {rest : List Int} (ih : VisC l most c xc x0 rest) : VisC l most c xc x0 (i :: rest) := by
  intro k L B oc mc bc s t hk hd h0 hL hs ht hbc hB12
  have hLn := hL.len
  simp only [List.length_cons] at hk hLn
  have hkl : k < x0.length := by omega
  obtain ⟨hik, hd1⟩ : ix x0 k = i ∧ x0.drop (k + 1) = rest := by
    rw [drop_ix hkl, List.cons.injEq] at hd
    exact hd
  have him : i ∈ x0 := hik ▸ ix_mem hkl
  obtain ⟨hi0, hil, him⟩ := hx i him
  have hmi := okA_mass ((vB_yes.1 hv).2 i.toNat (by omega))
  by_cases hret : B ≠ [] ∧ B.length ≤ L.length
  · have hvis : vis l most (i :: rest) L B = B := by simp only [vis]; rw [if_pos hret]
    rw [hvis]
    have hB0 : 0 < B.length := List.length_pos_iff.2 hret.1
    rw [bV_some hret.1]
    refine sp_wk ?_
    refine sp_of_exa true true [(6, .one 0 (.one 1 (.one 2 (.one 3 (.one 5 (.alt [(4, .one 6 (.one 7 (.one 8 (.one 9 (.one 10 (.one 11 .fin)))))), (6, .alt [(4, .one 7 (.one 8 (.one 9 (.one 10 (.one 11 .fin))))), (7, .one 4 (.one 8 (.one 9 (.one 10 (.one 11 .fin)))))])])))))), (14, .one 0 (.one 1 (.one 2 (.one 3 (.one 4 (.one 5 (.one 6 (.one 7 (.one 8 (.one 9 (.one 11 (.one 13 (.one 14 (.one 15 (.alt [(10, .one 12 (.one 16 (.one 17 (.one 18 .fin)))), (16, .one 10 (.one 12 (.one 17 (.one 18 .fin))))]))))))))))))))), (20, .one 0 (.one 1 (.one 2 (.one 3 (.one 4 (.one 6 (.one 7 (.one 8 (.alt [(5, .one 9 (.one 10 (.one 11 (.one 12 (.one 13 (.one 14 .fin)))))), (9, .one 10 (.one 11 (.one 5 (.one 12 (.one 13 (.one 14 .fin))))))])))))))))] mixed Try.call46 Try.func46 rfl Try.ntmps46 Try.results46 (by decide +kernel) rfl ?_
    simp only [push_cast, ↓branch_true, ↓branch_false, Nat.reduceBEq, Nat.reduceAdd, Nat.reduceMul, Nat.reduceSub, Int.reduceToNat, reduceCtorEq, branch_decide, branch_not, branch_beq, branch_bne]
    intro b hb
    rw [hb (by omega)]
    simp only [push_cast, ↓branch_true, ↓branch_false, Nat.reduceBEq, Nat.reduceAdd, Nat.reduceMul, Nat.reduceSub, Int.reduceToNat, reduceCtorEq, branch_decide, branch_not, branch_beq, branch_bne]
    refine ⟨fun _ => ?_, fun h => absurd hret.2 (by omega)⟩
    refine ⟨_, _, vwk_mt [0, 1, 2, 3, 4, 5, 6, 7, 3] (H' := [rB l, rOwn 3 x0.length xc (fun k => ix x0 k), oSr l.length c x0.length xc most (bV 8 B bc), deadOb, oFm t.M t.fl t.fc t.ff, oLd 6 L.length oc s.pi (lnF L) s.fc, oFm s.M s.fl s.fc s.ff, rIO (msL l L) mc, oLd 4 B.length bc t.pi (lnF B) t.fc]) (r' := .t []) ?_ (by kernel_rfl) ?_, s, t, bc, hs, .refl hs.len, ht, hbc, hB12, rfl, rfl⟩
    · simp only [push_cast, ↓branch_true, ↓branch_false, Nat.reduceBEq, Nat.reduceAdd, Nat.reduceMul, Nat.reduceSub, Int.reduceToNat, reduceCtorEq, branch_decide, branch_not, branch_beq, branch_bne]
    · rw [bV_some hret.1]
      simp only [push_cast, ↓branch_true, ↓branch_false, Nat.reduceBEq, Nat.reduceAdd, Nat.reduceMul, Nat.reduceSub, Int.reduceToNat, reduceCtorEq, branch_decide, branch_not, branch_beq, branch_bne]
  · have hvis : vis l most (i :: rest) L B = vis l most rest (L ++ [[i]]) ((List.range L.length).foldl (fun B j => if skipL l most i L j then B else vis l most rest (L.set j (ix L j ++ [i])) B) B) := by simp only [vis]; rw [if_neg hret]
    change vis l most (i :: rest) L B = vis l most rest (L ++ [[i]]) (visF l most i rest L B L.length) at hvis
    rw [hvis]
    have hc : B = [] ∨ (B ≠ [] ∧ L.length < B.length) := by
      by_cases e : B = []
      · exact .inl e
      · exact .inr ⟨e, by
          rcases Nat.lt_or_ge L.length B.length with h | h
          · exact h
          · exact absurd ⟨e, h⟩ hret⟩
    have hB0 : B ≠ [] → 0 < B.length := List.length_pos_iff.2
    rcases hc with hB | ⟨hB, hlt⟩
    case' inl =>
      rw [show bV 3 B bc = .v (.slice none 0 0) by rw [hB]; rfl]
      refine sp_wk ?_
      refine sp_of_exa true true [(6, .one 0 (.one 1 (.one 2 (.one 3 (.one 5 (.alt [(4, .one 6 (.one 7 (.one 8 (.one 9 (.one 10 (.one 11 .fin)))))), (6, .alt [(4, .one 7 (.one 8 (.one 9 (.one 10 (.one 11 .fin))))), (7, .one 4 (.one 8 (.one 9 (.one 10 (.one 11 .fin)))))])])))))), (14, .one 0 (.one 1 (.one 2 (.one 3 (.one 4 (.one 5 (.one 6 (.one 7 (.one 8 (.one 9 (.one 11 (.one 13 (.one 14 (.one 15 (.alt [(10, .one 12 (.one 16 (.one 17 (.one 18 .fin)))), (16, .one 10 (.one 12 (.one 17 (.one 18 .fin))))]))))))))))))))), (20, .one 0 (.one 1 (.one 2 (.one 3 (.one 4 (.one 6 (.one 7 (.one 8 (.alt [(5, .one 9 (.one 10 (.one 11 (.one 12 (.one 13 (.one 14 .fin)))))), (9, .one 10 (.one 11 (.one 5 (.one 12 (.one 13 (.one 14 .fin))))))])))))))))] mixed Try.call46 Try.func46 rfl Try.ntmps46 Try.results46 (by decide +kernel) rfl ?_
      simp only [push_cast, ↓branch_true, ↓branch_false, Nat.reduceBEq, Nat.reduceAdd, Nat.reduceMul, Nat.reduceSub, Int.reduceToNat, reduceCtorEq, branch_decide, branch_not, branch_beq, branch_bne]
      refine ⟨fun h => absurd h (by omega), fun _ => ?_⟩
    case' inr =>
      have hB0 := hB0 hB
      rw [bV_some hB]
      refine sp_wk ?_
      refine sp_of_exa true true [(6, .one 0 (.one 1 (.one 2 (.one 3 (.one 5 (.alt [(4, .one 6 (.one 7 (.one 8 (.one 9 (.one 10 (.one 11 .fin)))))), (6, .alt [(4, .one 7 (.one 8 (.one 9 (.one 10 (.one 11 .fin))))), (7, .one 4 (.one 8 (.one 9 (.one 10 (.one 11 .fin)))))])])))))), (14, .one 0 (.one 1 (.one 2 (.one 3 (.one 4 (.one 5 (.one 6 (.one 7 (.one 8 (.one 9 (.one 11 (.one 13 (.one 14 (.one 15 (.alt [(10, .one 12 (.one 16 (.one 17 (.one 18 .fin)))), (16, .one 10 (.one 12 (.one 17 (.one 18 .fin))))]))))))))))))))), (20, .one 0 (.one 1 (.one 2 (.one 3 (.one 4 (.one 6 (.one 7 (.one 8 (.alt [(5, .one 9 (.one 10 (.one 11 (.one 12 (.one 13 (.one 14 .fin)))))), (9, .one 10 (.one 11 (.one 5 (.one 12 (.one 13 (.one 14 .fin))))))])))))))))] mixed Try.call46 Try.func46 rfl Try.ntmps46 Try.results46 (by decide +kernel) rfl ?_
      simp only [push_cast, ↓branch_true, ↓branch_false, Nat.reduceBEq, Nat.reduceAdd, Nat.reduceMul, Nat.reduceSub, Int.reduceToNat, reduceCtorEq, branch_decide, branch_not, branch_beq, branch_bne]
      intro b hb
      rw [hb (by omega)]
      simp only [push_cast, ↓branch_true, ↓branch_false, Nat.reduceBEq, Nat.reduceAdd, Nat.reduceMul, Nat.reduceSub, Int.reduceToNat, reduceCtorEq, branch_decide, branch_not, branch_beq, branch_bne]
      refine ⟨fun h => by omega, fun _ => ?_⟩
      refine ⟨fun h => absurd h (by omega), fun _ => ?_⟩
    all_goals
      repeat (with_reducible refine And.intro (by omega) ?_)
      refine tr_loop mixed (by kernel_rfl) (fun (x : VX) => [(75, .v (.int .i64 x.j)), (74, .v (.int .i64 L.length)), (12, .m 8), (3, .s 7 0 0 L.length mc 1), (11, .v (.int .i64 (ix l i.toNat).mass)), (10, .v (.int .i64 i)), (0, .p 2 0 0), (2, .s 5 0 0 L.length oc 1), (1, .v (.int .i64 k))])
        (fun x => [rB l, rOwn 3 x0.length xc (fun k => ix x0 k), oSr l.length c x0.length xc most (bV 9 x.B x.bc), deadOb, oFm x.t.M x.t.fl x.t.fc x.t.ff, oLd 6 L.length oc x.s.pi (lnF L) x.s.fc, oFm x.s.M x.s.fl x.s.fc x.s.ff, rIO (msL l L) mc, ⟨69, false, .mp (.int .i64) x.S.length (gI (hasI x.S))⟩, oLd 4 x.B.length x.bc x.t.pi (lnF x.B) x.t.fc])
        (VI l most i rest L B s) (fun x => L.length - x.j) ⟨0, B, bc, s, t, []⟩ ⟨Nat.zero_le _, rfl, hs, .refl hs.len, ht, hbc, hB12, fun v => by simp⟩ (Mt.wk (rl := [0, 1, 2, 3, 4, 5, 6, 7, 8, 3]) ⟨by kernel_rfl, ?_, ?_⟩) ?_
      · simp only [push_cast, ↓branch_true, ↓branch_false, Nat.reduceBEq, Nat.reduceAdd, Nat.reduceMul, Nat.reduceSub, Int.reduceToNat, reduceCtorEq, branch_decide, branch_not, branch_beq, branch_bne, hik]
      · simp only [push_cast, ↓branch_true, ↓branch_false, Nat.reduceBEq, Nat.reduceAdd, Nat.reduceMul, Nat.reduceSub, Int.reduceToNat, reduceCtorEq, branch_decide, branch_not, branch_beq, branch_bne, hik]
        refine ⟨?_, gI_no (fun x => by simp [hasI]) _⟩
        unfold bV
        first
          | rw [if_pos hB]
            simp only [push_cast, ↓branch_true, ↓branch_false, Nat.reduceBEq, Nat.reduceAdd, Nat.reduceMul, Nat.reduceSub, Int.reduceToNat, reduceCtorEq, branch_decide, branch_not, branch_beq, branch_bne]
          | rw [if_neg hB]
            simp only [push_cast, ↓branch_true, ↓branch_false, Nat.reduceBEq, Nat.reduceAdd, Nat.reduceMul, Nat.reduceSub, Int.reduceToNat, reduceCtorEq, branch_decide, branch_not, branch_beq, branch_bne]
      rintro ⟨j, B1, bc1, s1, t1, S⟩ hI
      have hsk := skip_has hI.S
      obtain ⟨h1, h2, h3, h4, h5, h6, h7, h8⟩ := id hI
      simp only at h1 h2 h3 h4 h5 h6 h7 h8 hsk
      simp only [push_cast, ↓branch_true, ↓branch_false, Nat.reduceBEq, Nat.reduceAdd, Nat.reduceMul, Nat.reduceSub, Int.reduceToNat, reduceCtorEq, branch_decide, branch_not, branch_beq, branch_bne]
      refine ⟨fun hjl => ?_, fun hjl => ?_⟩
      · have hj : j < L.length := by omega
        have hyj := hL.each _ (ix_mem hj)
        have hmj := msL_len l L
        repeat (with_reducible refine And.intro (by omega) ?_)
        rw [msL_ix l hj]
        cases hh : hasI S (massL l (ix L j)) with
        | true =>
          rw [hh, Bool.true_or] at hsk
          simp only [push_cast, ↓branch_true, ↓branch_false, Nat.reduceBEq, Nat.reduceAdd, Nat.reduceMul, Nat.reduceSub, Int.reduceToNat, reduceCtorEq, branch_decide, branch_not, branch_beq, branch_bne]
          repeat' (with_reducible (first | apply And.intro | intro _))
          all_goals try omega
          all_goals
            refine lpK_normal ⟨j + 1, B1, bc1, s1, t1, S⟩ [0, 1, 2, 3, 4, 5, 6, 7, 8, 9] (vi_skip hI hj hsk) (by simp only; omega) (by kernel_rfl) ?_ ?_
            · simp only [push_cast, ↓branch_true, ↓branch_false, Nat.reduceBEq, Nat.reduceAdd, Nat.reduceMul, Nat.reduceSub, Int.reduceToNat, reduceCtorEq, branch_decide, branch_not, branch_beq, branch_bne]
            · simp only [push_cast, ↓branch_true, ↓branch_false, Nat.reduceBEq, Nat.reduceAdd, Nat.reduceMul, Nat.reduceSub, Int.reduceToNat, reduceCtorEq, branch_decide, branch_not, branch_beq, branch_bne]
        | false =>
          simp only [push_cast, ↓branch_true, ↓branch_false, Nat.reduceBEq, Nat.reduceAdd, Nat.reduceMul, Nat.reduceSub, Int.reduceToNat, reduceCtorEq, branch_decide, branch_not, branch_beq, branch_bne]
          rw [hh, Bool.false_or] at hsk
          repeat' (with_reducible (first | apply And.intro | intro _))
          all_goals try omega
          all_goals rename_i hfit
          all_goals try (
            refine lpK_normal ⟨j + 1, B1, bc1, s1, t1, S⟩ [0, 1, 2, 3, 4, 5, 6, 7, 8, 9] (vi_skip hI hj (hsk.trans (decide_eq_true hfit))) (by simp only; omega) (by kernel_rfl) ?_ ?_
            · simp only [push_cast, ↓branch_true, ↓branch_false, Nat.reduceBEq, Nat.reduceAdd, Nat.reduceMul, Nat.reduceSub, Int.reduceToNat, reduceCtorEq, branch_decide, branch_not, branch_beq, branch_bne]
            · simp only [push_cast, ↓branch_true, ↓branch_false, Nat.reduceBEq, Nat.reduceAdd, Nat.reduceMul, Nat.reduceSub, Int.reduceToNat, reduceCtorEq, branch_decide, branch_not, branch_beq, branch_bne]
            )
          all_goals
            rw [decide_eq_false hfit] at hsk
            refine Or.inl ?_
            repeat (with_reducible refine And.intro (by omega) ?_)
            refine Or.inr (Or.inr (Or.inr (Or.inr ?_)))
            have hpj := h3.lt j hj
            have hfl : lnF L j ≤ s1.fl (s1.pi j) := h3.len j hj
            have hyl : lnF L j + (rest.length + 1) ≤ 12 := hyj.2.1
            repeat (with_reducible refine And.intro (by omega) ?_)
            intro M ln' cp' f' p hg
            have hg2 : GrowF s1.M (ix L j).length 1 (s1.pi j) s1.fl s1.fc (fun p q => [.v (.int .i64 (s1.ff p q))]) (fun _ => [.v (.int .i64 i)]) M ln' cp' f' p := ⟨hg.hle, hg.hlt, hg.pos, hg.all, hg.hlen, hg.hcap, hg.old, fun q hq => by
              obtain rfl : q = 0 := by omega
              exact hg.nws 0 (by omega), hg.caps, hg.oth⟩
            obtain ⟨s2, e1, e2, e3, e4, e5, e6, e7, e8⟩ := grow_keep h3 hj hg2
            subst e1 e2 e3 e4
            repeat (with_reducible refine And.intro (by omega) ?_)
            have hLim : Lim l most rest.length (L.set j (ix L j ++ [i])) := by
              refine ⟨by rw [List.length_set]; omega, fun y hy => ?_⟩
              rcases List.mem_or_eq_of_mem_set hy with hy | rfl
              · have := hL.each y hy
                simp only [List.length_cons] at this
                exact ⟨this.1, by omega, this.2.2⟩
              · refine ⟨by simp, ?_, ?_⟩
                · rw [List.length_append, List.length_cons, List.length_nil]
                  unfold lnF at hyl
                  omega
                · rw [massL_app, massL_one]
                  omega
            have hih := ih (k + 1) (L.set j (ix L j ++ [i])) B1 oc mc bc1 s2 t1 (by omega) hd1 (by rw [List.length_set]; omega) hLim e7 h5 h6 h7
            refine sp_at hih [0, 1, 2, 9, 4, 5, 6, 7] rfl ?_ ?_ ?_
            · simp only [push_cast, ↓branch_true, ↓branch_false, Nat.reduceBEq, Nat.reduceAdd, Nat.reduceMul, Nat.reduceSub, Int.reduceToNat, reduceCtorEq, branch_decide, branch_not, branch_beq, branch_bne, List.length_set]
            · simp only [push_cast, ↓branch_true, ↓branch_false, Nat.reduceBEq, Nat.reduceAdd, Nat.reduceMul, Nat.reduceSub, Int.reduceToNat, reduceCtorEq, branch_decide, branch_not, branch_beq, branch_bne, List.length_set]
              refine ⟨fun i1 hi1 q hq => ?_, fun a ha q hq => ?_, fun i1 hi1 => ⟨by rw [msL_len, msL_len, List.length_set]; exact Nat.le_refl _, fun q hq => ?_⟩⟩
              · obtain rfl : i1 = 0 := by omega
                by_cases e : q = j
                · subst e
                  simp only [beq_self_eq_true, Bool.and_self, cond_true, lnF_self hj]
                  simp only [push_cast, ↓branch_true, ↓branch_false, Nat.reduceBEq, Nat.reduceAdd, Nat.reduceMul, Nat.reduceSub, Int.reduceToNat, reduceCtorEq, branch_decide, branch_not, branch_beq, branch_bne]
                · have hb : (q == j) = false := by simpa using e
                  simp only [hb, Bool.and_false, cond_false, lnF_ne e, e5 q e, e8.cap _ (h3.lt q hq)]
                  simp only [push_cast, ↓branch_true, ↓branch_false, Nat.reduceBEq, Nat.reduceAdd, Nat.reduceMul, Nat.reduceSub, Int.reduceToNat, reduceCtorEq, branch_decide, branch_not, branch_beq, branch_bne]
              · rw [e6 a ha q hq]
                simp only [push_cast, ↓branch_true, ↓branch_false, Nat.reduceBEq, Nat.reduceAdd, Nat.reduceMul, Nat.reduceSub, Int.reduceToNat, reduceCtorEq, branch_decide, branch_not, branch_beq, branch_bne]
              · obtain rfl : i1 = 0 := by omega
                rw [msL_set l i hj]
                by_cases e : q = j
                · subst e
                  rw [ix_set_self (by omega)]
                  simp only [beq_self_eq_true, Bool.and_self, cond_true]
                  simp only [push_cast, ↓branch_true, ↓branch_false, Nat.reduceBEq, Nat.reduceAdd, Nat.reduceMul, Nat.reduceSub, Int.reduceToNat, reduceCtorEq, branch_decide, branch_not, branch_beq, branch_bne]
                · have hb : (q == j) = false := by simpa using e
                  rw [ix_set_ne e]
                  simp only [hb, Bool.and_false, cond_false]
                  simp only [push_cast, ↓branch_true, ↓branch_false, Nat.reduceBEq, Nat.reduceAdd, Nat.reduceMul, Nat.reduceSub, Int.reduceToNat, reduceCtorEq, branch_decide, branch_not, branch_beq, branch_bne]
            rintro _ _ ⟨s3, t3, bc3, g1, g2, g3, g4, g5, rfl, rfl⟩
            have hm2 : ix (msL l (L.set j (ix L j ++ [i]))) j = massL l (ix L j) + (ix l i.toNat).mass := by rw [msL_set l i hj, ix_set_self (by omega)]
            have hm3 : (msL l (L.set j (ix L j ++ [i]))).length = L.length := by rw [msL_len, List.length_set]
            have hln := lnF_self (i := i) hj
            have hcp := g1.cap j (by rw [List.length_set]; exact hj)
            change lnF (L.set j (ix L j ++ [i])) j ≤ _ at hcp
            rw [hln] at hcp
            simp only [push_cast, ↓branch_true, ↓branch_false, Nat.reduceBEq, Nat.reduceAdd, Nat.reduceMul, Nat.reduceSub, Int.reduceToNat, reduceCtorEq, branch_decide, branch_not, branch_beq, branch_bne, List.length_set, hm2, hln, hm3]
            rw [List.length_set] at g2
            have k2 := h4.trans (e8.trans g2 (fun q _ => lnF_set hj q) h3.lt h3.inj) (fun _ _ => Nat.le_refl _) hs.lt hs.inj
            have hvi := vi_try hI hj hsk (g1.back hj) k2 rfl g3 g4 g5
            have ez : ((lnF L j : Int) + 1 - 1).toNat = lnF L j := by omega
            repeat' (with_reducible (first | apply And.intro | intro _))
            all_goals try omega
            all_goals
              refine lpK_normal ⟨j + 1, _, bc3, s3, t3, S ++ [massL l (ix L j)]⟩ [0, 1, 2, 3, 4, 5, 6, 7, 8, 11] hvi (by simp only; omega) (by kernel_rfl) ?_ ?_
              · simp only [push_cast, ↓branch_true, ↓branch_false, Nat.reduceBEq, Nat.reduceAdd, Nat.reduceMul, Nat.reduceSub, Int.reduceToNat, reduceCtorEq, branch_decide, branch_not, branch_beq, branch_bne]
              · simp only [push_cast, ↓branch_true, ↓branch_false, Nat.reduceBEq, Nat.reduceAdd, Nat.reduceMul, Nat.reduceSub, Int.reduceToNat, reduceCtorEq, branch_decide, branch_not, branch_beq, branch_bne, ez]
                refine ⟨fun i1 hi1 q hq => ?_, fun i1 hi1 => ⟨by rw [msL_len]; exact Nat.le_refl _, fun q hq => ?_⟩, by simp, gI_up fun x => hasI_snoc _ _ x⟩
                · obtain rfl : i1 = 0 := by omega
                  by_cases e : q = j
                  · subst e
                    simp only [beq_self_eq_true, Bool.and_self, cond_true, Nat.sub_zero]
                    simp only [push_cast, ↓branch_true, ↓branch_false, Nat.reduceBEq, Nat.reduceAdd, Nat.reduceMul, Nat.reduceSub, Int.reduceToNat, reduceCtorEq, branch_decide, branch_not, branch_beq, branch_bne]
                  · have hb : (q == j) = false := by simpa using e
                    simp only [hb, Bool.and_false, cond_false, lnF_ne e]
                    simp only [push_cast, ↓branch_true, ↓branch_false, Nat.reduceBEq, Nat.reduceAdd, Nat.reduceMul, Nat.reduceSub, Int.reduceToNat, reduceCtorEq, branch_decide, branch_not, branch_beq, branch_bne]
                · obtain rfl : i1 = 0 := by omega
                  by_cases e : q = j
                  · subst e
                    rw [msL_ix l hj, Int.add_sub_cancel]
                    simp only [beq_self_eq_true, Bool.and_self, cond_true]
                    simp only [push_cast, ↓branch_true, ↓branch_false, Nat.reduceBEq, Nat.reduceAdd, Nat.reduceMul, Nat.reduceSub, Int.reduceToNat, reduceCtorEq, branch_decide, branch_not, branch_beq, branch_bne]
                  · have hb : (q == j) = false := by simpa using e
                    rw [msL_set l i hj, ix_set_ne e]
                    simp only [hb, Bool.and_false, cond_false]
                    simp only [push_cast, ↓branch_true, ↓branch_false, Nat.reduceBEq, Nat.reduceAdd, Nat.reduceMul, Nat.reduceSub, Int.reduceToNat, reduceCtorEq, branch_decide, branch_not, branch_beq, branch_bne]
      · obtain rfl : j = L.length := by omega
        repeat (with_reducible refine And.intro (by omega) ?_)
        refine sp_at (clipL_sp L.length oc s1.pi (lnF L) s1.fc s1.M s1.fl s1.ff) [5, 6] rfl ?_ ?_ ?_
        · simp only [push_cast, ↓branch_true, ↓branch_false, Nat.reduceBEq, Nat.reduceAdd, Nat.reduceMul, Nat.reduceSub, Int.reduceToNat, reduceCtorEq, branch_decide, branch_not, branch_beq, branch_bne]
        · simp only [push_cast, ↓branch_true, ↓branch_false, Nat.reduceBEq, Nat.reduceAdd, Nat.reduceMul, Nat.reduceSub, Int.reduceToNat, reduceCtorEq, branch_decide, branch_not, branch_beq, branch_bne]
        rintro _ _ ⟨rfl, rfl⟩
        simp only [push_cast, ↓branch_true, ↓branch_false, Nat.reduceBEq, Nat.reduceAdd, Nat.reduceMul, Nat.reduceSub, Int.reduceToNat, reduceCtorEq, branch_decide, branch_not, branch_beq, branch_bne]
        refine Or.inr ?_
        repeat (with_reducible refine And.intro (by omega) ?_)
        refine ⟨6, ?_⟩
        simp only [push_cast, ↓branch_true, ↓branch_false, Nat.reduceBEq, Nat.reduceAdd, Nat.reduceMul, Nat.reduceSub, Int.reduceToNat, reduceCtorEq, branch_decide, branch_not, branch_beq, branch_bne]
        refine Or.inl ?_
        repeat (with_reducible refine And.intro (by omega) ?_)
        refine Or.inr (Or.inr (Or.inl ⟨fun h => by omega, fun _ => ?_⟩))
        repeat (with_reducible refine And.intro (by omega) ?_)
        intro c2 hc2
        have hclI := clipI_sp (msL l L) mc
        rw [msL_len] at hclI
        refine sp_at hclI [7] rfl ?_ ?_ ?_
        · simp only [push_cast, ↓branch_true, ↓branch_false, Nat.reduceBEq, Nat.reduceAdd, Nat.reduceMul, Nat.reduceSub, Int.reduceToNat, reduceCtorEq, branch_decide, branch_not, branch_beq, branch_bne]
        · simp only [push_cast, ↓branch_true, ↓branch_false, Nat.reduceBEq, Nat.reduceAdd, Nat.reduceMul, Nat.reduceSub, Int.reduceToNat, reduceCtorEq, branch_decide, branch_not, branch_beq, branch_bne]
        rintro _ _ ⟨rfl, rfl⟩
        simp only [push_cast, ↓branch_true, ↓branch_false, Nat.reduceBEq, Nat.reduceAdd, Nat.reduceMul, Nat.reduceSub, Int.reduceToNat, reduceCtorEq, branch_decide, branch_not, branch_beq, branch_bne]
        refine Or.inl ?_
        repeat (with_reducible refine And.intro (by omega) ?_)
        refine Or.inr (Or.inr (Or.inl ⟨fun h => by omega, fun _ => ?_⟩))
        have hmj := msL_len l L
        repeat (with_reducible refine And.intro (by omega) ?_)
        intro c3 hc3
        have hl1 : (L ++ [[i]]).length = L.length + 1 := by simp
        have hLim : Lim l most rest.length (L ++ [[i]]) := by
          refine ⟨by rw [hl1]; omega, fun y hy => ?_⟩
          rcases List.mem_append.1 hy with hy | hy
          · have := hL.each y hy
            simp only [List.length_cons] at this
            exact ⟨this.1, by omega, this.2.2⟩
          · simp only [List.mem_singleton] at hy
            subst hy
            rw [massL_one]
            exact ⟨by simp, by simp only [List.length_cons, List.length_nil]; omega, by omega, him⟩
        have hih := ih (k + 1) (L ++ [[i]]) B1 c2 c3 bc1 (addV s1 L.length i 1) t1 (by omega) hd1 (by omega) hLim (add_ok h3 (Nat.le_refl _)) h5 h6 h7
        refine sp_at hih [0, 1, 2, 9, 4, 11, 6, 13] rfl ?_ ?_ ?_
        · simp only [push_cast, ↓branch_true, ↓branch_false, Nat.reduceBEq, Nat.reduceAdd, Nat.reduceMul, Nat.reduceSub, Int.reduceToNat, reduceCtorEq, branch_decide, branch_not, branch_beq, branch_bne, hl1]
        · simp only [push_cast, ↓branch_true, ↓branch_false, Nat.reduceBEq, Nat.reduceAdd, Nat.reduceMul, Nat.reduceSub, Int.reduceToNat, reduceCtorEq, branch_decide, branch_not, branch_beq, branch_bne, hl1]
          refine ⟨fun i1 hi1 q hq => ?_, ⟨rfl, fun a ha => ⟨Nat.le_refl _, rfl, fun q hq => ?_⟩⟩, fun i1 hi1 => ⟨by rw [msL_len, hl1]; exact Nat.le_refl _, fun q hq => ?_⟩⟩
          · by_cases e : q < L.length
            · have hb : (s1.pi q == s1.M) = false := by have := h3.lt q e; simp; omega
              have hx' : lnF (L ++ [[i]]) q = lnF L q := by unfold lnF; rw [ix_app_ne (by omega)]
              simp only [addV, e, decide_true, cond_true, hb, cond_false, hx']
              simp only [push_cast, ↓branch_true, ↓branch_false, Nat.reduceBEq, Nat.reduceAdd, Nat.reduceMul, Nat.reduceSub, Int.reduceToNat, reduceCtorEq, branch_decide, branch_not, branch_beq, branch_bne]
            · obtain rfl : q = L.length := by omega
              have hb : decide (L.length < L.length) = false := by simp
              have hx' : lnF (L ++ [[i]]) L.length = 1 := by unfold lnF; rw [ix_app_last]; rfl
              simp only [addV, hb, cond_false, beq_self_eq_true, cond_true, hx']
              simp only [push_cast, ↓branch_true, ↓branch_false, Nat.reduceBEq, Nat.reduceAdd, Nat.reduceMul, Nat.reduceSub, Int.reduceToNat, reduceCtorEq, branch_decide, branch_not, branch_beq, branch_bne]
          · simp only [addV] at hq ⊢
            cases hb : a == s1.M with
            | true =>
              rw [hb] at hq
              simp only [cond_true] at hq
              obtain rfl : q = 0 := by omega
              simp only [push_cast, ↓branch_true, ↓branch_false, Nat.reduceBEq, Nat.reduceAdd, Nat.reduceMul, Nat.reduceSub, Int.reduceToNat, reduceCtorEq, branch_decide, branch_not, branch_beq, branch_bne]
            | false => (simp only [push_cast, ↓branch_true, ↓branch_false, Nat.reduceBEq, Nat.reduceAdd, Nat.reduceMul, Nat.reduceSub, Int.reduceToNat, reduceCtorEq, branch_decide, branch_not, branch_beq, branch_bne])
          · rw [msL_snoc]
            by_cases e : q < L.length
            · have hb : decide (q < L.length) = true := by simpa using e
              rw [ix_app_ne (by omega), hb]
              simp only [push_cast, ↓branch_true, ↓branch_false, Nat.reduceBEq, Nat.reduceAdd, Nat.reduceMul, Nat.reduceSub, Int.reduceToNat, reduceCtorEq, branch_decide, branch_not, branch_beq, branch_bne]
            · rw [msL_len, hl1] at hq
              obtain rfl : q = (msL l L).length := by omega
              have hb : decide ((msL l L).length < L.length) = false := by simpa using e
              rw [ix_app_last, hb]
              simp only [push_cast, ↓branch_true, ↓branch_false, Nat.reduceBEq, Nat.reduceAdd, Nat.reduceMul, Nat.reduceSub, Int.reduceToNat, reduceCtorEq, branch_decide, branch_not, branch_beq, branch_bne]
        rintro _ _ ⟨s3, t3, bc3, g1, g2, g3, g4, g5, rfl, rfl⟩
        rw [hl1] at g2
        obtain ⟨k1, k2⟩ := add_keep h3 g2
        rw [← h2]
        simp only [push_cast, ↓branch_true, ↓branch_false, Nat.reduceBEq, Nat.reduceAdd, Nat.reduceMul, Nat.reduceSub, Int.reduceToNat, reduceCtorEq, branch_decide, branch_not, branch_beq, branch_bne]
        refine ⟨_, _, vwk_mt [0, 1, 2, 3, 4, 5, 6, 7, 14] (H' := [rB l, rOwn 3 x0.length xc (fun k => ix x0 k), oSr l.length c x0.length xc most (bV 8 (vis l most rest (L ++ [[i]]) B1) bc3), deadOb, oFm t3.M t3.fl t3.fc t3.ff, oLd 6 L.length oc s1.pi (lnF L) s3.fc, oFm s3.M s3.fl s3.fc s3.ff, rIO (msL l L) mc, oLd 4 (vis l most rest (L ++ [[i]]) B1).length bc3 t3.pi (lnF (vis l most rest (L ++ [[i]]) B1)) t3.fc]) (r' := .t []) ?_ (by kernel_rfl) ?_, { s3 with pi := s1.pi }, t3, bc3, k2, h4.trans k1 (fun _ _ => Nat.le_refl _) hs.lt hs.inj, g3, g4, g5, rfl, rfl⟩
        · simp only [push_cast, ↓branch_true, ↓branch_false, Nat.reduceBEq, Nat.reduceAdd, Nat.reduceMul, Nat.reduceSub, Int.reduceToNat, reduceCtorEq, branch_decide, branch_not, branch_beq, branch_bne]
        · simp only [push_cast, ↓branch_true, ↓branch_false, Nat.reduceBEq, Nat.reduceAdd, Nat.reduceMul, Nat.reduceSub, Int.reduceToNat, reduceCtorEq, branch_decide, branch_not, branch_beq, branch_bne]
          exact fun _ _ q hq => k1.cap _ (h3.lt q hq)
theorem visit_sp (l : List Bun) (most : Int) (c xc : Nat) (x0 : List Int) (hv : vB l = true) (hm1 : 1 ≤ most) (hm2 : most ≤ 1099511627776) (hx : ∀ i ∈ x0, 0 ≤ i ∧ i < l.length ∧ (ix l i.toNat).mass ≤ most) (hx0 : x0.length ≤ 12) : ∀ rest, VisC l most c xc x0 rest
  | [] => vis_nil l most c xc x0 hv hm1 hm2 hx hx0
  | _ :: rest => vis_cons l most c xc x0 hv hm1 hm2 hx hx0 (visit_sp l most c xc x0 hv hm1 hm2 hx hx0 rest)
end Go.Proofs.Ytdinkpefoljigaa
