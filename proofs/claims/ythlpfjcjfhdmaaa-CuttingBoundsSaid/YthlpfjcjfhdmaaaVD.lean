/- The search of the least number of lengths: a piece more. -/
import Derived.Test.YthlpfjcjfhdmaaaVC
set_option maxRecDepth 100000
set_option linter.unusedSimpArgs false
set_option linter.unusedVariables false
namespace Go.Proofs.Ythlpfjcjfhdmaaa
open Go.RowKit
/-- The state between the tries. -/
structure VX where
  j : Nat
  B : List Br
  bc : Nat
  s : VS
  t : VS
  S : List Int
def visF (l : List Pc) (lim i : Int) (rest : List Int) (L B : List Br) (j : Nat) : List Br := (List.range j).foldl (fun B j => if skipL (ix l i.toNat).len L j then B else vis l lim rest (L.set j (cutB i (ix l i.toNat).len (ix L j))) B) B
theorem visF_succ {l : List Pc} {lim i : Int} {rest : List Int} {L B : List Br} {j : Nat} : visF l lim i rest L B (j + 1) = if skipL (ix l i.toNat).len L j then visF l lim i rest L B j else vis l lim rest (L.set j (cutB i (ix l i.toNat).len (ix L j))) (visF l lim i rest L B j) := by
  unfold visF
  rw [List.range_succ, List.foldl_append]; rfl
/-- A bar's numbers are others. -/
def updV (s : VS) (p0 : Nat) (x : List Int) : VS := ⟨s.M, fun p => bif p == p0 then x else s.G p, s.cp, s.pi⟩
theorem upd_ok {L : List Br} {s : VS} {j : Nat} {b : Br} (h : VOk L s) (hj : j < L.length) : VOk (L.set j b) (updV s (s.pi j) b.ps) := by
  refine ⟨fun k hk => ?_, fun k hk => ?_, fun p q hp hq e => ?_⟩
  · exact h.lt k (by simpa using hk)
  · have hk : k < L.length := by simpa using hk
    by_cases e : k = j
    · subst e
      rw [ix_set_self hj]
      simp [updV]
    · have hb : (s.pi k == s.pi j) = false := by simp; exact fun e2 => e (h.inj k j hk hj e2)
      rw [ix_set_ne e]
      simp only [updV, hb, cond_false]
      exact h.val k hk
  · exact h.inj p q (by simpa using hp) (by simpa using hq) e
theorem upd_back {L : List Br} {s : VS} {j : Nat} {b : Br} (h : VOk (L.set j b) s) (hj : j < L.length) : VOk L (updV s (s.pi j) (ix L j).ps) := by
  have := upd_ok (b := ix L j) h (j := j) (by simpa using hj)
  rw [List.set_set] at this
  have e : L.set j (ix L j) = L := by rw [ix_eq hj]; exact List.set_getElem_self hj
  rwa [e] at this
theorem updV_keep (s : VS) (p : Nat) (x : List Int) : Keep s (updV s p x) := ⟨Nat.le_refl _, rfl, fun _ _ => rfl⟩
theorem addV_keep {s : VS} {n c : Nat} {x : List Int} {t : VS} (h : Keep (addV s n x c) t) : Keep s ⟨t.M, t.G, t.cp, s.pi⟩ := by
  have h1 := h.le
  simp only [addV] at h1
  refine ⟨by simp only; omega, rfl, fun p hp => ?_⟩
  have h2 := h.cp p (by simp only [addV]; omega)
  simp only
  rw [h2]
  have hb : (p == s.M) = false := by simp; omega
  simp only [addV, hb, cond_false]
theorem addV_back {L : List Br} {b : Br} {s t : VS} {c : Nat} {x : List Int} (h : VOk (L ++ [b]) t) (hk : Keep (addV s L.length x c) t) : VOk L ⟨t.M, t.G, t.cp, s.pi⟩ := by
  have hp : ∀ k, k < L.length → t.pi k = s.pi k := fun k hk2 => by rw [hk.pi]; simp [addV, hk2]
  refine ⟨fun k hk2 => ?_, fun k hk2 => ?_, fun p q h1 h2 e => ?_⟩
  · have := h.lt k (by simp; omega)
    rw [hp k hk2] at this
    exact this
  · have := h.val k (by simp; omega)
    rw [hp k hk2, ix_app_ne (by omega)] at this
    exact this
  · refine h.inj p q (by simp; omega) (by simp; omega) ?_
    rw [hp p h1, hp q h2]; exact e
structure VI (l : List Pc) (lim i : Int) (rest : List Int) (L B : List Br) (s0 : VS) (x : VX) : Prop where
  j : x.j ≤ L.length
  B : x.B = visF l lim i rest L B x.j
  ok : VOk L x.s
  keep : Keep s0 x.s
  best : VOk x.B x.t
  bc : x.B.length ≤ x.bc
  len : x.B.length ≤ 10
  S : ∀ v, v ∈ x.S ↔ (ix l i.toNat).len ≤ v ∧ ∃ q, q < x.j ∧ (ix L q).left = v
theorem skip_has {n : Int} {L : List Br} {j : Nat} {S : List Int} (h : ∀ v, v ∈ S ↔ n ≤ v ∧ ∃ q, q < j ∧ (ix L q).left = v) : skipL n L j = (hasI S (ix L j).left || decide ((ix L j).left < n)) := by
  unfold skipL
  by_cases hf : (ix L j).left < n
  · simp [hf]
  · rw [decide_eq_false hf, Bool.or_false, Bool.or_false, Bool.eq_iff_iff, hasI_iff, h]
    unfold seenL
    rw [List.any_eq_true]
    constructor
    · rintro ⟨q, hq, e⟩
      exact ⟨by omega, q, List.mem_range.1 hq, by simpa using e⟩
    · rintro ⟨_, q, hq, e⟩
      exact ⟨q, List.mem_range.2 hq, by simpa using e⟩
theorem vi_skip {l : List Pc} {lim i : Int} {rest : List Int} {L B : List Br} {s0 : VS} {x : VX} (h : VI l lim i rest L B s0 x) (hj : x.j < L.length) (hs : skipL (ix l i.toNat).len L x.j = true) : VI l lim i rest L B s0 ⟨x.j + 1, x.B, x.bc, x.s, x.t, x.S⟩ := by
  refine ⟨hj, ?_, h.ok, h.keep, h.best, h.bc, h.len, fun v => ?_⟩
  · show x.B = _
    rw [visF_succ, if_pos hs]
    exact h.B
  · show v ∈ x.S ↔ _
    constructor
    · intro hv
      obtain ⟨a, q, hq, e⟩ := (h.S v).1 hv
      exact ⟨a, q, Nat.lt_succ_of_lt hq, e⟩
    · rintro ⟨a, q, hq, e⟩
      rcases Nat.lt_succ_iff_lt_or_eq.1 hq with hq | hq
      · exact (h.S v).2 ⟨a, q, hq, e⟩
      · rw [skip_has h.S] at hs
        rw [hq] at e
        rw [e] at hs
        have hb : decide (v < (ix l i.toNat).len) = false := by simp; omega
        rw [hb, Bool.or_false] at hs
        exact hasI_iff.1 hs
theorem vi_try {l : List Pc} {lim i : Int} {rest : List Int} {L B : List Br} {s0 : VS} {x : VX} {B' : List Br} {bc' : Nat} {s' t' : VS} (h : VI l lim i rest L B s0 x) (hj : x.j < L.length) (hs : skipL (ix l i.toNat).len L x.j = false) (h1 : VOk L s') (h2 : Keep s0 s')
    (h3 : B' = vis l lim rest (L.set x.j (cutB i (ix l i.toNat).len (ix L x.j))) x.B) (h4 : VOk B' t') (h5 : B'.length ≤ bc') (h6 : B'.length ≤ 10) : VI l lim i rest L B s0 ⟨x.j + 1, B', bc', s', t', x.S ++ [(ix L x.j).left]⟩ := by
  refine ⟨hj, ?_, h1, h2, h4, h5, h6, fun v => ?_⟩
  · show B' = _
    rw [visF_succ, if_neg (by rw [hs]; simp), ← h.B]
    exact h3
  · show v ∈ x.S ++ [(ix L x.j).left] ↔ _
    rw [List.mem_append, List.mem_singleton, h.S v]
    constructor
    · rintro (⟨a, q, hq, e⟩ | rfl)
      · exact ⟨a, q, Nat.lt_succ_of_lt hq, e⟩
      · exact ⟨skip_fits hs, x.j, Nat.lt_succ_self _, rfl⟩
    · rintro ⟨a, q, hq, e⟩
      rcases Nat.lt_succ_iff_lt_or_eq.1 hq with hq | hq
      · exact .inl ⟨a, q, hq, e⟩
      · rw [hq] at e
        exact .inr e.symm
theorem smB_cut {l : List Pc} {n : Nat} {b : Br} {i : Int} (h : SmB l (n + 1) b) (hi : 0 ≤ i ∧ i < l.length) (h0 : 1 ≤ (ix l i.toNat).len) (hf : (ix l i.toNat).len ≤ b.left) : SmB l n (cutB i (ix l i.toNat).len b) := by
  have hps := h.ps
  have h1 := h.l1
  refine ⟨by simp only [cutB, List.length_set]; exact hps, by simp only [cutB]; omega, by simp only [cutB]; omega, fun j hj => ?_⟩
  have h2 := h.nn j hj
  simp only [cutB]
  by_cases e : j = i.toNat
  · subst e; rw [ix_set_self (by omega)]; omega
  · rw [ix_set_ne e]; omega
theorem smB_less {l : List Pc} {n : Nat} {b : Br} (h : SmB l (n + 1) b) : SmB l n b := ⟨h.ps, h.l0, h.l1, fun i hi => by have := h.nn i hi; omega⟩
theorem smB_new {l : List Pc} {n : Nat} {i lim : Int} (hn : n ≤ 10) (hi : 0 ≤ i ∧ i < l.length) (h0 : 1 ≤ (ix l i.toNat).len) (hf : (ix l i.toNat).len ≤ lim) (hl : lim ≤ 1048576) : SmB l n (newB l lim i) :=
  smB_cut ⟨zeros_len _, by simp only; omega, hl, fun j _ => by simp only [zeros_ix]; omega⟩ hi h0 hf
def oFg (M : Nat) (fl cp : Nat → Nat) (ff : Nat → Nat → Int) : Ob := ⟨3, false, .row 1 M fl cp (fun p q => [.v (.int .i64 (ff p q))])⟩
attribute [push_cast] oFg
theorem clipB_sp (n oc : Nat) (L : List Br) (s : VS) (M : Nat) (fl cp : Nat → Nat) (ff : Nat → Nat → Int) : Sp Try.prog 82 [.s 0 0 0 n oc 3] [oBs 1 n L oc s, oFg M fl cp ff] (fun r H => r = .s 0 0 0 n n 3 ∧ H = [oBs 1 n L oc s, oFg M fl cp ff]) := by
  refine sp_know (p := n ≤ oc) Try.call82 (fun β w vals _ ha => okL_cap ha) fun hd => ?_
  refine sp_weak ?_
  refine sp_of_ex true [] mixed Try.call82 Try.func82 rfl Try.ntmps82 Try.results82 (by decide +kernel) rfl ?_
  simp only [push_cast, ↓branch_true, ↓branch_false, Nat.reduceBEq, Nat.reduceAdd, Nat.reduceMul, Nat.reduceSub, Int.reduceToNat, reduceCtorEq, branch_decide, branch_not, branch_beq, branch_bne]
  repeat (with_reducible refine And.intro (by omega) ?_)
  simp only [Nat.sub_zero]
  refine ⟨_, _, [0, 1], ?_, by kernel_rfl, ?_, rfl, rfl⟩
  · simp only [push_cast, ↓branch_true, ↓branch_false, Nat.reduceBEq, Nat.reduceAdd, Nat.reduceMul, Nat.reduceSub, Int.reduceToNat, reduceCtorEq, branch_decide, branch_not, branch_beq, branch_bne]
  · simp only [push_cast, ↓branch_true, ↓branch_false, Nat.reduceBEq, Nat.reduceAdd, Nat.reduceMul, Nat.reduceSub, Int.reduceToNat, reduceCtorEq, branch_decide, branch_not, branch_beq, branch_bne]
set_option maxHeartbeats 4000000 in
theorem vis_cons (l : List Pc) (lim : Int) (c xc : Nat) (x0 : List Int) (hvo : orderB l = true) (h1l : 1 ≤ lim) (h2l : lim ≤ 1048576) (hx : ∀ i ∈ x0, 0 ≤ i ∧ i < l.length ∧ (ix l i.toNat).len ≤ lim) (hx0 : x0.length ≤ 10) {i : Int} {rest : List Int} (ih : VisC l lim c xc x0 rest) : VisC l lim c xc x0 (i :: rest) := by
  intro k L B oc bc s t hk hd h0 hLn hL hs ht hbc hB10
  have hll := order_len hvo
  simp only [List.length_cons] at hk hLn hL
  have hkl : k < x0.length := by omega
  obtain ⟨hik, hd1⟩ : ix x0 k = i ∧ x0.drop (k + 1) = rest := by
    rw [drop_ix hkl, List.cons.injEq] at hd
    exact hd
  have him : i ∈ x0 := hik ▸ ix_mem hkl
  obtain ⟨hi0, hil, him⟩ := hx i him
  have hmi := order_at hvo (k := i.toNat) (by omega)
  by_cases hret : B ≠ [] ∧ B.length ≤ L.length
  · have hvis : vis l lim (i :: rest) L B = B := by simp only [vis]; rw [if_pos hret]
    rw [hvis]
    have hB0 : 0 < B.length := List.length_pos_iff.2 hret.1
    rw [bV_some hret.1]
    refine sp_wk ?_
    refine sp_of_exa true true [(6, .pre [8] [0, 1, 2, 3, 5, 6, 7, 8, 9, 10] (.alt [(4, .one 11 (.one 12 (.one 13 (.one 14 (.one 15 (.one 16 (.one 17 .fin))))))), (11, .one 12 (.alt [(4, .one 13 (.one 14 (.one 15 (.one 16 (.one 17 .fin))))), (13, .one 4 (.one 14 (.one 15 (.one 16 (.one 17 .fin)))))]))])), (22, .jn (.one 0 (.one 1 (.one 2 (.one 4 (.one 6 (.one 7 (.one 8 (.alt [(3, .one 5 (.alt [(9, .one 10 (.alt [(11, .one 12 (.one 13 (.one 14 .fin))), (13, .one 11 (.one 12 (.one 14 .fin)))])), (13, .one 9 (.one 10 (.one 11 (.one 12 (.one 14 .fin)))))])), (9, .one 10 (.alt [(3, .one 5 (.alt [(11, .one 12 (.one 13 (.one 14 .fin))), (13, .one 11 (.one 12 (.one 14 .fin)))])), (11, .alt [(3, .one 5 (.one 12 (.one 13 (.one 14 .fin)))), (13, .one 3 (.one 5 (.one 12 (.one 14 .fin))))]), (13, .alt [(3, .one 5 (.one 11 (.one 12 (.one 14 .fin)))), (11, .one 3 (.one 5 (.one 12 (.one 14 .fin))))])])), (13, .alt [(3, .one 5 (.one 9 (.one 10 (.one 11 (.one 12 (.one 14 .fin)))))), (9, .one 10 (.alt [(3, .one 5 (.one 11 (.one 12 (.one 14 .fin)))), (11, .one 3 (.one 5 (.one 12 (.one 14 .fin))))]))])]))))))))), (24, .pre [9] [0, 1, 2, 3, 5] (.alt [(4, .one 6 (.one 7 (.one 8 .fin))), (6, .one 4 (.one 7 (.one 8 .fin)))]))] mixed Try.call58 Try.func58 rfl Try.ntmps58 Try.results58 (by decide +kernel) rfl ?_
    simp only [push_cast, ↓branch_true, ↓branch_false, Nat.reduceBEq, Nat.reduceAdd, Nat.reduceMul, Nat.reduceSub, Int.reduceToNat, reduceCtorEq, branch_decide, branch_not, branch_beq, branch_bne]
    intro b hb
    rw [hb (by omega)]
    simp only [push_cast, ↓branch_true, ↓branch_false, Nat.reduceBEq, Nat.reduceAdd, Nat.reduceMul, Nat.reduceSub, Int.reduceToNat, reduceCtorEq, branch_decide, branch_not, branch_beq, branch_bne]
    refine ⟨fun _ => ?_, fun h => absurd hret.2 (by omega)⟩
    refine ⟨_, _, vwk_mt [0, 1, 2, 3, 4, 5, 6, 3] (H' := [rPc l, rOwn 3 x0.length xc (fun k => ix x0 k), oSr lim l.length c x0.length xc (bV 7 B bc), deadOb, oFs t, oBs 6 L.length L oc s, oFs s, oBs 4 B.length B bc t]) (r' := .t []) ?_ (by kernel_rfl) ?_, s, t, bc, hs, .refl s, ht, hbc, hB10, rfl, rfl⟩
    · simp only [push_cast, ↓branch_true, ↓branch_false, Nat.reduceBEq, Nat.reduceAdd, Nat.reduceMul, Nat.reduceSub, Int.reduceToNat, reduceCtorEq, branch_decide, branch_not, branch_beq, branch_bne]
    · rw [bV_some hret.1]
      simp only [push_cast, ↓branch_true, ↓branch_false, Nat.reduceBEq, Nat.reduceAdd, Nat.reduceMul, Nat.reduceSub, Int.reduceToNat, reduceCtorEq, branch_decide, branch_not, branch_beq, branch_bne]
  · have hvis : vis l lim (i :: rest) L B = vis l lim rest (L ++ [newB l lim i]) (visF l lim i rest L B L.length) := by simp only [vis, visF]; rw [if_neg hret]
    rw [hvis]
    have hc : B = [] ∨ (B ≠ [] ∧ L.length < B.length) := by
      by_cases e : B = []
      · exact .inl e
      · exact .inr ⟨e, by
          rcases Nat.lt_or_ge L.length B.length with h | h
          · exact h
          · exact absurd ⟨e, h⟩ hret⟩
    have hB0 : B ≠ [] → 0 < B.length := List.length_pos_iff.2
    rcases hc with hB | ⟨hB, hlt⟩
    case' inl =>
      rw [show bV 3 B bc = .v (.slice none 0 0) by rw [hB]; rfl]
      refine sp_wk ?_
      refine sp_of_exa true true [(6, .pre [8] [0, 1, 2, 3, 5, 6, 7, 8, 9, 10] (.alt [(4, .one 11 (.one 12 (.one 13 (.one 14 (.one 15 (.one 16 (.one 17 .fin))))))), (11, .one 12 (.alt [(4, .one 13 (.one 14 (.one 15 (.one 16 (.one 17 .fin))))), (13, .one 4 (.one 14 (.one 15 (.one 16 (.one 17 .fin)))))]))])), (22, .jn (.one 0 (.one 1 (.one 2 (.one 4 (.one 6 (.one 7 (.one 8 (.alt [(3, .one 5 (.alt [(9, .one 10 (.alt [(11, .one 12 (.one 13 (.one 14 .fin))), (13, .one 11 (.one 12 (.one 14 .fin)))])), (13, .one 9 (.one 10 (.one 11 (.one 12 (.one 14 .fin)))))])), (9, .one 10 (.alt [(3, .one 5 (.alt [(11, .one 12 (.one 13 (.one 14 .fin))), (13, .one 11 (.one 12 (.one 14 .fin)))])), (11, .alt [(3, .one 5 (.one 12 (.one 13 (.one 14 .fin)))), (13, .one 3 (.one 5 (.one 12 (.one 14 .fin))))]), (13, .alt [(3, .one 5 (.one 11 (.one 12 (.one 14 .fin)))), (11, .one 3 (.one 5 (.one 12 (.one 14 .fin))))])])), (13, .alt [(3, .one 5 (.one 9 (.one 10 (.one 11 (.one 12 (.one 14 .fin)))))), (9, .one 10 (.alt [(3, .one 5 (.one 11 (.one 12 (.one 14 .fin)))), (11, .one 3 (.one 5 (.one 12 (.one 14 .fin))))]))])]))))))))), (24, .pre [9] [0, 1, 2, 3, 5] (.alt [(4, .one 6 (.one 7 (.one 8 .fin))), (6, .one 4 (.one 7 (.one 8 .fin)))]))] mixed Try.call58 Try.func58 rfl Try.ntmps58 Try.results58 (by decide +kernel) rfl ?_
      simp only [push_cast, ↓branch_true, ↓branch_false, Nat.reduceBEq, Nat.reduceAdd, Nat.reduceMul, Nat.reduceSub, Int.reduceToNat, reduceCtorEq, branch_decide, branch_not, branch_beq, branch_bne]
      refine ⟨fun h => absurd h (by omega), fun _ => ?_⟩
    case' inr =>
      have hB0 := hB0 hB
      rw [bV_some hB]
      refine sp_wk ?_
      refine sp_of_exa true true [(6, .pre [8] [0, 1, 2, 3, 5, 6, 7, 8, 9, 10] (.alt [(4, .one 11 (.one 12 (.one 13 (.one 14 (.one 15 (.one 16 (.one 17 .fin))))))), (11, .one 12 (.alt [(4, .one 13 (.one 14 (.one 15 (.one 16 (.one 17 .fin))))), (13, .one 4 (.one 14 (.one 15 (.one 16 (.one 17 .fin)))))]))])), (22, .jn (.one 0 (.one 1 (.one 2 (.one 4 (.one 6 (.one 7 (.one 8 (.alt [(3, .one 5 (.alt [(9, .one 10 (.alt [(11, .one 12 (.one 13 (.one 14 .fin))), (13, .one 11 (.one 12 (.one 14 .fin)))])), (13, .one 9 (.one 10 (.one 11 (.one 12 (.one 14 .fin)))))])), (9, .one 10 (.alt [(3, .one 5 (.alt [(11, .one 12 (.one 13 (.one 14 .fin))), (13, .one 11 (.one 12 (.one 14 .fin)))])), (11, .alt [(3, .one 5 (.one 12 (.one 13 (.one 14 .fin)))), (13, .one 3 (.one 5 (.one 12 (.one 14 .fin))))]), (13, .alt [(3, .one 5 (.one 11 (.one 12 (.one 14 .fin)))), (11, .one 3 (.one 5 (.one 12 (.one 14 .fin))))])])), (13, .alt [(3, .one 5 (.one 9 (.one 10 (.one 11 (.one 12 (.one 14 .fin)))))), (9, .one 10 (.alt [(3, .one 5 (.one 11 (.one 12 (.one 14 .fin)))), (11, .one 3 (.one 5 (.one 12 (.one 14 .fin))))]))])]))))))))), (24, .pre [9] [0, 1, 2, 3, 5] (.alt [(4, .one 6 (.one 7 (.one 8 .fin))), (6, .one 4 (.one 7 (.one 8 .fin)))]))] mixed Try.call58 Try.func58 rfl Try.ntmps58 Try.results58 (by decide +kernel) rfl ?_
      simp only [push_cast, ↓branch_true, ↓branch_false, Nat.reduceBEq, Nat.reduceAdd, Nat.reduceMul, Nat.reduceSub, Int.reduceToNat, reduceCtorEq, branch_decide, branch_not, branch_beq, branch_bne]
      intro b hb
      rw [hb (by omega)]
      simp only [push_cast, ↓branch_true, ↓branch_false, Nat.reduceBEq, Nat.reduceAdd, Nat.reduceMul, Nat.reduceSub, Int.reduceToNat, reduceCtorEq, branch_decide, branch_not, branch_beq, branch_bne]
      refine ⟨fun h => by omega, fun _ => ?_⟩
      refine ⟨fun h => absurd h (by omega), fun _ => ?_⟩
    all_goals
      repeat (with_reducible refine And.intro (by omega) ?_)
      refine tr_loop mixed (by kernel_rfl) (fun (x : VX) => [(80, .v (.int .i64 x.j)), (79, .v (.int .i64 L.length)), (10, .m 7), (9, .v (.int .i64 (ix l i.toNat).len)), (8, .v (.int .i64 i)), (0, .p 2 0 0), (2, .s 5 0 0 L.length oc 3), (1, .v (.int .i64 k))])
        (fun x => [rPc l, rOwn 3 x0.length xc (fun k => ix x0 k), oSr lim l.length c x0.length xc (bV 8 x.B x.bc), deadOb, oFs x.t, oBs 6 L.length L oc x.s, oFs x.s, ⟨104, false, .mp (.int .i64) x.S.length (gI (hasI x.S))⟩, oBs 4 x.B.length x.B x.bc x.t])
        (VI l lim i rest L B s) (fun x => L.length - x.j) ⟨0, B, bc, s, t, []⟩ ⟨Nat.zero_le _, rfl, hs, .refl s, ht, hbc, hB10, fun v => by simp⟩ (Mt.wk (rl := [0, 1, 2, 3, 4, 5, 6, 7, 3]) ⟨by kernel_rfl, ?_, ?_⟩) ?_
      · simp only [push_cast, ↓branch_true, ↓branch_false, Nat.reduceBEq, Nat.reduceAdd, Nat.reduceMul, Nat.reduceSub, Int.reduceToNat, reduceCtorEq, branch_decide, branch_not, branch_beq, branch_bne, hik]
      · simp only [push_cast, ↓branch_true, ↓branch_false, Nat.reduceBEq, Nat.reduceAdd, Nat.reduceMul, Nat.reduceSub, Int.reduceToNat, reduceCtorEq, branch_decide, branch_not, branch_beq, branch_bne, hik]
        refine ⟨?_, gI_no (fun x => by simp [hasI]) _⟩
        unfold bV
        first
          | rw [if_pos hB]
            simp only [push_cast, ↓branch_true, ↓branch_false, Nat.reduceBEq, Nat.reduceAdd, Nat.reduceMul, Nat.reduceSub, Int.reduceToNat, reduceCtorEq, branch_decide, branch_not, branch_beq, branch_bne]
          | rw [if_neg hB]
            simp only [push_cast, ↓branch_true, ↓branch_false, Nat.reduceBEq, Nat.reduceAdd, Nat.reduceMul, Nat.reduceSub, Int.reduceToNat, reduceCtorEq, branch_decide, branch_not, branch_beq, branch_bne]
      rintro ⟨j, B1, bc1, s1, t1, S⟩ hI
      have hsk := skip_has hI.S
      obtain ⟨h1, h2, h3, h4, h5, h6, h7, h8⟩ := id hI
      simp only at h1 h2 h3 h4 h5 h6 h7 h8 hsk
      simp only [push_cast, ↓branch_true, ↓branch_false, Nat.reduceBEq, Nat.reduceAdd, Nat.reduceMul, Nat.reduceSub, Int.reduceToNat, reduceCtorEq, branch_decide, branch_not, branch_beq, branch_bne]
      refine ⟨fun hjl => ?_, fun hjl => ?_⟩
      · have hj : j < L.length := by omega
        have hyj := hL _ (ix_mem hj)
        have hpj := h3.lt j hj
        have hvj := h3.val j hj
        have hyn := hyj.nn i.toNat (by omega)
        have hy0 := hyj.l0
        have hy1 := hyj.l1
        have hyp := hyj.ps
        repeat (with_reducible refine And.intro (by omega) ?_)
        refine ⟨fun hlt => ?_, fun hlt => ?_⟩
        · rw [decide_eq_true hlt, Bool.or_true] at hsk
          repeat (with_reducible refine And.intro (by omega) ?_)
          refine lpK_normal ⟨j + 1, B1, bc1, s1, t1, S⟩ [0, 1, 2, 3, 4, 5, 6, 7, 8] (vi_skip hI hj hsk) (by simp only; omega) (by kernel_rfl) ?_ ?_
          · simp only [push_cast, ↓branch_true, ↓branch_false, Nat.reduceBEq, Nat.reduceAdd, Nat.reduceMul, Nat.reduceSub, Int.reduceToNat, reduceCtorEq, branch_decide, branch_not, branch_beq, branch_bne]
          · simp only [push_cast, ↓branch_true, ↓branch_false, Nat.reduceBEq, Nat.reduceAdd, Nat.reduceMul, Nat.reduceSub, Int.reduceToNat, reduceCtorEq, branch_decide, branch_not, branch_beq, branch_bne]
        cases hh : hasI S (ix L j).left with
        | true =>
          rw [hh, Bool.true_or] at hsk
          simp only [push_cast, ↓branch_true, ↓branch_false, Nat.reduceBEq, Nat.reduceAdd, Nat.reduceMul, Nat.reduceSub, Int.reduceToNat, reduceCtorEq, branch_decide, branch_not, branch_beq, branch_bne]
          repeat (with_reducible refine And.intro (by omega) ?_)
          refine lpK_normal ⟨j + 1, B1, bc1, s1, t1, S⟩ [0, 1, 2, 3, 4, 5, 6, 7, 8] (vi_skip hI hj hsk) (by simp only; omega) (by kernel_rfl) ?_ ?_
          · simp only [push_cast, ↓branch_true, ↓branch_false, Nat.reduceBEq, Nat.reduceAdd, Nat.reduceMul, Nat.reduceSub, Int.reduceToNat, reduceCtorEq, branch_decide, branch_not, branch_beq, branch_bne]
          · simp only [push_cast, ↓branch_true, ↓branch_false, Nat.reduceBEq, Nat.reduceAdd, Nat.reduceMul, Nat.reduceSub, Int.reduceToNat, reduceCtorEq, branch_decide, branch_not, branch_beq, branch_bne]
        | false =>
          rw [hh, decide_eq_false hlt, Bool.false_or] at hsk
          have hL2 : ∀ b ∈ L.set j (cutB i (ix l i.toNat).len (ix L j)), SmB l rest.length b := fun b hb => by
            rcases List.mem_or_eq_of_mem_set hb with hb | rfl
            · exact smB_less (hL b hb)
            · exact smB_cut hyj ⟨hi0, hil⟩ hmi.1 (by omega)
          have hk2 := upd_ok (b := cutB i (ix l i.toNat).len (ix L j)) h3 hj
          have hyj2 : (cutB i (ix l i.toNat).len (ix L j)).ps = (ix L j).ps.set i.toNat (ix (ix L j).ps i.toNat + 1) := rfl
          simp only [push_cast, ↓branch_true, ↓branch_false, Nat.reduceBEq, Nat.reduceAdd, Nat.reduceMul, Nat.reduceSub, Int.reduceToNat, reduceCtorEq, branch_decide, branch_not, branch_beq, branch_bne, hvj]
          repeat (with_reducible refine And.intro (by omega) ?_)
          have hih := ih (k + 1) (L.set j (cutB i (ix l i.toNat).len (ix L j))) B1 oc bc1 (updV s1 (s1.pi j) (cutB i (ix l i.toNat).len (ix L j)).ps) t1 (by omega) hd1 (by rw [List.length_set]; omega) (by rw [List.length_set]; omega) hL2 hk2 h5 h6 h7
          have hcl : (cutB i (ix l i.toNat).len (ix L j)).ps.length = (ix L j).ps.length := by simp only [cutB, List.length_set]
          refine sp_at hih [0, 1, 2, 8, 4, 5, 6] rfl ?_ ?_ ?_
          · simp only [push_cast, ↓branch_true, ↓branch_false, Nat.reduceBEq, Nat.reduceAdd, Nat.reduceMul, Nat.reduceSub, Int.reduceToNat, reduceCtorEq, branch_decide, branch_not, branch_beq, branch_bne, List.length_set]
          · simp only [push_cast, ↓branch_true, ↓branch_false, Nat.reduceBEq, Nat.reduceAdd, Nat.reduceMul, Nat.reduceSub, Int.reduceToNat, reduceCtorEq, branch_decide, branch_not, branch_beq, branch_bne, List.length_set, updV]
            refine ⟨fun x hx q hq => ?_, fun p hp => ?_⟩
            · obtain rfl : x = 0 := by omega
              by_cases e : q = j
              · subst e
                simp only [push_cast, ↓branch_true, ↓branch_false, Nat.reduceBEq, Nat.reduceAdd, Nat.reduceMul, Nat.reduceSub, Int.reduceToNat, reduceCtorEq, branch_decide, branch_not, branch_beq, branch_bne, ix_set_self hj, hcl]
                exact ⟨rfl, rfl⟩
              · have hb : (q == j) = false := by simpa using e
                simp only [push_cast, ↓branch_true, ↓branch_false, Nat.reduceBEq, Nat.reduceAdd, Nat.reduceMul, Nat.reduceSub, Int.reduceToNat, reduceCtorEq, branch_decide, branch_not, branch_beq, branch_bne, ix_set_ne e, hb]
            · by_cases e : p = s1.pi j
              · subst e
                simp only [push_cast, ↓branch_true, ↓branch_false, Nat.reduceBEq, Nat.reduceAdd, Nat.reduceMul, Nat.reduceSub, Int.reduceToNat, reduceCtorEq, branch_decide, branch_not, branch_beq, branch_bne, hcl, hvj]
                intro q hq
                by_cases e2 : q = i.toNat
                · subst e2
                  simp only [push_cast, ↓branch_true, ↓branch_false, Nat.reduceBEq, Nat.reduceAdd, Nat.reduceMul, Nat.reduceSub, Int.reduceToNat, reduceCtorEq, branch_decide, branch_not, branch_beq, branch_bne, hyj2, ix_set_self (show i.toNat < (ix L j).ps.length by omega)]
                · have hb : (q == i.toNat) = false := by simpa using e2
                  simp only [push_cast, ↓branch_true, ↓branch_false, Nat.reduceBEq, Nat.reduceAdd, Nat.reduceMul, Nat.reduceSub, Int.reduceToNat, reduceCtorEq, branch_decide, branch_not, branch_beq, branch_bne, hyj2, ix_set_ne e2, hb]
              · have hb : (p == s1.pi j) = false := by simpa using e
                simp only [push_cast, ↓branch_true, ↓branch_false, Nat.reduceBEq, Nat.reduceAdd, Nat.reduceMul, Nat.reduceSub, Int.reduceToNat, reduceCtorEq, branch_decide, branch_not, branch_beq, branch_bne, hb]
          rintro _ _ ⟨s3, t3, bc3, g1, g2, g3, g4, g5, rfl, rfl⟩
          have hpi : s3.pi = s1.pi := g2.pi
          have hv3 := g1.val j (by rw [List.length_set]; exact hj)
          have hp3 := g1.lt j (by rw [List.length_set]; exact hj)
          rw [hpi] at hp3
          rw [ix_set_self hj, hpi] at hv3
          have hLj : ix (L.set j (cutB i (ix l i.toNat).len (ix L j))) j = cutB i (ix l i.toNat).len (ix L j) := ix_set_self hj _
          have hvi := vi_try hI hj hsk (upd_back g1 hj) (((h4.trans (updV_keep s1 _ _)).trans g2).trans (updV_keep s3 _ _)) rfl g3 g4 g5
          rw [hpi] at hvi
          have hcle : (cutB i (ix l i.toNat).len (ix L j)).left = (ix L j).left - (ix l i.toNat).len := rfl
          simp only [push_cast, ↓branch_true, ↓branch_false, Nat.reduceBEq, Nat.reduceAdd, Nat.reduceMul, Nat.reduceSub, Int.reduceToNat, reduceCtorEq, branch_decide, branch_not, branch_beq, branch_bne, List.length_set, hLj, hpi, hv3, hcle, hcl]
          rw [hyj2, ix_set_self (show i.toNat < (ix L j).ps.length by omega)]
          repeat (with_reducible refine And.intro (by omega) ?_)
          refine lpK_normal ⟨j + 1, _, bc3, updV s3 (s1.pi j) (ix L j).ps, t3, S ++ [(ix L j).left]⟩ [0, 1, 2, 3, 4, 5, 6, 7, 9] hvi (by simp only; omega) (by kernel_rfl) ?_ ?_
          · simp only [push_cast, ↓branch_true, ↓branch_false, Nat.reduceBEq, Nat.reduceAdd, Nat.reduceMul, Nat.reduceSub, Int.reduceToNat, reduceCtorEq, branch_decide, branch_not, branch_beq, branch_bne]
          · simp only [push_cast, ↓branch_true, ↓branch_false, Nat.reduceBEq, Nat.reduceAdd, Nat.reduceMul, Nat.reduceSub, Int.reduceToNat, reduceCtorEq, branch_decide, branch_not, branch_beq, branch_bne, updV]
            refine ⟨fun x hx q hq => ?_, fun p hp => ?_, by simp, gI_up fun x => hasI_snoc _ _ x⟩
            · obtain rfl : x = 0 := by omega
              by_cases e : q = j
              · subst e
                simp only [push_cast, ↓branch_true, ↓branch_false, Nat.reduceBEq, Nat.reduceAdd, Nat.reduceMul, Nat.reduceSub, Int.reduceToNat, reduceCtorEq, branch_decide, branch_not, branch_beq, branch_bne, hpi, cutB, Int.sub_add_cancel]
              · have hb : (q == j) = false := by simpa using e
                simp only [push_cast, ↓branch_true, ↓branch_false, Nat.reduceBEq, Nat.reduceAdd, Nat.reduceMul, Nat.reduceSub, Int.reduceToNat, reduceCtorEq, branch_decide, branch_not, branch_beq, branch_bne, ix_set_ne e, hb, hpi]
            · by_cases e : p = s1.pi j
              · subst e
                simp only [push_cast, ↓branch_true, ↓branch_false, Nat.reduceBEq, Nat.reduceAdd, Nat.reduceMul, Nat.reduceSub, Int.reduceToNat, reduceCtorEq, branch_decide, branch_not, branch_beq, branch_bne, hv3, hcl]
                intro q hq
                by_cases e2 : q = i.toNat
                · subst e2
                  simp only [push_cast, ↓branch_true, ↓branch_false, Nat.reduceBEq, Nat.reduceAdd, Nat.reduceMul, Nat.reduceSub, Int.reduceToNat, reduceCtorEq, branch_decide, branch_not, branch_beq, branch_bne, Int.add_sub_cancel]
                · have hb : (q == i.toNat) = false := by simpa using e2
                  simp only [push_cast, ↓branch_true, ↓branch_false, Nat.reduceBEq, Nat.reduceAdd, Nat.reduceMul, Nat.reduceSub, Int.reduceToNat, reduceCtorEq, branch_decide, branch_not, branch_beq, branch_bne, hyj2, ix_set_ne e2, hb]
              · have hb : (p == s1.pi j) = false := by simpa using e
                simp only [push_cast, ↓branch_true, ↓branch_false, Nat.reduceBEq, Nat.reduceAdd, Nat.reduceMul, Nat.reduceSub, Int.reduceToNat, reduceCtorEq, branch_decide, branch_not, branch_beq, branch_bne, hb]
      · obtain rfl : j = L.length := by omega
        refine ⟨[(12, .p 9 0 0), (9, .v (.int .i64 (ix l i.toNat).len)), (8, .v (.int .i64 i)), (0, .p 2 0 0), (1, .v (.int .i64 k)), (2, .s 5 0 0 L.length oc 3)], [rPc l, rOwn 3 x0.length xc (fun k => ix x0 k), oSr lim l.length c x0.length xc (bV 8 B1 bc1), deadOb, oFs t1, oBs 6 L.length L oc s1, oFs (addV s1 L.length (zeros l.length) l.length), deadOb, oBs 4 B1.length B1 bc1 t1, ⟨82, false, .st [.v (.int .i64 0), .v (.int .i64 (lim - (ix l i.toNat).len)), .s 6 s1.M 0 l.length l.length 1]⟩], ?_, ?_⟩
        · have hzl := zeros_len l.length
          repeat' first
            | with_reducible apply And.intro
            | (refine Or.inr ?_)
          all_goals first
            | omega
            | (refine ⟨6, ?_⟩
               simp only [push_cast, ↓branch_true, ↓branch_false, Nat.reduceBEq, Nat.reduceAdd, Nat.reduceMul, Nat.reduceSub, Int.reduceToNat, reduceCtorEq, branch_decide, branch_not, branch_beq, branch_bne]
               repeat' (with_reducible apply And.intro)
               all_goals first
                 | omega
                 | (refine Mt.wk (rl := [0, 1, 2, 3, 4, 5, 6, 1000, 8, 9]) ⟨by kernel_rfl, ?_, ?_⟩
                    · simp only [push_cast, ↓branch_true, ↓branch_false, Nat.reduceBEq, Nat.reduceAdd, Nat.reduceMul, Nat.reduceSub, Int.reduceToNat, reduceCtorEq, branch_decide, branch_not, branch_beq, branch_bne]
                    · simp only [push_cast, ↓branch_true, ↓branch_false, Nat.reduceBEq, Nat.reduceAdd, Nat.reduceMul, Nat.reduceSub, Int.reduceToNat, reduceCtorEq, branch_decide, branch_not, branch_beq, branch_bne, addV]
                      intro p hp
                      cases p == s1.M with
                      | true => exact ⟨by simp only [cond_true]; omega, fun q _ => by simp only [cond_true, zeros_ix]; (simp only [push_cast, ↓branch_true, ↓branch_false, Nat.reduceBEq, Nat.reduceAdd, Nat.reduceMul, Nat.reduceSub, Int.reduceToNat, reduceCtorEq, branch_decide, branch_not, branch_beq, branch_bne])⟩
                      | false => exact ⟨Nat.le_refl _, fun q _ => by (simp only [push_cast, ↓branch_true, ↓branch_false, Nat.reduceBEq, Nat.reduceAdd, Nat.reduceMul, Nat.reduceSub, Int.reduceToNat, reduceCtorEq, branch_decide, branch_not, branch_beq, branch_bne])⟩
                    )
               )
        simp only [push_cast, ↓branch_true, ↓branch_false, Nat.reduceBEq, Nat.reduceAdd, Nat.reduceMul, Nat.reduceSub, Int.reduceToNat, reduceCtorEq, branch_decide, branch_not, branch_beq, branch_bne, jnK]
        have a1 : s1.M < (addV s1 L.length (zeros l.length) l.length).M := by simp only [addV]; omega
        have a2 : ((addV s1 L.length (zeros l.length) l.length).G s1.M).length = l.length := by simp [addV, zeros_len]
        have hl1 : (L ++ [newB l lim i]).length = L.length + 1 := by simp
        have hNp : (newB l lim i).ps = (zeros l.length).set i.toNat (ix (zeros l.length) i.toNat + 1) := rfl
        have hNl : (newB l lim i).ps.length = l.length := by rw [hNp, List.length_set, zeros_len]
        have hL3 : ∀ b ∈ L ++ [newB l lim i], SmB l rest.length b := fun b hb => by
          rcases List.mem_append.1 hb with hb | hb
          · exact smB_less (hL b hb)
          · simp only [List.mem_singleton] at hb
            subst hb
            exact smB_new (by omega) ⟨hi0, hil⟩ hmi.1 him h2l
        repeat (with_reducible refine And.intro (by omega) ?_)
        have hih := fun c2 => ih (k + 1) (L ++ [newB l lim i]) B1 c2 bc1 (addV s1 L.length (newB l lim i).ps l.length) t1 (by omega) hd1 (by omega) (by omega) hL3 (add_ok h3) h5 h6 h7
        rw [← h2]
        repeat' (with_reducible apply And.intro)
        all_goals
          try (refine Or.inl ?_)
          try (refine ⟨by omega, ?_⟩)
          refine sp_at (clipB_sp L.length oc L s1 (addV s1 L.length (zeros l.length) l.length).M (fun p => ((addV s1 L.length (zeros l.length) l.length).G p).length) (addV s1 L.length (zeros l.length) l.length).cp (fun p q => bif (p == s1.M && q == i.toNat) then 1 else ix ((addV s1 L.length (zeros l.length) l.length).G p) q)) [5, 6] rfl ?_ ?_ ?_
          · simp only [push_cast, ↓branch_true, ↓branch_false, Nat.reduceBEq, Nat.reduceAdd, Nat.reduceMul, Nat.reduceSub, Int.reduceToNat, reduceCtorEq, branch_decide, branch_not, branch_beq, branch_bne]
          · simp only [push_cast, ↓branch_true, ↓branch_false, Nat.reduceBEq, Nat.reduceAdd, Nat.reduceMul, Nat.reduceSub, Int.reduceToNat, reduceCtorEq, branch_decide, branch_not, branch_beq, branch_bne]
            intro p hp q hq
            cases (p == s1.M && q == i.toNat) <;> (simp only [push_cast, ↓branch_true, ↓branch_false, Nat.reduceBEq, Nat.reduceAdd, Nat.reduceMul, Nat.reduceSub, Int.reduceToNat, reduceCtorEq, branch_decide, branch_not, branch_beq, branch_bne])
          rintro _ _ ⟨rfl, rfl⟩
          simp only [push_cast, ↓branch_true, ↓branch_false, Nat.reduceBEq, Nat.reduceAdd, Nat.reduceMul, Nat.reduceSub, Int.reduceToNat, reduceCtorEq, branch_decide, branch_not, branch_beq, branch_bne]
          try (refine Or.inl ?_)
          repeat (with_reducible refine And.intro (by omega) ?_)
          refine Or.inr (Or.inr (Or.inl ⟨fun h => by omega, fun _ => ?_⟩))
          repeat (with_reducible refine And.intro (by omega) ?_)
          intro c2 hc2
          refine sp_at (hih c2) [0, 1, 2, 8, 4, 11, 6] rfl ?_ ?_ ?_
          · simp only [push_cast, ↓branch_true, ↓branch_false, Nat.reduceBEq, Nat.reduceAdd, Nat.reduceMul, Nat.reduceSub, Int.reduceToNat, reduceCtorEq, branch_decide, branch_not, branch_beq, branch_bne, hl1]
          · simp only [push_cast, ↓branch_true, ↓branch_false, Nat.reduceBEq, Nat.reduceAdd, Nat.reduceMul, Nat.reduceSub, Int.reduceToNat, reduceCtorEq, branch_decide, branch_not, branch_beq, branch_bne, hl1]
            refine ⟨fun x hx q hq => ?_, rfl, fun p hp => ⟨?_, ?_, fun q hq => ?_⟩⟩
            · by_cases e : q < L.length
              · have hb2 : decide (q < L.length) = true := by simpa using e
                have hp := h3.lt q e
                have hb : (s1.pi q == s1.M) = false := by simp; omega
                rw [ix_app_ne (by omega)]
                simp only [addV, hb2, cond_true, hb, cond_false]
                simp only [push_cast, ↓branch_true, ↓branch_false, Nat.reduceBEq, Nat.reduceAdd, Nat.reduceMul, Nat.reduceSub, Int.reduceToNat, reduceCtorEq, branch_decide, branch_not, branch_beq, branch_bne]
              · obtain rfl : q = L.length := by omega
                have hb2 : decide (L.length < L.length) = false := by simp
                rw [ix_app_last]
                simp only [addV, hb2, cond_false, beq_self_eq_true, cond_true, hNl]
                simp only [push_cast, ↓branch_true, ↓branch_false, Nat.reduceBEq, Nat.reduceAdd, Nat.reduceMul, Nat.reduceSub, Int.reduceToNat, reduceCtorEq, branch_decide, branch_not, branch_beq, branch_bne]
                exact ⟨rfl, rfl⟩
            · simp only [addV]
              cases p == s1.M with
              | true => simp only [cond_true]; rw [hNl, zeros_len]; exact Nat.le_refl _
              | false => exact Nat.le_refl _
            · rfl
            · simp only [addV] at hq ⊢
              by_cases e : p = s1.M
              · subst e
                simp only [beq_self_eq_true, cond_true, Bool.true_and] at hq ⊢
                rw [hNl] at hq
                rw [hNp, zeros_ix, zeros_ix]
                by_cases e2 : q = i.toNat
                · subst e2
                  rw [ix_set_self (show i.toNat < (zeros l.length).length by rw [zeros_len]; omega)]
                  simp
                · have hb : (q == i.toNat) = false := by simpa using e2
                  rw [ix_set_ne e2, hb, zeros_ix]; rfl
              · have hb : (p == s1.M) = false := by simpa using e
                simp only [hb, cond_false, Bool.false_and]
          rintro _ _ ⟨s3, t3, bc3, g1, g2, g3, g4, g5, rfl, rfl⟩
          simp only [push_cast, ↓branch_true, ↓branch_false, Nat.reduceBEq, Nat.reduceAdd, Nat.reduceMul, Nat.reduceSub, Int.reduceToNat, reduceCtorEq, branch_decide, branch_not, branch_beq, branch_bne]
          have hpi : s3.pi = (addV s1 L.length (newB l lim i).ps l.length).pi := g2.pi
          refine ⟨_, _, vwk_mt [0, 1, 2, 3, 4, 5, 6, 12] (H' := [rPc l, rOwn 3 x0.length xc (fun k => ix x0 k), oSr lim l.length c x0.length xc (bV 7 (vis l lim rest (L ++ [newB l lim i]) B1) bc3), deadOb, oFs t3, oBs 6 L.length L oc ⟨s3.M, s3.G, s3.cp, s1.pi⟩, oFs ⟨s3.M, s3.G, s3.cp, s1.pi⟩, oBs 4 (vis l lim rest (L ++ [newB l lim i]) B1).length (vis l lim rest (L ++ [newB l lim i]) B1) bc3 t3]) (r' := .t []) ?_ (by kernel_rfl) ?_, ⟨s3.M, s3.G, s3.cp, s1.pi⟩, t3, bc3, addV_back g1 g2, h4.trans (addV_keep g2), g3, g4, g5, rfl, rfl⟩
          · simp only [push_cast, ↓branch_true, ↓branch_false, Nat.reduceBEq, Nat.reduceAdd, Nat.reduceMul, Nat.reduceSub, Int.reduceToNat, reduceCtorEq, branch_decide, branch_not, branch_beq, branch_bne]
          · simp only [push_cast, ↓branch_true, ↓branch_false, Nat.reduceBEq, Nat.reduceAdd, Nat.reduceMul, Nat.reduceSub, Int.reduceToNat, reduceCtorEq, branch_decide, branch_not, branch_beq, branch_bne]
            intro x hx q hq
            exact (addV_keep g2).cp _ (h3.lt q hq)
theorem visit_sp (l : List Pc) (lim : Int) (c xc : Nat) (x0 : List Int) (hvo : orderB l = true) (h0l : 0 < l.length) (h1l : 1 ≤ lim) (h2l : lim ≤ 1048576) (hx : ∀ i ∈ x0, 0 ≤ i ∧ i < l.length ∧ (ix l i.toNat).len ≤ lim) (hx0 : x0.length ≤ 10) : ∀ rest, VisC l lim c xc x0 rest
  | [] => vis_nil l lim c xc x0 hvo h0l hx0
  | _ :: rest => vis_cons l lim c xc x0 hvo h1l h2l hx hx0 (visit_sp l lim c xc x0 hvo h0l h1l h2l hx hx0 rest)
end Go.Proofs.Ythlpfjcjfhdmaaa
