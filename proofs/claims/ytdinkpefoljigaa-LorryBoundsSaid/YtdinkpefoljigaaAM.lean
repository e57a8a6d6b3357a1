/- The search of exact loads: the walk. -/
import Derived.Test.YtdinkpefoljigaaAL
set_option maxRecDepth 100000
set_option linter.unusedSimpArgs false
set_option linter.unusedVariables false
namespace Go.Proofs.Ytdinkpefoljigaa
open Go.RowKit
/-- What has been found so far: nothing, or a list. -/
def bV (j : Nat) (B : List (List Int)) (bc : Nat) : SV := if B = [] then .v (.slice none 0 0) else .s j 0 0 B.length bc 1
theorem bV_nil {j bc : Nat} : bV j [] bc = .v (.slice none 0 0) := rfl
theorem bV_some {j bc : Nat} {B : List (List Int)} (h : B ≠ []) : bV j B bc = .s j 0 0 B.length bc 1 := if_neg h
@[push_cast] theorem rn1_bV {rl : List Nat} {n j bc : Nat} {B : List (List Int)} : rn1 rl n (bV j B bc) = bV (rnI rl n j) B bc := by
  unfold bV; split <;> rfl
@[push_cast] theorem jn1_bV {F N c j bc : Nat} {B : List (List Int)} (h : (j == c) = false) : jn1 F N c (bV j B bc) = bV j B bc := by
  unfold bV
  split
  · rfl
  · simp only [jn1, h, cond_false]
@[push_cast] theorem mt_bV {rl : List Nat} {j i bc : Nat} {B : List (List Int)} (h : nth rl j = some i) : mt rl (bV j B bc) (bV i B bc) = True := by
  unfold bV
  split <;> simp [mt, h]
/-- The search's own object. -/
def oSr (n c m xc : Nat) (most : Int) (b : SV) : Ob := ⟨72, false, .st [.s 0 0 0 n c 4, .s 1 0 0 m xc 1, .v (.int .i64 most), b]⟩
attribute [push_cast] oSr
theorem lnF_take {L : List (List Int)} {j k : Nat} (h : k < j) : lnF (L.take j) k = lnF L k := by
  unfold lnF
  congr 1
  unfold ix
  rw [List.getD_eq_getElem?_getD, List.getD_eq_getElem?_getD, List.getElem?_take_of_lt h]
structure Lim (l : List Bun) (most : Int) (n : Nat) (L : List (List Int)) : Prop where
  len : L.length + n ≤ 12
  each : ∀ y ∈ L, y ≠ [] ∧ y.length + n ≤ 12 ∧ 0 ≤ massL l y ∧ massL l y ≤ most
/-- What a search comes to: the bundles of `rest` are left. -/
def VisC (l : List Bun) (most : Int) (c xc : Nat) (x0 rest : List Int) : Prop :=
    ∀ (k : Nat) (L B : List (List Int)) (oc mc bc : Nat) (s t : VS), k + rest.length = x0.length → x0.drop k = rest → 0 < L.length + rest.length → Lim l most rest.length L → VOk L s → VOk B t → B.length ≤ bc → B.length ≤ 12 →
    Sp Try.prog 46 [.p 2 0 0, .v (.int .i64 k), .s 5 0 0 L.length oc 1, .s 7 0 0 L.length mc 1]
      [rB l, rOwn 3 x0.length xc (fun k => ix x0 k), oSr l.length c x0.length xc most (bV 3 B bc), oLd 4 B.length bc t.pi (lnF B) t.fc, oFm t.M t.fl t.fc t.ff, oLd 6 L.length oc s.pi (lnF L) s.fc, oFm s.M s.fl s.fc s.ff, rIO (msL l L) mc]
      (fun r H => ∃ (s' t' : VS) (bc' : Nat), VOk L s' ∧ Keep L.length (lnF L) s s' ∧ VOk (vis l most rest L B) t' ∧ (vis l most rest L B).length ≤ bc' ∧ (vis l most rest L B).length ≤ 12 ∧ r = .t [] ∧
        H = [rB l, rOwn 3 x0.length xc (fun k => ix x0 k), oSr l.length c x0.length xc most (bV 8 (vis l most rest L B) bc'), deadOb, oFm t'.M t'.fl t'.fc t'.ff, oLd 6 L.length oc s'.pi (lnF L) s'.fc, oFm s'.M s'.fl s'.fc s'.ff, rIO (msL l L) mc,
          oLd 4 (vis l most rest L B).length bc' t'.pi (lnF (vis l most rest L B)) t'.fc])
set_option maxHeartbeats 4000000 in
theorem vis_nil (l : List Bun) (most : Int) (c xc : Nat) (x0 : List Int) (hv : vB l = true) (hm1 : 1 ≤ most) (hm2 : most ≤ 1099511627776) (hx : ∀ i ∈ x0, 0 ≤ i ∧ i < l.length ∧ (ix l i.toNat).mass ≤ most) (hx0 : x0.length ≤ 12) : VisC l most c xc x0 [] := by
  intro k L B oc mc bc s t hk hd h0 hL hs ht hbc hB12
  have hL0 : L ≠ [] := List.length_pos_iff.1 (by simpa using h0)
  obtain rfl : k = x0.length := by simpa using hk
  have hLn := hL.len
  by_cases hret : B ≠ [] ∧ B.length ≤ L.length
  · have hvis : vis l most [] L B = B := by simp only [vis]; rw [if_pos hret]
    rw [hvis]
    have hB0 : 0 < B.length := List.length_pos_iff.2 hret.1
    rw [bV_some hret.1]
    refine sp_wk ?_
    refine sp_of_exa true true [(6, .one 0 (.one 1 (.one 2 (.one 3 (.one 5 (.alt [(4, .one 6 (.one 7 (.one 8 (.one 9 (.one 10 (.one 11 .fin)))))), (6, .alt [(4, .one 7 (.one 8 (.one 9 (.one 10 (.one 11 .fin))))), (7, .one 4 (.one 8 (.one 9 (.one 10 (.one 11 .fin)))))])])))))), (14, .one 0 (.one 1 (.one 2 (.one 3 (.one 4 (.one 5 (.one 6 (.one 7 (.one 8 (.one 9 (.one 11 (.one 13 (.one 14 (.one 15 (.alt [(10, .one 12 (.one 16 (.one 17 (.one 18 .fin)))), (16, .one 10 (.one 12 (.one 17 (.one 18 .fin))))]))))))))))))))), (20, .one 0 (.one 1 (.one 2 (.one 3 (.one 4 (.one 6 (.one 7 (.one 8 (.alt [(5, .one 9 (.one 10 (.one 11 (.one 12 (.one 13 (.one 14 .fin)))))), (9, .one 10 (.one 11 (.one 5 (.one 12 (.one 13 (.one 14 .fin))))))])))))))))] mixed Try.call46 Try.func46 rfl Try.ntmps46 Try.results46 (by decide +kernel) rfl ?_
    simp only [push_cast, ↓branch_true, ↓branch_false, Nat.reduceBEq, Nat.reduceAdd, Nat.reduceMul, Nat.reduceSub, Int.reduceToNat, reduceCtorEq, branch_decide, branch_not, branch_beq, branch_bne]
    intro b hb
    rw [hb (by omega)]
    simp only [push_cast, ↓branch_true, ↓branch_false, Nat.reduceBEq, Nat.reduceAdd, Nat.reduceMul, Nat.reduceSub, Int.reduceToNat, reduceCtorEq, branch_decide, branch_not, branch_beq, branch_bne]
    refine ⟨fun _ => ?_, fun h => absurd hret.2 (by omega)⟩
    refine ⟨_, _, vwk_mt [0, 1, 2, 3, 4, 5, 6, 7, 3] (H' := [rB l, rOwn 3 x0.length xc (fun k => ix x0 k), oSr l.length c x0.length xc most (bV 8 B bc), deadOb, oFm t.M t.fl t.fc t.ff, oLd 6 L.length oc s.pi (lnF L) s.fc, oFm s.M s.fl s.fc s.ff, rIO (msL l L) mc, oLd 4 B.length bc t.pi (lnF B) t.fc]) (r' := .t []) ?_ (by kernel_rfl) ?_, s, t, bc, hs, .refl hs.len, ht, hbc, hB12, rfl, rfl⟩
    · simp only [push_cast, ↓branch_true, ↓branch_false, Nat.reduceBEq, Nat.reduceAdd, Nat.reduceMul, Nat.reduceSub, Int.reduceToNat, reduceCtorEq, branch_decide, branch_not, branch_beq, branch_bne]
    · rw [bV_some hret.1]
      simp only [push_cast, ↓branch_true, ↓branch_false, Nat.reduceBEq, Nat.reduceAdd, Nat.reduceMul, Nat.reduceSub, Int.reduceToNat, reduceCtorEq, branch_decide, branch_not, branch_beq, branch_bne]
  · have hvis : vis l most [] L B = L := by simp only [vis]; rw [if_neg hret]
    rw [hvis]
    have hc : B = [] ∨ (B ≠ [] ∧ L.length < B.length) := by
      by_cases e : B = []
      · exact .inl e
      · exact .inr ⟨e, by
          rcases Nat.lt_or_ge L.length B.length with h | h
          · exact h
          · exact absurd ⟨e, h⟩ hret⟩
    have hB0 : B ≠ [] → 0 < B.length := List.length_pos_iff.2
    rcases hc with hB | ⟨hB, hlt⟩
    case' inl =>
      rw [hB, bV_nil]
      refine sp_wk ?_
      refine sp_of_exa true true [(6, .one 0 (.one 1 (.one 2 (.one 3 (.one 5 (.alt [(4, .one 6 (.one 7 (.one 8 (.one 9 (.one 10 (.one 11 .fin)))))), (6, .alt [(4, .one 7 (.one 8 (.one 9 (.one 10 (.one 11 .fin))))), (7, .one 4 (.one 8 (.one 9 (.one 10 (.one 11 .fin)))))])])))))), (14, .one 0 (.one 1 (.one 2 (.one 3 (.one 4 (.one 5 (.one 6 (.one 7 (.one 8 (.one 9 (.one 11 (.one 13 (.one 14 (.one 15 (.alt [(10, .one 12 (.one 16 (.one 17 (.one 18 .fin)))), (16, .one 10 (.one 12 (.one 17 (.one 18 .fin))))]))))))))))))))), (20, .one 0 (.one 1 (.one 2 (.one 3 (.one 4 (.one 6 (.one 7 (.one 8 (.alt [(5, .one 9 (.one 10 (.one 11 (.one 12 (.one 13 (.one 14 .fin)))))), (9, .one 10 (.one 11 (.one 5 (.one 12 (.one 13 (.one 14 .fin))))))])))))))))] mixed Try.call46 Try.func46 rfl Try.ntmps46 Try.results46 (by decide +kernel) rfl ?_
      simp only [push_cast, ↓branch_true, ↓branch_false, Nat.reduceBEq, Nat.reduceAdd, Nat.reduceMul, Nat.reduceSub, Int.reduceToNat, reduceCtorEq, branch_decide, branch_not, branch_beq, branch_bne]
    case' inr =>
      have hB0 := hB0 hB
      rw [bV_some hB]
      refine sp_wk ?_
      refine sp_of_exa true true [(6, .one 0 (.one 1 (.one 2 (.one 3 (.one 5 (.alt [(4, .one 6 (.one 7 (.one 8 (.one 9 (.one 10 (.one 11 .fin)))))), (6, .alt [(4, .one 7 (.one 8 (.one 9 (.one 10 (.one 11 .fin))))), (7, .one 4 (.one 8 (.one 9 (.one 10 (.one 11 .fin)))))])])))))), (14, .one 0 (.one 1 (.one 2 (.one 3 (.one 4 (.one 5 (.one 6 (.one 7 (.one 8 (.one 9 (.one 11 (.one 13 (.one 14 (.one 15 (.alt [(10, .one 12 (.one 16 (.one 17 (.one 18 .fin)))), (16, .one 10 (.one 12 (.one 17 (.one 18 .fin))))]))))))))))))))), (20, .one 0 (.one 1 (.one 2 (.one 3 (.one 4 (.one 6 (.one 7 (.one 8 (.alt [(5, .one 9 (.one 10 (.one 11 (.one 12 (.one 13 (.one 14 .fin)))))), (9, .one 10 (.one 11 (.one 5 (.one 12 (.one 13 (.one 14 .fin))))))])))))))))] mixed Try.call46 Try.func46 rfl Try.ntmps46 Try.results46 (by decide +kernel) rfl ?_
      simp only [push_cast, ↓branch_true, ↓branch_false, Nat.reduceBEq, Nat.reduceAdd, Nat.reduceMul, Nat.reduceSub, Int.reduceToNat, reduceCtorEq, branch_decide, branch_not, branch_beq, branch_bne]
      intro b hb
      rw [hb (by omega)]
      simp only [push_cast, ↓branch_true, ↓branch_false, Nat.reduceBEq, Nat.reduceAdd, Nat.reduceMul, Nat.reduceSub, Int.reduceToNat, reduceCtorEq, branch_decide, branch_not, branch_beq, branch_bne]
      refine ⟨fun h => by omega, fun _ => ?_⟩
    all_goals
      refine tr_loop mixed (by kernel_rfl) (fun (x : Nat × Nat × VS) => [(41, .v (.int .i64 x.1)), (40, .v (.int .i64 L.length)), (39, .s 5 0 0 L.length oc 1), (0, .p 2 0 0)])
        (fun x => [rB l, rOwn 3 x0.length xc (fun k => ix x0 k), oSr l.length c x0.length xc most (.s 8 0 0 x.1 x.2.1 1), deadOb, oFm x.2.2.M x.2.2.fl x.2.2.fc x.2.2.ff, oLd 6 L.length oc s.pi (lnF L) s.fc, oFm s.M s.fl s.fc s.ff, rIO (msL l L) mc, oLd 4 x.1 x.2.1 x.2.2.pi (lnF L) x.2.2.fc])
        (fun x => x.1 ≤ L.length ∧ VOk (L.take x.1) x.2.2 ∧ x.1 ≤ x.2.1) (fun x => L.length - x.1) (0, 0, t) ⟨Nat.zero_le _, ⟨fun k hk => by simp at hk, fun k hk => by simp at hk, fun k hk => by simp at hk, fun a b ha => by simp at ha, fun k hk => by simp at hk⟩, Nat.le_refl _⟩ (Mt.wk (rl := [0, 1, 2, 3, 4, 5, 6, 7, 8]) ⟨by kernel_rfl, ?_, ?_⟩) ?_
      · simp only [push_cast, ↓branch_true, ↓branch_false, Nat.reduceBEq, Nat.reduceAdd, Nat.reduceMul, Nat.reduceSub, Int.reduceToNat, reduceCtorEq, branch_decide, branch_not, branch_beq, branch_bne]
      · simp only [push_cast, ↓branch_true, ↓branch_false, Nat.reduceBEq, Nat.reduceAdd, Nat.reduceMul, Nat.reduceSub, Int.reduceToNat, reduceCtorEq, branch_decide, branch_not, branch_beq, branch_bne]
      rintro ⟨j, bc1, t1⟩ ⟨h1, h2, h3⟩
      simp only at h1 h2 h3
      simp only [push_cast, ↓branch_true, ↓branch_false, Nat.reduceBEq, Nat.reduceAdd, Nat.reduceMul, Nat.reduceSub, Int.reduceToNat, reduceCtorEq, branch_decide, branch_not, branch_beq, branch_bne]
      refine ⟨fun h4 => ?_, fun h4 => ?_⟩
      · have hj : j < L.length := by omega
        have hyj := hL.each _ (ix_mem hj)
        have hyp : 0 < lnF L j := List.length_pos_iff.2 hyj.1
        have hyl : lnF L j ≤ 12 := by have := hyj.2.1; unfold lnF; omega
        have hpj := hs.lt j hj
        repeat (with_reducible refine And.intro (by omega) ?_)
        have hcl := cloneF_sp s.M (s.pi j) (lnF L j) s.fl s.fc s.ff hpj hyp (by omega) (hs.len j hj)
        refine ⟨?_, ?_⟩
        all_goals
          refine sp_at hcl [6] rfl ?_ ?_ ?_
          · simp only [push_cast, ↓branch_true, ↓branch_false, Nat.reduceBEq, Nat.reduceAdd, Nat.reduceMul, Nat.reduceSub, Int.reduceToNat, reduceCtorEq, branch_decide, branch_not, branch_beq, branch_bne]
          · simp only [push_cast, ↓branch_true, ↓branch_false, Nat.reduceBEq, Nat.reduceAdd, Nat.reduceMul, Nat.reduceSub, Int.reduceToNat, reduceCtorEq, branch_decide, branch_not, branch_beq, branch_bne]
          rintro _ _ ⟨c1, hc1, rfl, rfl⟩
          simp only [push_cast, ↓branch_true, ↓branch_false, Nat.reduceBEq, Nat.reduceAdd, Nat.reduceMul, Nat.reduceSub, Int.reduceToNat, reduceCtorEq, branch_decide, branch_not, branch_beq, branch_bne]
          first
            | refine Or.inl ?_
            | (refine ⟨?_, ?_⟩ <;> refine Or.inl ?_)
          all_goals
            repeat (with_reducible refine And.intro (by omega) ?_)
            refine Or.inr (Or.inl ?_)
            repeat (with_reducible refine And.intro (by omega) ?_)
            intro c2 hc2
            repeat (with_reducible refine And.intro (by omega) ?_)
            have hlt : (L.take j).length = j := by rw [List.length_take]; omega
            have hB1 := addB_ok (c := c1) h2 hc1 (hs.val j hj)
            rw [hlt, ← take_snoc hj] at hB1
            refine lpK_wk (j + 1, c2, addB t1 j (ix L j).length c1 (fun q => s.ff (s.pi j) q)) ⟨by simp only; omega, hB1, by simp only; omega⟩ (by simp only; omega) ((swk_join 4 9 (by omega) (by omega) ?_).trans (Mt.wk (rl := [0, 1, 2, 3, 4, 5, 6, 7, 11]) ⟨by kernel_rfl, ?_, ?_⟩))
            · simp only [push_cast, ↓branch_true, ↓branch_false, Nat.reduceBEq, Nat.reduceAdd, Nat.reduceMul, Nat.reduceSub, Int.reduceToNat, reduceCtorEq, branch_decide, branch_not, branch_beq, branch_bne]
            · simp only [push_cast, ↓branch_true, ↓branch_false, Nat.reduceBEq, Nat.reduceAdd, Nat.reduceMul, Nat.reduceSub, Int.reduceToNat, reduceCtorEq, branch_decide, branch_not, branch_beq, branch_bne]
            · simp only [push_cast, ↓branch_true, ↓branch_false, Nat.reduceBEq, Nat.reduceAdd, Nat.reduceMul, Nat.reduceSub, Int.reduceToNat, reduceCtorEq, branch_decide, branch_not, branch_beq, branch_bne]
              refine ⟨⟨rfl, fun a _ => ⟨Nat.le_refl _, rfl, fun k _ => ?_⟩⟩, fun i1 _ k hk => ?_⟩
              · simp only [addB]
                cases a == t1.M <;> (simp only [push_cast, ↓branch_true, ↓branch_false, Nat.reduceBEq, Nat.reduceAdd, Nat.reduceMul, Nat.reduceSub, Int.reduceToNat, reduceCtorEq, branch_decide, branch_not, branch_beq, branch_bne])
              · by_cases e : k < j
                · have hp := h2.lt k (by omega)
                  have hb : (t1.pi k == t1.M) = false := by simp; omega
                  simp only [addB, e, decide_true, cond_true, hb, cond_false]
                  simp only [push_cast, ↓branch_true, ↓branch_false, Nat.reduceBEq, Nat.reduceAdd, Nat.reduceMul, Nat.reduceSub, Int.reduceToNat, reduceCtorEq, branch_decide, branch_not, branch_beq, branch_bne]
                · obtain rfl : k = j := by omega
                  have hb : decide (k < k) = false := by simp
                  simp only [addB, hb, cond_false, beq_self_eq_true, cond_true]
                  simp only [push_cast, ↓branch_true, ↓branch_false, Nat.reduceBEq, Nat.reduceAdd, Nat.reduceMul, Nat.reduceSub, Int.reduceToNat, reduceCtorEq, branch_decide, branch_not, branch_beq, branch_bne]
      · obtain rfl : j = L.length := by omega
        rw [List.take_length] at h2
        refine ⟨_, _, vwk_mt [0, 1, 2, 3, 4, 5, 6, 7, 8] (H' := [rB l, rOwn 3 x0.length xc (fun k => ix x0 k), oSr l.length c x0.length xc most (bV 8 L bc1), deadOb, oFm t1.M t1.fl t1.fc t1.ff, oLd 6 L.length oc s.pi (lnF L) s.fc, oFm s.M s.fl s.fc s.ff, rIO (msL l L) mc, oLd 4 L.length bc1 t1.pi (lnF L) t1.fc]) (r' := .t []) ?_ (by kernel_rfl) ?_, s, t1, bc1, hs, .refl hs.len, h2, h3, by omega, rfl, rfl⟩
        · simp only [push_cast, ↓branch_true, ↓branch_false, Nat.reduceBEq, Nat.reduceAdd, Nat.reduceMul, Nat.reduceSub, Int.reduceToNat, reduceCtorEq, branch_decide, branch_not, branch_beq, branch_bne]
        · rw [bV_some hL0]
          simp only [push_cast, ↓branch_true, ↓branch_false, Nat.reduceBEq, Nat.reduceAdd, Nat.reduceMul, Nat.reduceSub, Int.reduceToNat, reduceCtorEq, branch_decide, branch_not, branch_beq, branch_bne]
end Go.Proofs.Ytdinkpefoljigaa
