/- The search of the least number of lengths: its objects, and the end of a way. -/
import Derived.Test.YthlpfjcjfhdmaaaVB
import Derived.Test.YthlpfjcjfhdmaaaI
set_option maxRecDepth 100000
set_option linter.unusedSimpArgs false
set_option linter.unusedVariables false
namespace Go.Proofs.Ythlpfjcjfhdmaaa
open Go.RowKit
/-- A family, and where the bars' numbers lie in it. -/
structure VS where
  M : Nat
  G : Nat → List Int
  cp : Nat → Nat
  pi : Nat → Nat
def oFs (s : VS) : Ob := ⟨3, false, .row 1 s.M (fun p => (s.G p).length) s.cp (fun p q => [.v (.int .i64 (ix (s.G p) q))])⟩
def oBs (F n : Nat) (L : List Br) (oc : Nat) (s : VS) : Ob := ⟨82, false, .row 3 1 (fun _ => n) (fun _ => oc) (fun _ k => [.v (.int .i64 (ix L k).kind), .v (.int .i64 (ix L k).left), .s F (s.pi k) 0 (ix L k).ps.length (s.cp (s.pi k)) 1])⟩
attribute [push_cast] oFs oBs
structure VOk (L : List Br) (s : VS) : Prop where
  lt : ∀ k, k < L.length → s.pi k < s.M
  val : ∀ k, k < L.length → s.G (s.pi k) = (ix L k).ps
  inj : ∀ a b, a < L.length → b < L.length → s.pi a = s.pi b → a = b
theorem vok_nil (s : VS) : VOk [] s := ⟨fun k hk => by simp at hk, fun k hk => by simp at hk, fun a b ha => by simp at ha⟩
/-- One more, as a further member. -/
def addV (s : VS) (n : Nat) (x : List Int) (c : Nat) : VS := ⟨s.M + 1, fun p => bif p == s.M then x else s.G p, fun p => bif p == s.M then c else s.cp p, fun q => bif decide (q < n) then s.pi q else s.M⟩
theorem add_ok {L : List Br} {s : VS} {b : Br} {c : Nat} (h : VOk L s) : VOk (L ++ [b]) (addV s L.length b.ps c) := by
  have hne : ∀ k, k < L.length → (s.pi k == s.M) = false := fun k hk => by have := h.lt k hk; simp; omega
  have hp1 : ∀ k, k < L.length → (addV s L.length b.ps c).pi k = s.pi k := fun k hk => by simp [addV, hk]
  have hp2 : (addV s L.length b.ps c).pi L.length = s.M := by simp [addV]
  have hl : ∀ k, k < (L ++ [b]).length → k < L.length ∨ k = L.length := fun k hk => by simp at hk; omega
  refine ⟨fun k hk => ?_, fun k hk => ?_, fun p q hp hq e => ?_⟩
  · rcases hl k hk with hk | rfl
    · rw [hp1 k hk]; have := h.lt k hk; simp only [addV]; omega
    · rw [hp2]; simp only [addV]; omega
  · rcases hl k hk with hk | rfl
    · rw [hp1 k hk, ix_app_ne (by omega)]
      simp only [addV, hne k hk, cond_false]
      exact h.val k hk
    · rw [hp2, ix_app_last]
      simp [addV]
  · rcases hl p hp with hp | rfl <;> rcases hl q hq with hq | rfl
    · rw [hp1 p hp, hp1 q hq] at e; exact h.inj p q hp hq e
    · rw [hp1 p hp, hp2] at e; have := h.lt p hp; omega
    · rw [hp2, hp1 q hq] at e; have := h.lt q hq; omega
    · rfl
/-- What stays of a family while ways are tried. -/
structure Keep (s t : VS) : Prop where
  le : s.M ≤ t.M
  pi : t.pi = s.pi
  cp : ∀ p, p < s.M → t.cp p = s.cp p
theorem Keep.refl (s : VS) : Keep s s := ⟨Nat.le_refl _, rfl, fun _ _ => rfl⟩
theorem Keep.trans {s t u : VS} (h : Keep s t) (h' : Keep t u) : Keep s u := ⟨Nat.le_trans h.le h'.le, h'.pi.trans h.pi, fun p hp => (h'.cp p (Nat.lt_of_lt_of_le hp h.le)).trans (h.cp p hp)⟩
/-- What has been found so far: nothing, or a list. -/
def bV (j : Nat) (B : List Br) (bc : Nat) : SV := if B = [] then .v (.slice none 0 0) else .s j 0 0 B.length bc 3
theorem bV_nil {j bc : Nat} : bV j [] bc = .v (.slice none 0 0) := rfl
theorem bV_some {j bc : Nat} {B : List Br} (h : B ≠ []) : bV j B bc = .s j 0 0 B.length bc 3 := if_neg h
@[push_cast] theorem rn1_bV {rl : List Nat} {n j bc : Nat} {B : List Br} : rn1 rl n (bV j B bc) = bV (rnI rl n j) B bc := by
  unfold bV; split <;> rfl
@[push_cast] theorem jn1_bV {F N c j bc : Nat} {B : List Br} (h : (j == c) = false) : jn1 F N c (bV j B bc) = bV j B bc := by
  unfold bV
  split
  · rfl
  · simp only [jn1, h, cond_false]
@[push_cast] theorem mt_bV {rl : List Nat} {j i bc : Nat} {B : List Br} (h : nth rl j = some i) : mt rl (bV j B bc) (bV i B bc) = True := by
  unfold bV
  split <;> simp [mt, h]
/-- The search's own object. -/
def oSr (lim : Int) (n c m xc : Nat) (b : SV) : Ob := ⟨94, false, .st [.v (.int .i64 lim), .s 0 0 0 n c 2, .s 1 0 0 m xc 1, b]⟩
attribute [push_cast] oSr
/-- A length in use, with room for n more pieces. -/
structure SmB (l : List Pc) (n : Nat) (b : Br) : Prop where
  ps : b.ps.length = l.length
  l0 : 0 ≤ b.left
  l1 : b.left ≤ 1048576
  nn : ∀ i, i < l.length → 0 ≤ ix b.ps i ∧ ix b.ps i + n ≤ 20
/-- What a search comes to: the pieces of `rest` are left. -/
def VisC (l : List Pc) (lim : Int) (c xc : Nat) (x0 rest : List Int) : Prop :=
    ∀ (k : Nat) (L B : List Br) (oc bc : Nat) (s t : VS), k + rest.length = x0.length → x0.drop k = rest → 0 < L.length + rest.length → L.length + rest.length ≤ 10 → (∀ b ∈ L, SmB l rest.length b) → VOk L s → VOk B t → B.length ≤ bc → B.length ≤ 10 →
    Sp Try.prog 58 [.p 2 0 0, .v (.int .i64 k), .s 5 0 0 L.length oc 3]
      [rPc l, rOwn 3 x0.length xc (fun k => ix x0 k), oSr lim l.length c x0.length xc (bV 3 B bc), oBs 4 B.length B bc t, oFs t, oBs 6 L.length L oc s, oFs s]
      (fun r H => ∃ (s' t' : VS) (bc' : Nat), VOk L s' ∧ Keep s s' ∧ VOk (vis l lim rest L B) t' ∧ (vis l lim rest L B).length ≤ bc' ∧ (vis l lim rest L B).length ≤ 10 ∧ r = .t [] ∧
        H = [rPc l, rOwn 3 x0.length xc (fun k => ix x0 k), oSr lim l.length c x0.length xc (bV 7 (vis l lim rest L B) bc'), deadOb, oFs t', oBs 6 L.length L oc s', oFs s', oBs 4 (vis l lim rest L B).length (vis l lim rest L B) bc' t'])
theorem cloneV_sp (s : VS) (i c : Nat) (x : List Int) (hi : i < s.M) (hx : s.G i = x) (h0 : 0 < x.length) (hn : x.length ≤ 100000) : Sp Try.prog 81 [.s 0 i 0 x.length c 1] [oFs s] (fun r H => ∃ cap, x.length ≤ cap ∧ r = .s 1 0 0 x.length cap 1 ∧ H = [oFs s, rIO x cap]) := by
  subst hx
  refine sp_know (p := (s.G i).length ≤ c) Try.call81 (fun β w vals _ h => okL_cap h) fun hc => ?_
  refine sp_weak ?_
  refine sp_of_ex true [] mixed Try.call81 Try.func81 rfl Try.ntmps81 Try.results81 (by decide +kernel) rfl ?_
  simp only [push_cast, ↓branch_true, ↓branch_false, Nat.reduceBEq, Nat.reduceAdd, Nat.reduceMul, Nat.reduceSub, Int.reduceToNat, reduceCtorEq, branch_decide, branch_not, branch_beq, branch_bne]
  intro b hb
  rw [hb (by omega)]
  simp only [push_cast, ↓branch_true, ↓branch_false, Nat.reduceBEq, Nat.reduceAdd, Nat.reduceMul, Nat.reduceSub, Int.reduceToNat, reduceCtorEq, branch_decide, branch_not, branch_beq, branch_bne]
  repeat (with_reducible refine And.intro (by omega) ?_)
  refine ⟨?_, appZ_of (fun h => by omega) fun _ => .inl ⟨by omega, by omega, fun cap hcap => ?_⟩⟩
  · unfold srcOk
    split <;> simp [lenP, lenIs, ones, one1]
  · refine ⟨_, _, [0, 2], ?_, by kernel_rfl, ?_, cap, hcap, rfl, rfl⟩
    · simp only [push_cast, ↓branch_true, ↓branch_false, Nat.reduceBEq, Nat.reduceAdd, Nat.reduceMul, Nat.reduceSub, Int.reduceToNat, reduceCtorEq, branch_decide, branch_not, branch_beq, branch_bne]
    · simp only [push_cast, ↓branch_true, ↓branch_false, Nat.reduceBEq, Nat.reduceAdd, Nat.reduceMul, Nat.reduceSub, Int.reduceToNat, reduceCtorEq, branch_decide, branch_not, branch_beq, branch_bne]
set_option maxHeartbeats 4000000 in
theorem vis_nil (l : List Pc) (lim : Int) (c xc : Nat) (x0 : List Int) (hvo : orderB l = true) (h0l : 0 < l.length) (hx0 : x0.length ≤ 10) : VisC l lim c xc x0 [] := by
  intro k L B oc bc s t hk hd h0 hLn hL hs ht hbc hB10
  have hL0 : L ≠ [] := List.length_pos_iff.1 (by simpa using h0)
  have hll := order_len hvo
  obtain rfl : k = x0.length := by simpa using hk
  by_cases hret : B ≠ [] ∧ B.length ≤ L.length
  · have hvis : vis l lim [] L B = B := by simp only [vis]; rw [if_pos hret]
    rw [hvis]
    have hB0 : 0 < B.length := List.length_pos_iff.2 hret.1
    rw [bV_some hret.1]
    refine sp_wk ?_
    refine sp_of_exa true true [(6, .pre [8] [0, 1, 2, 3, 5, 6, 7, 8, 9, 10] (.alt [(4, .one 11 (.one 12 (.one 13 (.one 14 (.one 15 (.one 16 (.one 17 .fin))))))), (11, .one 12 (.alt [(4, .one 13 (.one 14 (.one 15 (.one 16 (.one 17 .fin))))), (13, .one 4 (.one 14 (.one 15 (.one 16 (.one 17 .fin)))))]))])), (22, .jn (.one 0 (.one 1 (.one 2 (.one 4 (.one 6 (.one 7 (.one 8 (.alt [(3, .one 5 (.alt [(9, .one 10 (.alt [(11, .one 12 (.one 13 (.one 14 .fin))), (13, .one 11 (.one 12 (.one 14 .fin)))])), (13, .one 9 (.one 10 (.one 11 (.one 12 (.one 14 .fin)))))])), (9, .one 10 (.alt [(3, .one 5 (.alt [(11, .one 12 (.one 13 (.one 14 .fin))), (13, .one 11 (.one 12 (.one 14 .fin)))])), (11, .alt [(3, .one 5 (.one 12 (.one 13 (.one 14 .fin)))), (13, .one 3 (.one 5 (.one 12 (.one 14 .fin))))]), (13, .alt [(3, .one 5 (.one 11 (.one 12 (.one 14 .fin)))), (11, .one 3 (.one 5 (.one 12 (.one 14 .fin))))])])), (13, .alt [(3, .one 5 (.one 9 (.one 10 (.one 11 (.one 12 (.one 14 .fin)))))), (9, .one 10 (.alt [(3, .one 5 (.one 11 (.one 12 (.one 14 .fin)))), (11, .one 3 (.one 5 (.one 12 (.one 14 .fin))))]))])]))))))))), (24, .pre [9] [0, 1, 2, 3, 5] (.alt [(4, .one 6 (.one 7 (.one 8 .fin))), (6, .one 4 (.one 7 (.one 8 .fin)))]))] mixed Try.call58 Try.func58 rfl Try.ntmps58 Try.results58 (by decide +kernel) rfl ?_
    simp only [push_cast, ↓branch_true, ↓branch_false, Nat.reduceBEq, Nat.reduceAdd, Nat.reduceMul, Nat.reduceSub, Int.reduceToNat, reduceCtorEq, branch_decide, branch_not, branch_beq, branch_bne]
    intro b hb
    rw [hb (by omega)]
    simp only [push_cast, ↓branch_true, ↓branch_false, Nat.reduceBEq, Nat.reduceAdd, Nat.reduceMul, Nat.reduceSub, Int.reduceToNat, reduceCtorEq, branch_decide, branch_not, branch_beq, branch_bne]
    refine ⟨fun _ => ?_, fun h => absurd hret.2 (by omega)⟩
    refine ⟨_, _, vwk_mt [0, 1, 2, 3, 4, 5, 6, 3] (H' := [rPc l, rOwn 3 x0.length xc (fun k => ix x0 k), oSr lim l.length c x0.length xc (bV 7 B bc), deadOb, oFs t, oBs 6 L.length L oc s, oFs s, oBs 4 B.length B bc t]) (r' := .t []) ?_ (by kernel_rfl) ?_, s, t, bc, hs, .refl s, ht, hbc, hB10, rfl, rfl⟩
    · simp only [push_cast, ↓branch_true, ↓branch_false, Nat.reduceBEq, Nat.reduceAdd, Nat.reduceMul, Nat.reduceSub, Int.reduceToNat, reduceCtorEq, branch_decide, branch_not, branch_beq, branch_bne]
    · rw [bV_some hret.1]
      simp only [push_cast, ↓branch_true, ↓branch_false, Nat.reduceBEq, Nat.reduceAdd, Nat.reduceMul, Nat.reduceSub, Int.reduceToNat, reduceCtorEq, branch_decide, branch_not, branch_beq, branch_bne]
  · have hvis : vis l lim [] L B = L := by simp only [vis]; rw [if_neg hret]
    rw [hvis]
    have hc : B = [] ∨ (B ≠ [] ∧ L.length < B.length) := by
      by_cases e : B = []
      · exact .inl e
      · exact .inr ⟨e, by
          rcases Nat.lt_or_ge L.length B.length with h | h
          · exact h
          · exact absurd ⟨e, h⟩ hret⟩
    have hB0 : B ≠ [] → 0 < B.length := List.length_pos_iff.2
    rcases hc with hB | ⟨hB, hlt⟩
    case' inl =>
      rw [hB, bV_nil]
      refine sp_wk ?_
      refine sp_of_exa true true [(6, .pre [8] [0, 1, 2, 3, 5, 6, 7, 8, 9, 10] (.alt [(4, .one 11 (.one 12 (.one 13 (.one 14 (.one 15 (.one 16 (.one 17 .fin))))))), (11, .one 12 (.alt [(4, .one 13 (.one 14 (.one 15 (.one 16 (.one 17 .fin))))), (13, .one 4 (.one 14 (.one 15 (.one 16 (.one 17 .fin)))))]))])), (22, .jn (.one 0 (.one 1 (.one 2 (.one 4 (.one 6 (.one 7 (.one 8 (.alt [(3, .one 5 (.alt [(9, .one 10 (.alt [(11, .one 12 (.one 13 (.one 14 .fin))), (13, .one 11 (.one 12 (.one 14 .fin)))])), (13, .one 9 (.one 10 (.one 11 (.one 12 (.one 14 .fin)))))])), (9, .one 10 (.alt [(3, .one 5 (.alt [(11, .one 12 (.one 13 (.one 14 .fin))), (13, .one 11 (.one 12 (.one 14 .fin)))])), (11, .alt [(3, .one 5 (.one 12 (.one 13 (.one 14 .fin)))), (13, .one 3 (.one 5 (.one 12 (.one 14 .fin))))]), (13, .alt [(3, .one 5 (.one 11 (.one 12 (.one 14 .fin)))), (11, .one 3 (.one 5 (.one 12 (.one 14 .fin))))])])), (13, .alt [(3, .one 5 (.one 9 (.one 10 (.one 11 (.one 12 (.one 14 .fin)))))), (9, .one 10 (.alt [(3, .one 5 (.one 11 (.one 12 (.one 14 .fin)))), (11, .one 3 (.one 5 (.one 12 (.one 14 .fin))))]))])]))))))))), (24, .pre [9] [0, 1, 2, 3, 5] (.alt [(4, .one 6 (.one 7 (.one 8 .fin))), (6, .one 4 (.one 7 (.one 8 .fin)))]))] mixed Try.call58 Try.func58 rfl Try.ntmps58 Try.results58 (by decide +kernel) rfl ?_
      simp only [push_cast, ↓branch_true, ↓branch_false, Nat.reduceBEq, Nat.reduceAdd, Nat.reduceMul, Nat.reduceSub, Int.reduceToNat, reduceCtorEq, branch_decide, branch_not, branch_beq, branch_bne]
    case' inr =>
      have hB0 := hB0 hB
      rw [bV_some hB]
      refine sp_wk ?_
      refine sp_of_exa true true [(6, .pre [8] [0, 1, 2, 3, 5, 6, 7, 8, 9, 10] (.alt [(4, .one 11 (.one 12 (.one 13 (.one 14 (.one 15 (.one 16 (.one 17 .fin))))))), (11, .one 12 (.alt [(4, .one 13 (.one 14 (.one 15 (.one 16 (.one 17 .fin))))), (13, .one 4 (.one 14 (.one 15 (.one 16 (.one 17 .fin)))))]))])), (22, .jn (.one 0 (.one 1 (.one 2 (.one 4 (.one 6 (.one 7 (.one 8 (.alt [(3, .one 5 (.alt [(9, .one 10 (.alt [(11, .one 12 (.one 13 (.one 14 .fin))), (13, .one 11 (.one 12 (.one 14 .fin)))])), (13, .one 9 (.one 10 (.one 11 (.one 12 (.one 14 .fin)))))])), (9, .one 10 (.alt [(3, .one 5 (.alt [(11, .one 12 (.one 13 (.one 14 .fin))), (13, .one 11 (.one 12 (.one 14 .fin)))])), (11, .alt [(3, .one 5 (.one 12 (.one 13 (.one 14 .fin)))), (13, .one 3 (.one 5 (.one 12 (.one 14 .fin))))]), (13, .alt [(3, .one 5 (.one 11 (.one 12 (.one 14 .fin)))), (11, .one 3 (.one 5 (.one 12 (.one 14 .fin))))])])), (13, .alt [(3, .one 5 (.one 9 (.one 10 (.one 11 (.one 12 (.one 14 .fin)))))), (9, .one 10 (.alt [(3, .one 5 (.one 11 (.one 12 (.one 14 .fin)))), (11, .one 3 (.one 5 (.one 12 (.one 14 .fin))))]))])]))))))))), (24, .pre [9] [0, 1, 2, 3, 5] (.alt [(4, .one 6 (.one 7 (.one 8 .fin))), (6, .one 4 (.one 7 (.one 8 .fin)))]))] mixed Try.call58 Try.func58 rfl Try.ntmps58 Try.results58 (by decide +kernel) rfl ?_
      simp only [push_cast, ↓branch_true, ↓branch_false, Nat.reduceBEq, Nat.reduceAdd, Nat.reduceMul, Nat.reduceSub, Int.reduceToNat, reduceCtorEq, branch_decide, branch_not, branch_beq, branch_bne]
      intro b hb
      rw [hb (by omega)]
      simp only [push_cast, ↓branch_true, ↓branch_false, Nat.reduceBEq, Nat.reduceAdd, Nat.reduceMul, Nat.reduceSub, Int.reduceToNat, reduceCtorEq, branch_decide, branch_not, branch_beq, branch_bne]
      refine ⟨fun h => by omega, fun _ => ?_⟩
    all_goals
      refine tr_loop mixed (by kernel_rfl) (fun (x : Nat × Nat × VS) => [(40, .v (.int .i64 x.1)), (39, .v (.int .i64 L.length)), (38, .s 5 0 0 L.length oc 3), (0, .p 2 0 0)])
        (fun x => [rPc l, rOwn 3 x0.length xc (fun k => ix x0 k), oSr lim l.length c x0.length xc (.s 7 0 0 x.1 x.2.1 3), deadOb, oFs x.2.2, oBs 6 L.length L oc s, oFs s, oBs 4 x.1 L x.2.1 x.2.2])
        (fun x => x.1 ≤ L.length ∧ VOk (L.take x.1) x.2.2 ∧ x.1 ≤ x.2.1) (fun x => L.length - x.1) (0, 0, t) ⟨Nat.zero_le _, vok_nil _, Nat.le_refl _⟩ (Mt.wk (rl := [0, 1, 2, 3, 4, 5, 6, 7]) ⟨by kernel_rfl, ?_, ?_⟩) ?_
      · simp only [push_cast, ↓branch_true, ↓branch_false, Nat.reduceBEq, Nat.reduceAdd, Nat.reduceMul, Nat.reduceSub, Int.reduceToNat, reduceCtorEq, branch_decide, branch_not, branch_beq, branch_bne]
      · simp only [push_cast, ↓branch_true, ↓branch_false, Nat.reduceBEq, Nat.reduceAdd, Nat.reduceMul, Nat.reduceSub, Int.reduceToNat, reduceCtorEq, branch_decide, branch_not, branch_beq, branch_bne]
      rintro ⟨j, bc1, t1⟩ ⟨h1, h2, h3⟩
      simp only at h1 h2 h3
      simp only [push_cast, ↓branch_true, ↓branch_false, Nat.reduceBEq, Nat.reduceAdd, Nat.reduceMul, Nat.reduceSub, Int.reduceToNat, reduceCtorEq, branch_decide, branch_not, branch_beq, branch_bne]
      refine ⟨fun h4 => ?_, fun h4 => ?_⟩
      · have hj : j < L.length := by omega
        have hyj := hL _ (ix_mem hj)
        have hyl := hyj.ps
        have hpj := hs.lt j hj
        repeat (with_reducible refine And.intro (by omega) ?_)
        have hcl := cloneV_sp s (s.pi j) (s.cp (s.pi j)) (ix L j).ps hpj (hs.val j hj) (by omega) (by omega)
        repeat' (with_reducible apply And.intro)
        all_goals
          refine sp_at hcl [6] rfl ?_ ?_ ?_
          · simp only [push_cast, ↓branch_true, ↓branch_false, Nat.reduceBEq, Nat.reduceAdd, Nat.reduceMul, Nat.reduceSub, Int.reduceToNat, reduceCtorEq, branch_decide, branch_not, branch_beq, branch_bne]
          · simp only [push_cast, ↓branch_true, ↓branch_false, Nat.reduceBEq, Nat.reduceAdd, Nat.reduceMul, Nat.reduceSub, Int.reduceToNat, reduceCtorEq, branch_decide, branch_not, branch_beq, branch_bne]
          rintro _ _ ⟨c1, hc1, rfl, rfl⟩
          simp only [push_cast, ↓branch_true, ↓branch_false, Nat.reduceBEq, Nat.reduceAdd, Nat.reduceMul, Nat.reduceSub, Int.reduceToNat, reduceCtorEq, branch_decide, branch_not, branch_beq, branch_bne]
          first
            | refine Or.inl ?_
            | (refine ⟨?_, ?_⟩ <;> refine Or.inl ?_)
          all_goals
            repeat (with_reducible refine And.intro (by omega) ?_)
            refine Or.inr (Or.inl ?_)
            repeat (with_reducible refine And.intro (by omega) ?_)
            intro c2 hc2
            repeat (with_reducible refine And.intro (by omega) ?_)
            have hlt : (L.take j).length = j := by rw [List.length_take]; omega
            have hB1 := add_ok (b := ix L j) (c := c1) h2
            rw [hlt, ← take_snoc hj] at hB1
            refine lpK_wk (j + 1, c2, addV t1 j (ix L j).ps c1) ⟨by simp only; omega, hB1, by simp only; omega⟩ (by simp only; omega) ((swk_join 4 9 (by omega) (by omega) ?_).trans (Mt.wk (rl := [0, 1, 2, 3, 4, 5, 6, 11]) ⟨by kernel_rfl, ?_, ?_⟩))
            · simp only [push_cast, ↓branch_true, ↓branch_false, Nat.reduceBEq, Nat.reduceAdd, Nat.reduceMul, Nat.reduceSub, Int.reduceToNat, reduceCtorEq, branch_decide, branch_not, branch_beq, branch_bne]
            · simp only [push_cast, ↓branch_true, ↓branch_false, Nat.reduceBEq, Nat.reduceAdd, Nat.reduceMul, Nat.reduceSub, Int.reduceToNat, reduceCtorEq, branch_decide, branch_not, branch_beq, branch_bne]
            · simp only [push_cast, ↓branch_true, ↓branch_false, Nat.reduceBEq, Nat.reduceAdd, Nat.reduceMul, Nat.reduceSub, Int.reduceToNat, reduceCtorEq, branch_decide, branch_not, branch_beq, branch_bne]
              refine ⟨⟨rfl, fun a _ => ?_⟩, fun i1 _ k hk => ?_⟩
              · simp only [addV]
                cases a == t1.M with
                | true => exact ⟨Nat.le_refl _, trivial, fun k _ => by (simp only [push_cast, ↓branch_true, ↓branch_false, Nat.reduceBEq, Nat.reduceAdd, Nat.reduceMul, Nat.reduceSub, Int.reduceToNat, reduceCtorEq, branch_decide, branch_not, branch_beq, branch_bne])⟩
                | false => exact ⟨Nat.le_refl _, trivial, fun k _ => by (simp only [push_cast, ↓branch_true, ↓branch_false, Nat.reduceBEq, Nat.reduceAdd, Nat.reduceMul, Nat.reduceSub, Int.reduceToNat, reduceCtorEq, branch_decide, branch_not, branch_beq, branch_bne])⟩
              · by_cases e : k < j
                · have hp := h2.lt k (by omega)
                  have hb : (t1.pi k == t1.M) = false := by simp; omega
                  simp only [addV, e, decide_true, cond_true, hb, cond_false]
                  simp only [push_cast, ↓branch_true, ↓branch_false, Nat.reduceBEq, Nat.reduceAdd, Nat.reduceMul, Nat.reduceSub, Int.reduceToNat, reduceCtorEq, branch_decide, branch_not, branch_beq, branch_bne]
                · obtain rfl : k = j := by omega
                  have hb : decide (k < k) = false := by simp
                  simp only [addV, hb, cond_false, beq_self_eq_true, cond_true]
                  simp only [push_cast, ↓branch_true, ↓branch_false, Nat.reduceBEq, Nat.reduceAdd, Nat.reduceMul, Nat.reduceSub, Int.reduceToNat, reduceCtorEq, branch_decide, branch_not, branch_beq, branch_bne]
      · obtain rfl : j = L.length := by omega
        rw [List.take_length] at h2
        refine ⟨_, _, vwk_mt [0, 1, 2, 3, 4, 5, 6, 7] (H' := [rPc l, rOwn 3 x0.length xc (fun k => ix x0 k), oSr lim l.length c x0.length xc (bV 7 L bc1), deadOb, oFs t1, oBs 6 L.length L oc s, oFs s, oBs 4 L.length L bc1 t1]) (r' := .t []) ?_ (by kernel_rfl) ?_, s, t1, bc1, hs, .refl s, h2, h3, by omega, rfl, rfl⟩
        · simp only [push_cast, ↓branch_true, ↓branch_false, Nat.reduceBEq, Nat.reduceAdd, Nat.reduceMul, Nat.reduceSub, Int.reduceToNat, reduceCtorEq, branch_decide, branch_not, branch_beq, branch_bne]
        · rw [bV_some hL0]
          simp only [push_cast, ↓branch_true, ↓branch_false, Nat.reduceBEq, Nat.reduceAdd, Nat.reduceMul, Nat.reduceSub, Int.reduceToNat, reduceCtorEq, branch_decide, branch_not, branch_beq, branch_bne]
end Go.Proofs.Ythlpfjcjfhdmaaa
