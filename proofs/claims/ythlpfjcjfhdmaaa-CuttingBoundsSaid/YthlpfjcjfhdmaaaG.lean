/- Contracts: the patterns of lengths in use. -/
import Derived.Test.YthlpfjcjfhdmaaaF
set_option maxRecDepth 100000
set_option linter.unusedSimpArgs false
set_option linter.unusedVariables false
namespace Go.Proofs.Ythlpfjcjfhdmaaa
open Go.RowKit
theorem ix_set_self {α : Type} [Inhabited α] {l : List α} {f : Nat} (h : f < l.length) (x : α) : ix (l.set f x) f = x := by
  rw [ix_eq (by simpa using h)]; simp
theorem ix_set_ne {α : Type} [Inhabited α] {l : List α} {f q : Nat} (h : q ≠ f) (x : α) : ix (l.set f x) q = ix l q := by
  unfold ix
  rw [List.getD_eq_getElem?_getD, List.getD_eq_getElem?_getD, List.getElem?_set_ne (Ne.symm h)]
theorem ix_app_last {α : Type} [Inhabited α] (l : List α) (x : α) : ix (l ++ [x]) l.length = x := by
  rw [ix_eq (by simp)]; simp
theorem ix_app_ne {α : Type} [Inhabited α] {l : List α} {q : Nat} (h : q ≠ l.length) (x : α) : ix (l ++ [x]) q = ix l q := by
  unfold ix
  rw [List.getD_eq_getElem?_getD, List.getD_eq_getElem?_getD]
  rcases Nat.lt_or_ge q l.length with h2 | h2
  · rw [List.getElem?_append_left h2]
  · rw [List.getElem?_eq_none (by simp; omega), List.getElem?_eq_none h2]
def upPt (p : Pt) : Pt := ⟨p.stock, p.ps, p.times + 1⟩
/-- One more length in use. -/
def addPt (out : List Pt) (b : Br) : List Pt :=
  if 0 < out.length ∧ (ix out (out.length - 1)).stock = b.kind ∧ (ix out (out.length - 1)).ps = b.ps then out.set (out.length - 1) (upPt (ix out (out.length - 1))) else out ++ [⟨b.kind, b.ps, 1⟩]
def patL (o : List Br) : List Pt := o.foldl addPt []
theorem patT_succ {o : List Br} {k : Nat} (h : k < o.length) : patL (o.take (k + 1)) = addPt (patL (o.take k)) (ix o k) := by
  unfold patL
  rw [take_snoc h, List.foldl_append]
  rfl
/-- What holds of patterns all the way. -/
structure PtOk (Q : List Int → Prop) (k : Nat) (out : List Pt) : Prop where
  len : out.length ≤ k
  times : ∀ p ∈ out, 1 ≤ p.times ∧ p.times ≤ k
  ps : ∀ p ∈ out, Q p.ps
theorem addPt_ok {Q : List Int → Prop} {k : Nat} {out : List Pt} {b : Br} (h : PtOk Q k out) (hb : Q b.ps) : PtOk Q (k + 1) (addPt out b) := by
  unfold addPt
  split
  · rename_i hc
    have hm := ix_mem (l := out) (k := out.length - 1) (by omega)
    refine ⟨by rw [List.length_set]; have := h.len; omega, fun p hp => ?_, fun p hp => ?_⟩
    · rcases List.mem_or_eq_of_mem_set hp with hp | rfl
      · have := h.times p hp; omega
      · have := h.times _ hm
        simp only [upPt]; omega
    · rcases List.mem_or_eq_of_mem_set hp with hp | rfl
      · exact h.ps p hp
      · show Q (ix out (out.length - 1)).ps; exact h.ps _ hm
  · refine ⟨by rw [List.length_append]; have := h.len; simp; omega, fun p hp => ?_, fun p hp => ?_⟩
    · rcases List.mem_append.1 hp with hp | hp
      · have := h.times p hp; omega
      · simp only [List.mem_singleton] at hp; subst hp; simp only; omega
    · rcases List.mem_append.1 hp with hp | hp
      · exact h.ps p hp
      · simp only [List.mem_singleton] at hp; subst hp; exact hb
theorem patT_ok {Q : List Int → Prop} {o : List Br} (h : ∀ b ∈ o, Q b.ps) : ∀ k, k ≤ o.length → PtOk Q k (patL (o.take k))
  | 0, _ => ⟨by simp [patL], by simp [patL], by simp [patL]⟩
  | k + 1, hk => by
    rw [patT_succ (by omega)]
    exact addPt_ok (patT_ok h k (by omega)) (h _ (ix_mem (by omega)))
/-- Bars whose numbers lie anywhere. -/
def rBq (F : Nat) (o : List Br) (qi cp : Nat → Nat) : Ob := ⟨82, true, .row 3 1 (fun _ => o.length) (fun _ => 0) (fun _ k => [.v (.int .i64 (ix o k).kind), .v (.int .i64 (ix o k).left), .s F (qi k) 0 (ix o k).ps.length (cp (qi k)) 1])⟩
attribute [push_cast] rBq
set_option maxHeartbeats 4000000 in
theorem patterns_sp (o : List Br) (qi cp : Nat → Nat) (c N : Nat) (G : Nat → List Int) (hN : ∀ k, k < o.length → qi k < N) (hG : ∀ k, k < o.length → G (qi k) = (ix o k).ps) (ho : o.length ≤ 100000) (hp : ∀ b ∈ o, 0 < b.ps.length ∧ b.ps.length ≤ 100000) :
    Sp Try.prog 52 [.s 0 0 0 o.length c 3] [rBq 1 o qi cp, rFm N G] (fun r H => ∃ oc cp2, (patL o).length ≤ oc ∧ r = .s 2 0 0 (patL o).length oc 3 ∧ H = [rBq 1 o qi cp, rFm N G, oPt 3 (patL o) cp2 oc, oFm cp2 (fmP (patL o))]) := by
  refine sp_weak ?_
  refine sp_of_ex true [(8, .one 0 (.one 1 (.one 3 (.alt [(2, .one 4 (.one 5 (.one 6 (.one 7 (.one 8 (.one 9 .fin)))))), (4, .alt [(2, .one 5 (.one 6 (.one 7 (.one 8 (.one 9 .fin))))), (5, .one 2 (.one 6 (.one 7 (.one 8 (.one 9 .fin)))))])]))))] mixed Try.call52 Try.func52 rfl Try.ntmps52 Try.results52 (by decide +kernel) rfl ?_
  simp only [push_cast, ↓branch_true, ↓branch_false, Nat.reduceBEq, Nat.reduceAdd, Nat.reduceMul, Nat.reduceSub, Int.reduceToNat, reduceCtorEq, branch_decide, branch_not, branch_beq, branch_bne]
  refine tr_loop mixed (by kernel_rfl) (fun (x : Nat × Nat × (Nat → Nat)) => [(9, .v (.int .i64 x.1)), (8, .v (.int .i64 o.length)), (7, .s 0 0 0 o.length c 3), (3, .s 2 0 0 (patL (o.take x.1)).length x.2.1 3)])
    (fun x => [rBq 1 o qi cp, rFm N G, oPt 3 (patL (o.take x.1)) x.2.2 x.2.1, oFm x.2.2 (fmP (patL (o.take x.1)))]) (fun x => x.1 ≤ o.length ∧ (patL (o.take x.1)).length ≤ x.2.1 ∧ ∀ k, (patL (o.take x.1)).length ≤ k → x.2.2 k = 0) (fun x => o.length - x.1) (0, 0, fun _ => 0) ⟨Nat.zero_le _, Nat.le_refl _, fun _ _ => rfl⟩ (Mt.wk (rl := [0, 1, 2, 3]) ⟨by kernel_rfl, ?_, ?_⟩) ?_
  · simp only [push_cast, ↓branch_true, ↓branch_false, Nat.reduceBEq, Nat.reduceAdd, Nat.reduceMul, Nat.reduceSub, Int.reduceToNat, reduceCtorEq, branch_decide, branch_not, branch_beq, branch_bne]
    exact rfl
  · simp only [push_cast, ↓branch_true, ↓branch_false, Nat.reduceBEq, Nat.reduceAdd, Nat.reduceMul, Nat.reduceSub, Int.reduceToNat, reduceCtorEq, branch_decide, branch_not, branch_beq, branch_bne]
    exact ⟨Or.inl rfl, by decide, Or.inr fun _ => rfl⟩
  rintro ⟨k, oc, cp2⟩ ⟨h1, h2, h3⟩
  simp only at h1 h2 h3
  have hok := patT_ok (Q := fun x => 0 < x.length ∧ x.length ≤ 100000) hp k h1
  have hsu := fun h => patT_succ (o := o) (k := k) h
  generalize hout : patL (o.take k) = out at *
  simp only [push_cast, ↓branch_true, ↓branch_false, Nat.reduceBEq, Nat.reduceAdd, Nat.reduceMul, Nat.reduceSub, Int.reduceToNat, reduceCtorEq, branch_decide, branch_not, branch_beq, branch_bne]
  refine ⟨fun h => ?_, fun h => ?_⟩
  rotate_left
  · obtain rfl : k = o.length := by omega
    rw [List.take_length] at hout
    rw [hout]
    refine ⟨_, _, [0, 1, 2, 3], ?_, by kernel_rfl, ?_, oc, cp2, h2, rfl, rfl⟩
    · simp only [push_cast, ↓branch_true, ↓branch_false, Nat.reduceBEq, Nat.reduceAdd, Nat.reduceMul, Nat.reduceSub, Int.reduceToNat, reduceCtorEq, branch_decide, branch_not, branch_beq, branch_bne]
    · simp only [push_cast, ↓branch_true, ↓branch_false, Nat.reduceBEq, Nat.reduceAdd, Nat.reduceMul, Nat.reduceSub, Int.reduceToNat, reduceCtorEq, branch_decide, branch_not, branch_beq, branch_bne]
  have hk : k < o.length := by omega
  have hkp := hp _ (ix_mem hk)
  have hGk := hG k hk
  have hNk := hN k hk
  have hsu := hsu hk
  have hol := hok.len
  repeat (with_reducible refine And.intro (by omega) ?_)
  have em : (((out.length : Nat) : Int) - 1).toNat = out.length - 1 := by omega
  refine ⟨fun g1 => ?_, fun g1 => ?_⟩
  case' refine_1 =>
    repeat (with_reducible refine And.intro (by omega) ?_)
    rw [em]
    refine ⟨fun g2 => ?_, fun g2 => ?_⟩
    case' refine_1 =>
      repeat (with_reducible refine And.intro (by omega) ?_)
      refine qc_call (equal_pu (big + 2) N (fmP out) G (out.length - 1) (qi k) (cp2 (out.length - 1)) (cp (qi k)) (by have := big_eq; omega) (by omega) (by have := hok.ps _ (ix_mem (l := out) (k := out.length - 1) (by omega)); simp only [fmP]; omega) (by rw [hGk]; omega)) rfl [3, 1] rfl ?_ ?_ ?_
      · simp only [push_cast, ↓branch_true, ↓branch_false, Nat.reduceBEq, Nat.reduceAdd, Nat.reduceMul, Nat.reduceSub, Int.reduceToNat, reduceCtorEq, branch_decide, branch_not, branch_beq, branch_bne, hGk]
      · simp only [push_cast, ↓branch_true, ↓branch_false, Nat.reduceBEq, Nat.reduceAdd, Nat.reduceMul, Nat.reduceSub, Int.reduceToNat, reduceCtorEq, branch_decide, branch_not, branch_beq, branch_bne]
      simp only [push_cast, ↓branch_true, ↓branch_false, Nat.reduceBEq, Nat.reduceAdd, Nat.reduceMul, Nat.reduceSub, Int.reduceToNat, reduceCtorEq, branch_decide, branch_not, branch_beq, branch_bne, hGk]
      refine ⟨fun g3 => ?_, fun g3 => ?_⟩
      case' refine_1 =>
        have hn : out.length - 1 < out.length := by omega
        have ht := hok.times _ (ix_mem hn)
        repeat (with_reducible refine And.intro (by omega) ?_)
        rw [em]
        repeat (with_reducible refine And.intro (by omega) ?_)
        have e1 : addPt out (ix o k) = out.set (out.length - 1) (upPt (ix out (out.length - 1))) := if_pos ⟨by omega, g2, g3⟩
        have e2 : (upPt (ix out (out.length - 1))).ps = (ix out (out.length - 1)).ps := rfl
        rw [e1] at hsu
        refine lpK_normal (k + 1, oc, cp2) [0, 1, 2, 3] ⟨by simp only; omega, by simp only [hsu, List.length_set]; exact h2, by simp only [hsu, List.length_set]; exact h3⟩ (by simp only; omega) (by kernel_rfl) ?_ ?_
        · simp only [push_cast, ↓branch_true, ↓branch_false, Nat.reduceBEq, Nat.reduceAdd, Nat.reduceMul, Nat.reduceSub, Int.reduceToNat, reduceCtorEq, branch_decide, branch_not, branch_beq, branch_bne, hsu, List.length_set]
        · simp only [push_cast, ↓branch_true, ↓branch_false, Nat.reduceBEq, Nat.reduceAdd, Nat.reduceMul, Nat.reduceSub, Int.reduceToNat, reduceCtorEq, branch_decide, branch_not, branch_beq, branch_bne, hsu, List.length_set]
          refine ⟨fun x hx q hq => ?_, fun q hq => ?_⟩
          · obtain rfl : x = 0 := by omega
            by_cases eq : q = out.length - 1
            · subst eq
              simp only [push_cast, ↓branch_true, ↓branch_false, Nat.reduceBEq, Nat.reduceAdd, Nat.reduceMul, Nat.reduceSub, Int.reduceToNat, reduceCtorEq, branch_decide, branch_not, branch_beq, branch_bne, ix_set_self hn, upPt]
            · have hb : (q == out.length - 1) = false := by simpa using eq
              simp only [push_cast, ↓branch_true, ↓branch_false, Nat.reduceBEq, Nat.reduceAdd, Nat.reduceMul, Nat.reduceSub, Int.reduceToNat, reduceCtorEq, branch_decide, branch_not, branch_beq, branch_bne, ix_set_ne eq, hb]
          · by_cases eq : q = out.length - 1
            · subst eq
              simp only [push_cast, ↓branch_true, ↓branch_false, Nat.reduceBEq, Nat.reduceAdd, Nat.reduceMul, Nat.reduceSub, Int.reduceToNat, reduceCtorEq, branch_decide, branch_not, branch_beq, branch_bne, ix_set_self hn, upPt]
            · simp only [push_cast, ↓branch_true, ↓branch_false, Nat.reduceBEq, Nat.reduceAdd, Nat.reduceMul, Nat.reduceSub, Int.reduceToNat, reduceCtorEq, branch_decide, branch_not, branch_beq, branch_bne, ix_set_ne eq]
  all_goals
    have hno : addPt out (ix o k) = out ++ [⟨(ix o k).kind, (ix o k).ps, 1⟩] := if_neg (by rintro ⟨a1, a2, a3⟩; first | exact g3 a3 | exact g2 a2 | exact g1 (by omega))
    rw [hno] at hsu
    have hcl := clone_sp N G (qi k) (cp (qi k)) (by omega) (by rw [hGk]; omega) (by rw [hGk]; omega)
    rw [hGk] at hcl
    repeat' (with_reducible apply And.intro)
    all_goals
      refine sp_at hcl [1] rfl ?_ ?_ ?_
      · simp only [push_cast, ↓branch_true, ↓branch_false, Nat.reduceBEq, Nat.reduceAdd, Nat.reduceMul, Nat.reduceSub, Int.reduceToNat, reduceCtorEq, branch_decide, branch_not, branch_beq, branch_bne]
      · simp only [push_cast, ↓branch_true, ↓branch_false, Nat.reduceBEq, Nat.reduceAdd, Nat.reduceMul, Nat.reduceSub, Int.reduceToNat, reduceCtorEq, branch_decide, branch_not, branch_beq, branch_bne]
      rintro _ _ ⟨cap, hcap, rfl, rfl⟩
      simp only [push_cast, ↓branch_true, ↓branch_false, Nat.reduceBEq, Nat.reduceAdd, Nat.reduceMul, Nat.reduceSub, Int.reduceToNat, reduceCtorEq, branch_decide, branch_not, branch_beq, branch_bne]
      have hbig := big_eq
      refine ⟨by omega, by omega, Or.inr ?_⟩
      repeat (with_reducible refine And.intro (by omega) ?_)
      intro oc2 hoc2
      repeat (with_reducible refine And.intro (by omega) ?_)
      refine lpK_wk (k + 1, oc2, fun q => bif q == out.length then cap else cp2 q) ⟨by simp only; omega, by simp only [hsu, List.length_append, List.length_cons, List.length_nil]; omega, fun q hq => ?_⟩ (by simp only; omega) ((swk_place 3 out.length 5 (by omega) (by omega) (by omega) ?_).trans (Mt.wk (rl := [0, 1, 7, 3]) ⟨by kernel_rfl, ?_, ?_⟩))
      · simp only [hsu, List.length_append, List.length_cons, List.length_nil] at hq ⊢
        have : (q == out.length) = false := by simp; omega
        rw [this]
        exact h3 q (by omega)
      · simp only [push_cast, ↓branch_true, ↓branch_false, Nat.reduceBEq, Nat.reduceAdd, Nat.reduceMul, Nat.reduceSub, Int.reduceToNat, reduceCtorEq, branch_decide, branch_not, branch_beq, branch_bne]
        omega
      · simp only [push_cast, ↓branch_true, ↓branch_false, Nat.reduceBEq, Nat.reduceAdd, Nat.reduceMul, Nat.reduceSub, Int.reduceToNat, reduceCtorEq, branch_decide, branch_not, branch_beq, branch_bne, hsu, List.length_append]
      · simp only [push_cast, ↓branch_true, ↓branch_false, Nat.reduceBEq, Nat.reduceAdd, Nat.reduceMul, Nat.reduceSub, Int.reduceToNat, reduceCtorEq, branch_decide, branch_not, branch_beq, branch_bne, hsu, List.length_append]
        refine ⟨fun x hx q hq => ?_, fun q hq => ?_⟩
        · by_cases eq : q = out.length
          · subst eq
            have hb2 : decide (out.length < out.length) = false := by simp
            simp only [push_cast, ↓branch_true, ↓branch_false, Nat.reduceBEq, Nat.reduceAdd, Nat.reduceMul, Nat.reduceSub, Int.reduceToNat, reduceCtorEq, branch_decide, branch_not, branch_beq, branch_bne, ix_app_last, hb2]
          · have hb : (q == out.length) = false := by simpa using eq
            have hb2 : decide (q < out.length) = true := by simp; omega
            simp only [push_cast, ↓branch_true, ↓branch_false, Nat.reduceBEq, Nat.reduceAdd, Nat.reduceMul, Nat.reduceSub, Int.reduceToNat, reduceCtorEq, branch_decide, branch_not, branch_beq, branch_bne, ix_app_ne eq, hb, hb2]
        · by_cases eq : q = out.length
          · subst eq
            simp only [push_cast, ↓branch_true, ↓branch_false, Nat.reduceBEq, Nat.reduceAdd, Nat.reduceMul, Nat.reduceSub, Int.reduceToNat, reduceCtorEq, branch_decide, branch_not, branch_beq, branch_bne, ix_app_last]
          · have hb : (q == out.length) = false := by simpa using eq
            simp only [push_cast, ↓branch_true, ↓branch_false, Nat.reduceBEq, Nat.reduceAdd, Nat.reduceMul, Nat.reduceSub, Int.reduceToNat, reduceCtorEq, branch_decide, branch_not, branch_beq, branch_bne, ix_app_ne eq, hb]
end Go.Proofs.Ythlpfjcjfhdmaaa
