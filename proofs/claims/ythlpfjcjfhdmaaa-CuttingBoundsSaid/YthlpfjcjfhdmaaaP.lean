/- Contracts: Same, and the guards of the laws. -/
import Derived.Test.YthlpfjcjfhdmaaaO
import Derived.Test.YthlpfjcjfhdmaaaK
set_option maxRecDepth 100000
set_option linter.unusedSimpArgs false
set_option linter.unusedVariables false
namespace Go.Proofs.Ythlpfjcjfhdmaaa
open Go.RowKit
def eqP (x y : Pt) : Bool := decide (x.stock = y.stock) && (decide (x.times = y.times) && decide (x.ps = y.ps))
def sameB (a b : List Pt) : Bool := decide (a.length = b.length) && (List.range a.length).all fun k => eqP (ix a k) (ix b k)
theorem eqP_iff {x y : Pt} : eqP x y = true ↔ x = y := by
  obtain ⟨a, b, c⟩ := x
  obtain ⟨d, e, f⟩ := y
  simp only [eqP, Bool.and_eq_true, decide_eq_true_eq, Pt.mk.injEq]
  constructor
  · rintro ⟨h1, h2, h3⟩; exact ⟨h1, h3, h2⟩
  · rintro ⟨h1, h2, h3⟩; exact ⟨h1, h3, h2⟩
theorem sameB_yes {a b : List Pt} : sameB a b = true ↔ a.length = b.length ∧ ∀ k, k < a.length → eqP (ix a k) (ix b k) = true := by
  simp only [sameB, Bool.and_eq_true, decide_eq_true_eq, List.all_eq_true, List.mem_range]
theorem sameB_self (a : List Pt) : sameB a a = true := sameB_yes.2 ⟨rfl, fun _ _ => eqP_iff.2 rfl⟩
theorem sameB_no {a b : List Pt} (h : ¬ (a.length = b.length ∧ ∀ k, k < a.length → eqP (ix a k) (ix b k) = true)) : sameB a b = false := by
  cases e : sameB a b with
  | false => rfl
  | true => exact absurd (sameB_yes.1 e) h
/-- Patterns whose numbers lie elsewhere. -/
def rPq (F : Nat) (out : List Pt) (q : Nat → Nat) (cp : Nat → Nat) : Ob := ⟨50, true, .row 3 1 (fun _ => out.length) (fun _ => 0) (fun _ k => [.v (.int .i64 (ix out k).stock), .s F (q k) 0 (ix out k).ps.length (cp (q k)) 1, .v (.int .i64 (ix out k).times)])⟩
attribute [push_cast] rPq
theorem same_pu (a b : List Pt) (cp q cp2 : Nat → Nat) (N M c c2 : Nat) (G G' : Nat → List Int) (ha : a.length ≤ 9223372036854775806) (hN : ∀ k, k < a.length → k < N ∧ G k = (ix a k).ps ∧ (ix a k).ps.length ≤ 9223372036854775806) (hM : ∀ k, k < b.length → q k < M ∧ G' (q k) = (ix b k).ps ∧ (ix b k).ps.length ≤ 9223372036854775806) :
    Pu Try.prog 17 [.s 0 0 0 a.length c 3, .s 2 0 0 b.length c2 3] [rPt 1 a cp, rFm N G, rPq 3 b q cp2, rFm M G'] (.v (.bool (sameB a b))) := by
  refine pu_of_ex true [] mixed Try.call17 Try.func17 rfl Try.ntmps17 Try.results17 (by decide +kernel) rfl rfl rfl ?_
  simp only [push_cast, ↓branch_true, ↓branch_false, Nat.reduceBEq, Nat.reduceAdd, Nat.reduceMul, Nat.reduceSub, Int.reduceToNat, reduceCtorEq, branch_decide, branch_not, branch_beq, branch_bne]
  refine ⟨fun h => ?_, fun h => ?_⟩
  rotate_left
  · rw [sameB_no fun h2 => h (by rw [h2.1])]
  have hl : a.length = b.length := by omega
  refine tr_loop0 mixed (by kernel_rfl) (fun (k : Nat) => [(5, .v (.int .i64 k)), (0, .s 0 0 0 a.length c 3), (1, .s 2 0 0 b.length c2 3)]) (fun k => k ≤ a.length ∧ ∀ j, j < k → eqP (ix a j) (ix b j) = true) (fun k => a.length - k) 0 ⟨Nat.zero_le _, fun j h => by omega⟩ ?_ ?_
  · simp only [push_cast, ↓branch_true, ↓branch_false, Nat.reduceBEq, Nat.reduceAdd, Nat.reduceMul, Nat.reduceSub, Int.reduceToNat, reduceCtorEq, branch_decide, branch_not, branch_beq, branch_bne]
  rintro k ⟨hk, hn⟩
  simp only [push_cast, ↓branch_true, ↓branch_false, Nat.reduceBEq, Nat.reduceAdd, Nat.reduceMul, Nat.reduceSub, Int.reduceToNat, reduceCtorEq, branch_decide, branch_not, branch_beq, branch_bne]
  refine ⟨fun h1 => ?_, fun h1 => ?_⟩
  rotate_left
  · obtain rfl : k = a.length := by omega
    rw [sameB_yes.2 ⟨hl, hn⟩]
  have hk2 : k < a.length := by omega
  obtain ⟨n1, n2, n3⟩ := hN k hk2
  obtain ⟨m1, m2, m3⟩ := hM k (by omega)
  have no : eqP (ix a k) (ix b k) = false → sameB a b = false := fun h => sameB_no fun h2 => by rw [h2.2 k hk2] at h; cases h
  repeat (with_reducible refine And.intro (by omega) ?_)
  refine ⟨fun a1 => ?_, fun a1 => ?_⟩
  rotate_left
  · rw [no (by simp [eqP, a1])]
  repeat (with_reducible refine And.intro (by omega) ?_)
  refine ⟨fun a2 => ?_, fun a2 => ?_⟩
  rotate_left
  · rw [no (by simp [eqP, a2])]
  repeat (with_reducible refine And.intro (by omega) ?_)
  have heq := requal_pu N M G G' k (q k) (cp k) (cp2 (q k)) n1 m1 (by rw [n2]; exact n3) (by rw [m2]; exact m3)
  rw [n2, m2] at heq
  refine qc_call heq rfl [1, 3] rfl ?_ ?_ ?_
  · simp only [push_cast, ↓branch_true, ↓branch_false, Nat.reduceBEq, Nat.reduceAdd, Nat.reduceMul, Nat.reduceSub, Int.reduceToNat, reduceCtorEq, branch_decide, branch_not, branch_beq, branch_bne]
  · simp only [push_cast, ↓branch_true, ↓branch_false, Nat.reduceBEq, Nat.reduceAdd, Nat.reduceMul, Nat.reduceSub, Int.reduceToNat, reduceCtorEq, branch_decide, branch_not, branch_beq, branch_bne]
  simp only [push_cast, ↓branch_true, ↓branch_false, Nat.reduceBEq, Nat.reduceAdd, Nat.reduceMul, Nat.reduceSub, Int.reduceToNat, reduceCtorEq, branch_decide, branch_not, branch_beq, branch_bne]
  refine ⟨fun a3 => ?_, fun a3 => ?_⟩
  rotate_left
  · rw [no (by simp [eqP, a3])]
  repeat (with_reducible refine And.intro (by omega) ?_)
  refine lp0_normal (k + 1) ⟨by omega, fun j hj => ?_⟩ (by omega) ?_
  · by_cases e : j = k
    · rw [e]; simp [eqP, a1, a2, a3]
    · exact hn j (by omega)
  · simp only [push_cast, ↓branch_true, ↓branch_false, Nat.reduceBEq, Nat.reduceAdd, Nat.reduceMul, Nat.reduceSub, Int.reduceToNat, reduceCtorEq, branch_decide, branch_not, branch_beq, branch_bne]
def longP (x : Pt) : Bool := decide (20 < x.ps.length)
def manyB (ns : Nat) (l : List Pc) (p : List Pt) : Bool := decide (15 < ns) || decide (12 < l.length ∧ l.length ≤ 200) || decide (205 < l.length) || decide (40 < p.length ∧ p.length ≤ 1000) || decide (1005 < p.length) || p.any longP
theorem long_pu (p : List Pt) (cp : Nat → Nat) (N k : Nat) (G : Nat → List Int) : Pu Try.prog 45 [.a (cPt 1 p cp k)] [rPt 1 p cp, rFm N G] (.v (.bool (longP (ix p k)))) := by
  refine pu_of_ex true [] mixed Try.call45 Try.func45 rfl Try.ntmps45 Try.results45 (by decide +kernel) rfl rfl rfl ?_
  simp only [push_cast, ↓branch_true, ↓branch_false, Nat.reduceBEq, Nat.reduceAdd, Nat.reduceMul, Nat.reduceSub, Int.reduceToNat, reduceCtorEq, branch_decide, branch_not, branch_beq, branch_bne]
  simp [longP]
  omega
theorem many_pu (s l : List Pc) (p : List Pt) (cp : Nat → Nat) (N c c2 c3 : Nat) (G : Nat → List Int) (hl : p.length ≤ 9223372036854775807) : Pu Try.prog 11 [.s 0 0 0 s.length c 2, .s 1 0 0 l.length c2 2, .s 2 0 0 p.length c3 3] [rSt s, rPc l, rPt 3 p cp, rFm N G] (.v (.bool (manyB s.length l p))) := by
  refine pu_of_ex true [] mixed Try.call11 Try.func11 rfl Try.ntmps11 Try.results11 (by decide +kernel) rfl rfl rfl ?_
  simp only [push_cast, ↓branch_true, ↓branch_false, Nat.reduceBEq, Nat.reduceAdd, Nat.reduceMul, Nat.reduceSub, Int.reduceToNat, reduceCtorEq, branch_decide, branch_not, branch_beq, branch_bne]
  have hc := containsPt_pu p cp 1 c3 45 [] [] [rFm N G] longP rfl hl fun k hk => long_pu p cp N k G
  unfold manyB
  repeat' (with_reducible (first | apply And.intro | intro _))
  all_goals first
    | (simp; omega)
    | skip
  all_goals
    refine sp_call hc rfl [2, 3] rfl ?_ ?_ ?_
    · simp only [push_cast, ↓branch_true, ↓branch_false, Nat.reduceBEq, Nat.reduceAdd, Nat.reduceMul, Nat.reduceSub, Int.reduceToNat, reduceCtorEq, branch_decide, branch_not, branch_beq, branch_bne]
    · simp only [push_cast, ↓branch_true, ↓branch_false, Nat.reduceBEq, Nat.reduceAdd, Nat.reduceMul, Nat.reduceSub, Int.reduceToNat, reduceCtorEq, branch_decide, branch_not, branch_beq, branch_bne]
    simp only [push_cast, ↓branch_true, ↓branch_false, Nat.reduceBEq, Nat.reduceAdd, Nat.reduceMul, Nat.reduceSub, Int.reduceToNat, reduceCtorEq, branch_decide, branch_not, branch_beq, branch_bne]
    have e1 : decide (15 < s.length) = false := by simp; omega
    have e2 : decide (12 < l.length ∧ l.length ≤ 200) = false := by simp; omega
    have e3 : decide (205 < l.length) = false := by simp; omega
    have e4 : decide (40 < p.length ∧ p.length ≤ 1000) = false := by simp; omega
    have e5 : decide (1005 < p.length) = false := by simp; omega
    rw [e1, e2, e3, e4, e5]
    rfl
def heavyB (l : List Pc) : Bool := orderB l && (decide (60 < cntL l) && decide (cntL l ≤ 1000))
theorem heavy_pu (l : List Pc) (c : Nat) (hl : l.length ≤ 9223372036854775806) : Pu Try.prog 12 [.s 0 0 0 l.length c 2] [rPc l] (.v (.bool (heavyB l))) := by
  refine pu_of_ex true [] mixed Try.call12 Try.func12 rfl Try.ntmps12 Try.results12 (by decide +kernel) rfl rfl rfl ?_
  simp only [push_cast, ↓branch_true, ↓branch_false, Nat.reduceBEq, Nat.reduceAdd, Nat.reduceMul, Nat.reduceSub, Int.reduceToNat, reduceCtorEq, branch_decide, branch_not, branch_beq, branch_bne]
  refine sp_call (rorder_pu l c hl) rfl [0] rfl (by simp only [push_cast, ↓branch_true, ↓branch_false, Nat.reduceBEq, Nat.reduceAdd, Nat.reduceMul, Nat.reduceSub, Int.reduceToNat, reduceCtorEq, branch_decide, branch_not, branch_beq, branch_bne]) (by simp only [push_cast, ↓branch_true, ↓branch_false, Nat.reduceBEq, Nat.reduceAdd, Nat.reduceMul, Nat.reduceSub, Int.reduceToNat, reduceCtorEq, branch_decide, branch_not, branch_beq, branch_bne]) ?_
  simp only [push_cast, ↓branch_true, ↓branch_false, Nat.reduceBEq, Nat.reduceAdd, Nat.reduceMul, Nat.reduceSub, Int.reduceToNat, reduceCtorEq, branch_decide, branch_not, branch_beq, branch_bne]
  cases ho : orderB l with
  | false =>
    simp only [push_cast, ↓branch_true, ↓branch_false, Nat.reduceBEq, Nat.reduceAdd, Nat.reduceMul, Nat.reduceSub, Int.reduceToNat, reduceCtorEq, branch_decide, branch_not, branch_beq, branch_bne]
    simp [heavyB, ho]
  | true =>
  simp only [push_cast, ↓branch_true, ↓branch_false, Nat.reduceBEq, Nat.reduceAdd, Nat.reduceMul, Nat.reduceSub, Int.reduceToNat, reduceCtorEq, branch_decide, branch_not, branch_beq, branch_bne]
  refine sp_call (pieces_pu l c ho) rfl [0] rfl (by simp only [push_cast, ↓branch_true, ↓branch_false, Nat.reduceBEq, Nat.reduceAdd, Nat.reduceMul, Nat.reduceSub, Int.reduceToNat, reduceCtorEq, branch_decide, branch_not, branch_beq, branch_bne]) (by simp only [push_cast, ↓branch_true, ↓branch_false, Nat.reduceBEq, Nat.reduceAdd, Nat.reduceMul, Nat.reduceSub, Int.reduceToNat, reduceCtorEq, branch_decide, branch_not, branch_beq, branch_bne]) ?_
  simp only [push_cast, ↓branch_true, ↓branch_false, Nat.reduceBEq, Nat.reduceAdd, Nat.reduceMul, Nat.reduceSub, Int.reduceToNat, reduceCtorEq, branch_decide, branch_not, branch_beq, branch_bne]
  refine ⟨fun h => ?_, fun h => ?_⟩
  · simp [heavyB, ho, h]
  · simp [heavyB, ho, h]
def lotS (n : Int) : List Pc := [⟨n, -1⟩]
theorem lots_sp (n : Int) : Sp Try.prog 39 [.v (.int .i64 n)] [] (fun r H => r = .s 0 0 0 1 1 2 ∧ H = [⟨65, false, .row 2 1 (fun _ => 1) (fun _ => 1) (fun _ k => cPc (ix (lotS n) k))⟩]) := by
  refine sp_weak ?_
  refine sp_of_ex true [] mixed Try.call39 Try.func39 rfl Try.ntmps39 Try.results39 (by decide +kernel) rfl ?_
  simp only [push_cast, ↓branch_true, ↓branch_false, Nat.reduceBEq, Nat.reduceAdd, Nat.reduceMul, Nat.reduceSub, Int.reduceToNat, reduceCtorEq, branch_decide, branch_not, branch_beq, branch_bne]
  refine ⟨by omega, _, _, [0], ?_, by kernel_rfl, ?_, rfl, rfl⟩
  · simp only [push_cast, ↓branch_true, ↓branch_false, Nat.reduceBEq, Nat.reduceAdd, Nat.reduceMul, Nat.reduceSub, Int.reduceToNat, reduceCtorEq, branch_decide, branch_not, branch_beq, branch_bne]
  · simp only [push_cast, ↓branch_true, ↓branch_false, Nat.reduceBEq, Nat.reduceAdd, Nat.reduceMul, Nat.reduceSub, Int.reduceToNat, reduceCtorEq, branch_decide, branch_not, branch_beq, branch_bne]
    intro i hi k hk
    obtain rfl : k = 0 := by omega
    exact ⟨rfl, rfl, trivial⟩
def exL : List Pc := [⟨600, 2⟩, ⟨400, 2⟩, ⟨300, 1⟩]
theorem example_sp : Sp Try.prog 43 [] [] (fun r H => r = .s 0 0 0 3 3 2 ∧ H = [⟨43, false, .row 2 1 (fun _ => 3) (fun _ => 3) (fun _ k => cPc (ix exL k))⟩]) := by
  refine sp_weak ?_
  refine sp_of_ex true [] mixed Try.call43 Try.func43 rfl Try.ntmps43 Try.results43 (by decide +kernel) rfl ?_
  simp only [push_cast, ↓branch_true, ↓branch_false, Nat.reduceBEq, Nat.reduceAdd, Nat.reduceMul, Nat.reduceSub, Int.reduceToNat, reduceCtorEq, branch_decide, branch_not, branch_beq, branch_bne]
  refine ⟨by omega, _, _, [0], ?_, by kernel_rfl, ?_, rfl, rfl⟩
  · simp only [push_cast, ↓branch_true, ↓branch_false, Nat.reduceBEq, Nat.reduceAdd, Nat.reduceMul, Nat.reduceSub, Int.reduceToNat, reduceCtorEq, branch_decide, branch_not, branch_beq, branch_bne]
  · simp only [push_cast, ↓branch_true, ↓branch_false, Nat.reduceBEq, Nat.reduceAdd, Nat.reduceMul, Nat.reduceSub, Int.reduceToNat, reduceCtorEq, branch_decide, branch_not, branch_beq, branch_bne]
    intro i hi k hk
    rcases (by omega : k = 0 ∨ k = 1 ∨ k = 2) with rfl | rfl | rfl <;> exact ⟨rfl, rfl, trivial⟩
end Go.Proofs.Ythlpfjcjfhdmaaa
