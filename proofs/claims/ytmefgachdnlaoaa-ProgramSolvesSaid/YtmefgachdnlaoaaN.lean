/- Contracts of package ratio: product, less, plus, minus, over, Valid. -/
import Derived.Test.YtmefgachdnlaoaaKV
import Derived.Test.YtmefgachdnlaoaaQA
set_option maxRecDepth 100000
set_option linter.unusedSimpArgs false
set_option linter.unusedVariables false
namespace Go.Proofs.Ytmefgachdnlaoaa
open Go.RowKit Lp
/-- A number of 128 bits. -/
def hN (x : Nat) : Nat := x / 18446744073709551616
def lN (x : Nat) : Nat := x % 18446744073709551616
def wV (x : Nat) : SV := .a [.v (.int .u64 (hN x : Nat)), .v (.int .u64 (lN x : Nat))]
attribute [push_cast] wV
theorem hl (x : Nat) : hN x * 18446744073709551616 + lN x = x := Nat.div_add_mod' _ _
theorem lN_lt (x : Nat) : lN x < 18446744073709551616 := Nat.mod_lt _ (by decide)
theorem hN_lt {x : Nat} (h : x < 340282366920938463463374607431768211456) : hN x < 18446744073709551616 := by unfold hN; omega
theorem product_pu (a b : Nat) (ha : a < 18446744073709551616) (hb : b < 18446744073709551616) : Pu Try.prog 68 [.v (.int .u64 a), .v (.int .u64 b)] [] (wV (a * b)) := by
  have hm := mul64_pu a b [] ha hb
  have h1 : a * b / 18446744073709551616 = hN (a * b) := rfl
  have h2 : a * b % 18446744073709551616 = lN (a * b) := rfl
  rw [h1, h2] at hm
  refine pu_of_ex true [] mixed Try.call68 Try.func68 rfl Try.ntmps68 Try.results68 (by decide +kernel) rfl rfl rfl ?_
  simp only [push_cast, ↓branch_true, ↓branch_false, Nat.reduceBEq, Nat.reduceAdd, Nat.reduceMul, Nat.reduceSub, Int.reduceToNat, reduceCtorEq, Int.reduceAdd, Int.reduceEq, Int.reduceLE, Int.reduceLT, Nat.reduceLT, Nat.reduceLeDiff]
  refine sp_c (hm) rfl [] ?_
  simp only [push_cast, ↓branch_true, ↓branch_false, Nat.reduceBEq, Nat.reduceAdd, Nat.reduceMul, Nat.reduceSub, Int.reduceToNat, reduceCtorEq, Int.reduceAdd, Int.reduceEq, Int.reduceLE, Int.reduceLT, Nat.reduceLT, Nat.reduceLeDiff]
theorem less_pu (x y : Nat) : Pu Try.prog 70 [wV x, wV y] [] (.v (.bool (decide (x < y)))) := by
  have h1 := hl x
  have h2 := hl y
  have h3 := lN_lt x
  have h4 := lN_lt y
  refine pu_of_ex true [] mixed Try.call70 Try.func70 rfl Try.ntmps70 Try.results70 (by decide +kernel) rfl rfl rfl ?_
  simp only [push_cast, ↓branch_true, ↓branch_false, Nat.reduceBEq, Nat.reduceAdd, Nat.reduceMul, Nat.reduceSub, Int.reduceToNat, reduceCtorEq, Int.reduceAdd, Int.reduceEq, Int.reduceLE, Int.reduceLT, Nat.reduceLT, Nat.reduceLeDiff]
  generalize hN x = a at *
  generalize lN x = b at *
  generalize hN y = c at *
  generalize lN y = d at *
  repeat' (with_reducible (first | apply And.intro | intro _))
  all_goals
    refine vb ?_
    first | (simp; omega) | omega
theorem hiW_nat (x : Nat) : hiW (x : Int) = hN x := by unfold hiW hN; rw [Int.natAbs_natCast]
theorem loW_nat (x : Nat) : loW (x : Int) = lN x := by unfold loW lN; rw [Int.natAbs_natCast]
theorem plusw_sp (x y : Nat) (h : x + y < 340282366920938463463374607431768211456) : Sp Try.prog 89 [wV x, wV y] [] (isK (wV (x + y))) := by
  have h1 := hl x
  have h2 := hl y
  have h3 := lN_lt x
  have h4 := lN_lt y
  obtain ⟨e1, e2⟩ := plus_words (z := ((x + y : Nat) : Int)) (a := hN x) (b := lN x) (c := hN y) (d := lN y) (by rw [Int.natAbs_natCast, h1, h2]) (by rw [Int.natAbs_natCast]; exact h)
  rw [hiW_nat] at e1
  rw [loW_nat] at e2
  have x0 := fun H => add_xt (lN x) (lN y) 0 (by decide) H
  have x1 := fun H => add_xt (hN x) (hN y) (adC (lN x) (lN y) 0) (adC_le h3 h4 (by decide)) H
  rw [← e2] at x0
  rw [← e1] at x1
  unfold wV
  generalize adC (lN x) (lN y) 0 = C0 at *
  generalize adC (hN x) (hN y) C0 = C1 at *
  generalize hN (x + y) = h at *
  generalize lN (x + y) = l at *
  refine sp_of_exa true true [] mixed Try.call89 Try.func89 rfl Try.ntmps89 Try.results89 (by decide +kernel) rfl ?_
  simp only [push_cast, ↓branch_true, ↓branch_false, Nat.reduceBEq, Nat.reduceAdd, Nat.reduceMul, Nat.reduceSub, Int.reduceToNat, reduceCtorEq, Int.reduceAdd, Int.reduceEq, Int.reduceLE, Int.reduceLT, Nat.reduceLT, Nat.reduceLeDiff]
  refine Or.inr ⟨.t [.v (.int .u64 (l : Nat)), .v (.int .u64 (C0 : Nat))], _, rfl, x0 _, ?_⟩
  simp only [push_cast, ↓branch_true, ↓branch_false, Nat.reduceBEq, Nat.reduceAdd, Nat.reduceMul, Nat.reduceSub, Int.reduceToNat, reduceCtorEq, Int.reduceAdd, Int.reduceEq, Int.reduceLE, Int.reduceLT, Nat.reduceLT, Nat.reduceLeDiff]
  refine Or.inr ⟨.t [.v (.int .u64 (h : Nat)), .v (.int .u64 (C1 : Nat))], _, rfl, x1 _, ?_⟩
  simp only [push_cast, ↓branch_true, ↓branch_false, Nat.reduceBEq, Nat.reduceAdd, Nat.reduceMul, Nat.reduceSub, Int.reduceToNat, reduceCtorEq, Int.reduceAdd, Int.reduceEq, Int.reduceLE, Int.reduceLT, Nat.reduceLT, Nat.reduceLeDiff]
theorem plusw_pu (x y : Nat) (h : x + y < 340282366920938463463374607431768211456) : Pu Try.prog 89 [wV x, wV y] [] (wV (x + y)) := pu_of_sp rfl rfl (plusw_sp x y h)
theorem minusw_sp (x y : Nat) (h : y ≤ x) (hx : x < 340282366920938463463374607431768211456) : Sp Try.prog 90 [wV x, wV y] [] (isK (wV (x - y))) := by
  have h1 := hl x
  have h2 := hl y
  have h3 := lN_lt x
  have h4 := lN_lt y
  obtain ⟨e1, e2⟩ := minus_words (z := ((x - y : Nat) : Int)) (a := hN x) (b := lN x) (c := hN y) (d := lN y) (hN_lt hx) h3 h4 (by rw [Int.natAbs_natCast, h1, h2]; omega)
  rw [hiW_nat] at e1
  rw [loW_nat] at e2
  have x0 := fun H => sub_xt (lN x) (lN y) 0 (by decide) H
  have x1 := fun H => sub_xt (hN x) (hN y) (sbB (lN x) (lN y) 0) (sbB_le _ _ _) H
  rw [← e2] at x0
  rw [← e1] at x1
  unfold wV
  generalize sbB (lN x) (lN y) 0 = C0 at *
  generalize sbB (hN x) (hN y) C0 = C1 at *
  generalize hN (x - y) = h at *
  generalize lN (x - y) = l at *
  refine sp_of_exa true true [] mixed Try.call90 Try.func90 rfl Try.ntmps90 Try.results90 (by decide +kernel) rfl ?_
  simp only [push_cast, ↓branch_true, ↓branch_false, Nat.reduceBEq, Nat.reduceAdd, Nat.reduceMul, Nat.reduceSub, Int.reduceToNat, reduceCtorEq, Int.reduceAdd, Int.reduceEq, Int.reduceLE, Int.reduceLT, Nat.reduceLT, Nat.reduceLeDiff]
  refine Or.inr ⟨.t [.v (.int .u64 (l : Nat)), .v (.int .u64 (C0 : Nat))], _, rfl, x0 _, ?_⟩
  simp only [push_cast, ↓branch_true, ↓branch_false, Nat.reduceBEq, Nat.reduceAdd, Nat.reduceMul, Nat.reduceSub, Int.reduceToNat, reduceCtorEq, Int.reduceAdd, Int.reduceEq, Int.reduceLE, Int.reduceLT, Nat.reduceLT, Nat.reduceLeDiff]
  refine Or.inr ⟨.t [.v (.int .u64 (h : Nat)), .v (.int .u64 (C1 : Nat))], _, rfl, x1 _, ?_⟩
  simp only [push_cast, ↓branch_true, ↓branch_false, Nat.reduceBEq, Nat.reduceAdd, Nat.reduceMul, Nat.reduceSub, Int.reduceToNat, reduceCtorEq, Int.reduceAdd, Int.reduceEq, Int.reduceLE, Int.reduceLT, Nat.reduceLT, Nat.reduceLeDiff]
theorem minusw_pu (x y : Nat) (h : y ≤ x) (hx : x < 340282366920938463463374607431768211456) : Pu Try.prog 90 [wV x, wV y] [] (wV (x - y)) := pu_of_sp rfl rfl (minusw_sp x y h hx)
theorem over_words {W h l b : Nat} (hW : 0 < W) (hl : l < W) (hb : 0 < b) :
    ((h * W + l) / b) / W = h / b ∧ ((h * W + l) / b) % W = (h % b * W + l) / b ∧ (h * W + l) % b = (h % b * W + l) % b := by
  have h1 := Nat.div_add_mod' h b
  have e : h * W + l = b * (h / b * W) + (h % b * W + l) := by
    have : h * W = (h / b * b + h % b) * W := by rw [h1]
    rw [this, Nat.add_mul, Nat.mul_comm b, Nat.mul_right_comm]
    omega
  have h2 : h % b < b := Nat.mod_lt _ hb
  generalize h / b = q at *
  generalize h % b = r at *
  have h3 : (r * W + l) / b < W := by
    rw [Nat.div_lt_iff_lt_mul hb]
    have : (r + 1) * W ≤ b * W := Nat.mul_le_mul_right _ h2
    rw [Nat.succ_mul, Nat.mul_comm b] at this
    omega
  have h4 : (h * W + l) / b = W * q + (r * W + l) / b := by rw [e, Nat.mul_add_div hb, Nat.mul_comm q]
  rw [h4]
  refine ⟨?_, ?_, ?_⟩
  · rw [Nat.mul_add_div hW, Nat.div_eq_of_lt h3]; rfl
  · rw [Nat.mul_add_mod, Nat.mod_eq_of_lt h3]
  · rw [e, Nat.mul_add_mod]
theorem overw_pu (x b : Nat) (hx : x < 340282366920938463463374607431768211456) (hb : 0 < b ∧ b < 18446744073709551616) : Pu Try.prog 91 [wV x, .v (.int .u64 b)] [] (.t [wV (x / b), .v (.int .u64 (x % b : Nat))]) := by
  have h1 := hl x
  have h3 := lN_lt x
  have h4 := hN_lt hx
  obtain ⟨e1, e2, e3⟩ := over_words (W := 18446744073709551616) (h := hN x) (l := lN x) (b := b) (by decide) h3 hb.1
  rw [h1] at e1 e2 e3
  change hN (x / b) = _ at e1
  change lN (x / b) = _ at e2
  have hlt : hN x % b < b := Nat.mod_lt _ hb.1
  have hdv := div64_pu (hN x % b) (lN x) b hlt hb.2 h3
  have q1 : qN (hN x % b) (lN x) b = lN (x / b) := e2.symm
  have q2 : rN (hN x % b) (lN x) b = x % b := e3.symm
  rw [q1, q2] at hdv
  have t1 : ((hN x : Nat) : Int).tmod (b : Int) = ((hN x % b : Nat) : Int) := (Int.ofNat_tmod _ _).symm
  have t2 : ((hN x : Nat) : Int).tdiv (b : Int) = ((hN (x / b) : Nat) : Int) := by rw [e1]; exact (Int.ofNat_tdiv _ _).symm
  have hle : hN (x / b) ≤ hN x := by rw [e1]; exact Nat.div_le_self _ _
  clear e1 e2 e3
  unfold wV
  generalize hN (x / b) = h at *
  generalize lN (x / b) = l at *
  generalize x % b = r at *
  refine pu_of_ex true [] mixed Try.call91 Try.func91 rfl Try.ntmps91 Try.results91 (by decide +kernel) rfl rfl rfl ?_
  simp only [push_cast, ↓branch_true, ↓branch_false, Nat.reduceBEq, Nat.reduceAdd, Nat.reduceMul, Nat.reduceSub, Int.reduceToNat, reduceCtorEq, Int.reduceAdd, Int.reduceEq, Int.reduceLE, Int.reduceLT, Nat.reduceLT, Nat.reduceLeDiff]
  repeat (with_reducible refine And.intro (by omega) ?_)
  rw [t1]
  clear t1
  generalize hN x % b = hm at *
  repeat (with_reducible refine And.intro (by omega) ?_)
  refine qc_c (hdv) rfl [] ?_
  simp only [push_cast, ↓branch_true, ↓branch_false, Nat.reduceBEq, Nat.reduceAdd, Nat.reduceMul, Nat.reduceSub, Int.reduceToNat, reduceCtorEq, Int.reduceAdd, Int.reduceEq, Int.reduceLE, Int.reduceLT, Nat.reduceLT, Nat.reduceLeDiff]
  repeat (with_reducible refine And.intro (by omega) ?_)
  rw [t2]
/-- A valid fraction. -/
def vF (n d : Int) : Bool := decide (1 ≤ d) && (decide (d ≤ 1152921504606846976) && (decide (-1152921504606846976 ≤ n) && (decide (n ≤ 1152921504606846976) && (Nat.gcd n.natAbs d.toNat == 1))))
theorem vF_nat (n : Int) (D g : Nat) (h : Nat.gcd n.natAbs D = g) : vF n (D : Int) = (decide (1 ≤ (D : Int)) && (decide ((D : Int) ≤ 1152921504606846976) && (decide (-1152921504606846976 ≤ n) && (decide (n ≤ 1152921504606846976) && (g == 1))))) := by
  unfold vF
  rw [Int.toNat_natCast, h]
theorem fvalid_pu (n d : Int) (hn : -9223372036854775808 ≤ n ∧ n ≤ 9223372036854775807) (hd : -9223372036854775808 ≤ d ∧ d ≤ 9223372036854775807) : Pu Try.prog 45 [frV n d] [] (.v (.bool (vF n d))) := by
  by_cases h1 : 1 ≤ d
  · obtain ⟨D, rfl⟩ : ∃ D : Nat, d = D := ⟨d.toNat, by omega⟩
    have hs := size_pu n hn
    have hg := gcd_pu n.natAbs D (by omega) (by omega)
    have hv := vF_nat n D _ rfl
    generalize Nat.gcd n.natAbs D = g at *
    generalize n.natAbs = a at *
    refine pu_of_ex true [] mixed Try.call45 Try.func45 rfl Try.ntmps45 Try.results45 (by decide +kernel) rfl rfl rfl ?_
    simp only [push_cast, ↓branch_true, ↓branch_false, Nat.reduceBEq, Nat.reduceAdd, Nat.reduceMul, Nat.reduceSub, Int.reduceToNat, reduceCtorEq, Int.reduceAdd, Int.reduceEq, Int.reduceLE, Int.reduceLT, Nat.reduceLT, Nat.reduceLeDiff]
    refine ⟨fun _ => ⟨fun h2 => ⟨fun h3 => ⟨fun h4 => ?_, fun h4 => ?_⟩, fun h3 => ?_⟩, fun h2 => ?_⟩, fun h => absurd h1 h⟩
    · refine qc_c (hs) rfl [] ?_
      simp only [push_cast, ↓branch_true, ↓branch_false, Nat.reduceBEq, Nat.reduceAdd, Nat.reduceMul, Nat.reduceSub, Int.reduceToNat, reduceCtorEq, Int.reduceAdd, Int.reduceEq, Int.reduceLE, Int.reduceLT, Nat.reduceLT, Nat.reduceLeDiff]
      repeat (with_reducible refine And.intro (by omega) ?_)
      refine qc_c (hg) rfl [] ?_
      simp only [push_cast, ↓branch_true, ↓branch_false, Nat.reduceBEq, Nat.reduceAdd, Nat.reduceMul, Nat.reduceSub, Int.reduceToNat, reduceCtorEq, Int.reduceAdd, Int.reduceEq, Int.reduceLE, Int.reduceLT, Nat.reduceLT, Nat.reduceLeDiff]
      exact vb (by rw [hv, Bool.eq_iff_iff]; simp [h2, h3, h4]; omega)
    all_goals exact vb (by rw [hv]; simp; omega)
  · have hv : vF n d = false := by unfold vF; rw [decide_eq_false h1]; rfl
    refine pu_of_ex true [] mixed Try.call45 Try.func45 rfl Try.ntmps45 Try.results45 (by decide +kernel) rfl rfl rfl ?_
    simp only [push_cast, ↓branch_true, ↓branch_false, Nat.reduceBEq, Nat.reduceAdd, Nat.reduceMul, Nat.reduceSub, Int.reduceToNat, reduceCtorEq, Int.reduceAdd, Int.reduceEq, Int.reduceLE, Int.reduceLT, Nat.reduceLT, Nat.reduceLeDiff]
    exact ⟨fun h => absurd h h1, fun _ => vb hv.symm⟩
end Go.Proofs.Ytmefgachdnlaoaa
