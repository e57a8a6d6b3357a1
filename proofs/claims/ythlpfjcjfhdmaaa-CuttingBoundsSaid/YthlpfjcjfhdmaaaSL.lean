/- Contracts: the sort, and Johnson's order. -/
import Derived.Test.YthlpfjcjfhdmaaaSK
set_option maxRecDepth 100000
set_option linter.unusedSimpArgs false
set_option linter.unusedVariables false
namespace Go.Proofs.Ythlpfjcjfhdmaaa
open Go.RowKit
theorem sort_sp (g : FuncId) (fs cs : List SV) (n cap : Nat) (H : List Ob) (V : Int → Prop) (O : Int → Int → Prop) (cm : Int → Int → Int) (K : Int → Int) (f : Nat → Int)
    (hC : Cmp g fs cs n cap H V cm) (hK : Kn V O cm K) (hV : allV V f 0 n) (hO : ∀ p q, p < q → q < n → O (f p) (f q)) (hro : roB H = true) (hn : n ≤ cap) (hcap : n ≤ 1152921504606846976) :
    Sp Try.prog 78 [.s 0 0 0 n cap 1, .f (.func g) fs cs] (rOwn 3 n cap f :: H) (fun r H' => ∃ f', r = .t [] ∧ H' = rOwn 3 n cap f' :: H ∧ InI K f 0 n f') := by
  have hs := stable_sp g fs cs n cap H V O cm K f (fun _ f a m b => merge_ok g fs cs n cap H V O cm K hC hK hro hn hcap _ f a m b rfl) hC hK hV hO hro hn hcap
  refine sp_of_ex true [] mixed Try.call78 Try.func78 rfl Try.ntmps78 Try.results78 (by decide +kernel) rfl ?_
  simp only [push_cast, ↓branch_true, ↓branch_false, Nat.reduceBEq, Nat.reduceAdd, Nat.reduceMul, Nat.reduceSub, Int.reduceToNat, reduceCtorEq, branch_decide, branch_not, branch_beq, branch_bne]
  refine sp_mono hs ?_
  rintro r H' ⟨f5, rfl, rfl, i5⟩
  simp only [push_cast, ↓branch_true, ↓branch_false, Nat.reduceBEq, Nat.reduceAdd, Nat.reduceMul, Nat.reduceSub, Int.reduceToNat, reduceCtorEq, branch_decide, branch_not, branch_beq, branch_bne]
  exact ⟨f5, rfl, i5⟩
end Go.Proofs.Ythlpfjcjfhdmaaa
