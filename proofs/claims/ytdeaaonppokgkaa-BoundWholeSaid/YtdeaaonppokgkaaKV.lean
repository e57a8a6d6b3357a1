/- Contract: Valid. -/
import Derived.Test.YtdeaaonppokgkaaK
set_option maxRecDepth 100000
set_option linter.unusedSimpArgs false
set_option linter.unusedVariables false
namespace Go.Proofs.Ytdeaaonppokgkaa
open Go.RowKit Lp
/-- Valid. -/
def vPm (p : Pm) : Bool := !(decide (p.n < 1) || (decide (12 < p.n) || (decide (6 < p.m) || decide (0 ≤ ent (fun k => far 1048576 (p.co k)) p.n)))) && !decide (0 ≤ ent (badR p) p.m)
set_option maxHeartbeats 8000000 in
theorem valid_pu (p : Pm) (hl : ∀ t, t < p.m → p.ln t ≤ 1000000) (hn : p.n ≤ 1000000) (hm : p.m ≤ 1000000) : Pu Try.prog 69 [svP p] (obP p) (.v (.bool (vPm p))) := by
  have hcl : ∀ k, k < p.n → Pu Try.prog 90 ([] ++ [.v (.int .i64 (p.co k))] ++ [.p 1 0 0]) (rFm 1 (fun _ => p.n) (fun _ => p.nc) (fun _ => p.co) :: [⟨3, true, .st [.v (.int .i64 1048576)]⟩]) (.v (.bool (far 1048576 (p.co k)))) := fun k _ => pu_at (far_pu 1048576 (p.co k) (by omega)) rfl [1] rfl (by (simp only [push_cast, ↓branch_true, ↓branch_false, Nat.reduceBEq, Nat.reduceAdd, Nat.reduceMul, Nat.reduceSub, Int.reduceToNat, reduceCtorEq, Int.reduceAdd, Int.reduceEq, Int.reduceLE, Int.reduceLT, Nat.reduceLT, Nat.reduceLeDiff])) (by (simp only [push_cast, ↓branch_true, ↓branch_false, Nat.reduceBEq, Nat.reduceAdd, Nat.reduceMul, Nat.reduceSub, Int.reduceToNat, reduceCtorEq, Int.reduceAdd, Int.reduceEq, Int.reduceLE, Int.reduceLT, Nat.reduceLT, Nat.reduceLeDiff]))
  have hco := containsI_pu 1 0 (fun _ => p.n) (fun _ => p.nc) (fun _ => p.co) 90 [] [.p 1 0 0] [⟨3, true, .st [.v (.int .i64 1048576)]⟩] (fun k => far 1048576 (p.co k)) rfl (by decide) (by show p.n ≤ _; omega) hcl
  have hro := containsR_pu p 92 [] [.p 3 0 0, .p 4 0 0] [rBx p, rFar] (badR p) rfl (by omega) fun k hk => badR_pu p k hk (hl k hk) hn hm
  have hv : vPm p = (!(decide (p.n < 1) || (decide (12 < p.n) || (decide (6 < p.m) || decide (0 ≤ ent (fun k => far 1048576 (p.co k)) p.n)))) && !decide (0 ≤ ent (badR p) p.m)) := rfl
  generalize ent (fun k => far 1048576 (p.co k)) p.n = E at *
  generalize ent (badR p) p.m = Q at *
  refine pu_of_ex true [(2, .one 0 (.one 1 (.one 2 (.one 3 (.one 4 (.one 5 (.one 6 (.one 7 (.one 8 (.one 9 (.one 10 (.one 11 (.one 12 (.one 13 (.one 14 (.one 15 (.one 16 (.one 17 (.alt [(18, .one 19 (.one 20 (.one 21 (.one 22 .fin)))), (19, .alt [(18, .one 20 (.one 21 (.one 22 .fin))), (20, .one 18 (.one 21 (.one 22 .fin)))])])))))))))))))))))))] mixed Try.call69 Try.func69 rfl Try.ntmps69 Try.results69 (by decide +kernel) rfl rfl rfl ?_
  simp only [push_cast, ↓branch_true, ↓branch_false, Nat.reduceBEq, Nat.reduceAdd, Nat.reduceMul, Nat.reduceSub, Int.reduceToNat, reduceCtorEq, Int.reduceAdd, Int.reduceEq, Int.reduceLE, Int.reduceLT, Nat.reduceLT, Nat.reduceLeDiff]
  repeat' (first
        | (with_reducible apply And.intro)
        | (with_reducible intro _)
        | (exfalso; omega)
        | (refine far_call ?_
           simp only [push_cast, ↓branch_true, ↓branch_false, Nat.reduceBEq, Nat.reduceAdd, Nat.reduceMul, Nat.reduceSub, Int.reduceToNat, reduceCtorEq, Int.reduceAdd, Int.reduceEq, Int.reduceLE, Int.reduceLT, Nat.reduceLT, Nat.reduceLeDiff]
           )
        | (refine sp_c hco rfl [0, 5] ?_
           simp only [push_cast, ↓branch_true, ↓branch_false, Nat.reduceBEq, Nat.reduceAdd, Nat.reduceMul, Nat.reduceSub, Int.reduceToNat, reduceCtorEq, Int.reduceAdd, Int.reduceEq, Int.reduceLE, Int.reduceLT, Nat.reduceLT, Nat.reduceLeDiff]
           )
        | (refine sp_c hro rfl [0, 1, 2, 3, 4] ?_
           simp only [push_cast, ↓branch_true, ↓branch_false, Nat.reduceBEq, Nat.reduceAdd, Nat.reduceMul, Nat.reduceSub, Int.reduceToNat, reduceCtorEq, Int.reduceAdd, Int.reduceEq, Int.reduceLE, Int.reduceLT, Nat.reduceLT, Nat.reduceLeDiff]
           ))
  all_goals exact vb (by rw [hv]; first | (simp [*]; done) | (simp; omega))
end Go.Proofs.Ytdeaaonppokgkaa
