/- Contracts: IndexFunc, ContainsFunc; Valid. -/
import Derived.Test.YtdeaaonppokgkaaJ
set_option maxRecDepth 100000
set_option linter.unusedSimpArgs false
set_option linter.unusedVariables false
namespace Go.Proofs.Ytdeaaonppokgkaa
open Go.RowKit Lp
def rFm (N : Nat) (ln cp : Nat → Nat) (a : Nat → Nat → Int) : Ob := ⟨3, true, .row 1 N ln cp (fun t k => [.v (.int .i64 (a t k))])⟩
attribute [push_cast] rFm
theorem ent_neg {p : Nat → Bool} {k : Nat} (h : ∀ j, j < k → p j = false) : ent p k = -1 := ent_no h
theorem indexI_pu (N i : Nat) (ln cp : Nat → Nat) (a : Nat → Nat → Int) (g : FuncId) (fs cs : List SV) (H : List Ob) (p : Nat → Bool) (hro : roB H = true) (hi : i < N) (hN : ln i ≤ 9223372036854775806)
    (hp : ∀ k, k < ln i → Pu Try.prog g (fs ++ [.v (.int .i64 (a i k))] ++ cs) (rFm N ln cp a :: H) (.v (.bool (p k)))) :
    Pu Try.prog 57 [.s 0 i 0 (ln i) (cp i) 1, .f (.func g) fs cs] (rFm N ln cp a :: H) (.v (.int .i64 (ent p (ln i)))) := by
  refine pu_of_ex true [] mixed Try.call57 Try.func57 rfl Try.ntmps57 Try.results57 (by decide +kernel) rfl (by simp [roB, hro, rFm]) rfl ?_
  simp only [push_cast, ↓branch_true, ↓branch_false, Nat.reduceBEq, Nat.reduceAdd, Nat.reduceMul, Nat.reduceSub, Int.reduceToNat, reduceCtorEq, Int.reduceAdd, Int.reduceEq, Int.reduceLE, Int.reduceLT, Nat.reduceLT, Nat.reduceLeDiff]
  refine tr_loop0 mixed (by kernel_rfl) (fun (k : Nat) => [(8, .v (.int .i64 k)), (7, .v (.int .i64 (ln i))), (0, .s 0 i 0 (ln i) (cp i) 1), (1, .f (.func g) fs cs)]) (fun k => k ≤ ln i ∧ ∀ j, j < k → p j = false) (fun k => ln i - k) 0 ⟨Nat.zero_le _, fun j h => by omega⟩ ?_ ?_
  · simp only [push_cast, ↓branch_true, ↓branch_false, Nat.reduceBEq, Nat.reduceAdd, Nat.reduceMul, Nat.reduceSub, Int.reduceToNat, reduceCtorEq, Int.reduceAdd, Int.reduceEq, Int.reduceLE, Int.reduceLT, Nat.reduceLT, Nat.reduceLeDiff]
  · rintro k ⟨hk, hn⟩
    simp only [push_cast, ↓branch_true, ↓branch_false, Nat.reduceBEq, Nat.reduceAdd, Nat.reduceMul, Nat.reduceSub, Int.reduceToNat, reduceCtorEq, Int.reduceAdd, Int.reduceEq, Int.reduceLE, Int.reduceLT, Nat.reduceLT, Nat.reduceLeDiff]
    refine ⟨fun h1 => ?_, fun h1 => ?_⟩
    · repeat (with_reducible refine And.intro (by omega) ?_)
      have hp1 := hp k (by omega)
      refine sp_pu (by simpa only [push_cast] using hp1) ?_
      simp only [push_cast, ↓branch_true, ↓branch_false, Nat.reduceBEq, Nat.reduceAdd, Nat.reduceMul, Nat.reduceSub, Int.reduceToNat, reduceCtorEq, Int.reduceAdd, Int.reduceEq, Int.reduceLE, Int.reduceLT, Nat.reduceLT, Nat.reduceLeDiff]
      simp only [branch]
      refine ⟨fun h2 => ?_, fun h2 => ?_⟩
      · rw [ent_is (by omega) h2 hn]
      · repeat (with_reducible refine And.intro (by omega) ?_)
        refine lp0_normal (k + 1) ⟨by omega, fun j hj => ?_⟩ (by omega) ?_
        · by_cases e : j = k
          · rw [e]; exact h2
          · exact hn j (by omega)
        · simp only [push_cast, ↓branch_true, ↓branch_false, Nat.reduceBEq, Nat.reduceAdd, Nat.reduceMul, Nat.reduceSub, Int.reduceToNat, reduceCtorEq, Int.reduceAdd, Int.reduceEq, Int.reduceLE, Int.reduceLT, Nat.reduceLT, Nat.reduceLeDiff]
    · rw [ent_no fun j hj => hn j (by omega)]
theorem containsI_pu (N i : Nat) (ln cp : Nat → Nat) (a : Nat → Nat → Int) (g : FuncId) (fs cs : List SV) (H : List Ob) (p : Nat → Bool) (hro : roB H = true) (hi : i < N) (hN : ln i ≤ 9223372036854775806)
    (hp : ∀ k, k < ln i → Pu Try.prog g (fs ++ [.v (.int .i64 (a i k))] ++ cs) (rFm N ln cp a :: H) (.v (.bool (p k)))) :
    Pu Try.prog 34 [.s 0 i 0 (ln i) (cp i) 1, .f (.func g) fs cs] (rFm N ln cp a :: H) (.v (.bool (decide (0 ≤ ent p (ln i))))) := by
  refine pu_of_ex true [] mixed Try.call34 Try.func34 rfl Try.ntmps34 Try.results34 (by decide +kernel) rfl (by simp [roB, hro, rFm]) rfl ?_
  simp only [push_cast, ↓branch_true, ↓branch_false, Nat.reduceBEq, Nat.reduceAdd, Nat.reduceMul, Nat.reduceSub, Int.reduceToNat, reduceCtorEq, Int.reduceAdd, Int.reduceEq, Int.reduceLE, Int.reduceLT, Nat.reduceLT, Nat.reduceLeDiff]
  refine sp_pu (indexI_pu N i ln cp a g fs cs H p hro hi hN hp) ?_
  simp only [push_cast, ↓branch_true, ↓branch_false, Nat.reduceBEq, Nat.reduceAdd, Nat.reduceMul, Nat.reduceSub, Int.reduceToNat, reduceCtorEq, Int.reduceAdd, Int.reduceEq, Int.reduceLE, Int.reduceLT, Nat.reduceLT, Nat.reduceLeDiff]
theorem indexR_pu (p : Pm) (g : FuncId) (fs cs : List SV) (H : List Ob) (q : Nat → Bool) (hro : roB H = true) (hN : p.m ≤ 9223372036854775806)
    (hp : ∀ k, k < p.m → Pu Try.prog g (fs ++ [.a [.s 2 k 0 (p.ln k) (p.cp k) 1, .v (.int .i64 (p.kd k)), .v (.int .i64 (p.b k))]] ++ cs) (obP p ++ H) (.v (.bool (q k)))) :
    Pu Try.prog 100 [.s 1 0 0 p.m p.mc 3, .f (.func g) fs cs] (obP p ++ H) (.v (.int .i64 (ent q p.m))) := by
  refine pu_of_ex true [] mixed Try.call100 Try.func100 rfl Try.ntmps100 Try.results100 (by decide +kernel) rfl (by simp [roB, hro, obP, rI, rRw, rAf]) rfl ?_
  simp only [push_cast, ↓branch_true, ↓branch_false, Nat.reduceBEq, Nat.reduceAdd, Nat.reduceMul, Nat.reduceSub, Int.reduceToNat, reduceCtorEq, Int.reduceAdd, Int.reduceEq, Int.reduceLE, Int.reduceLT, Nat.reduceLT, Nat.reduceLeDiff]
  refine tr_loop0 mixed (by kernel_rfl) (fun (k : Nat) => [(8, .v (.int .i64 k)), (7, .v (.int .i64 p.m)), (0, .s 1 0 0 p.m p.mc 3), (1, .f (.func g) fs cs)]) (fun k => k ≤ p.m ∧ ∀ j, j < k → q j = false) (fun k => p.m - k) 0 ⟨Nat.zero_le _, fun j h => by omega⟩ ?_ ?_
  · simp only [push_cast, ↓branch_true, ↓branch_false, Nat.reduceBEq, Nat.reduceAdd, Nat.reduceMul, Nat.reduceSub, Int.reduceToNat, reduceCtorEq, Int.reduceAdd, Int.reduceEq, Int.reduceLE, Int.reduceLT, Nat.reduceLT, Nat.reduceLeDiff]
  · rintro k ⟨hk, hn⟩
    simp only [push_cast, ↓branch_true, ↓branch_false, Nat.reduceBEq, Nat.reduceAdd, Nat.reduceMul, Nat.reduceSub, Int.reduceToNat, reduceCtorEq, Int.reduceAdd, Int.reduceEq, Int.reduceLE, Int.reduceLT, Nat.reduceLT, Nat.reduceLeDiff]
    refine ⟨fun h1 => ?_, fun h1 => ?_⟩
    · repeat (with_reducible refine And.intro (by omega) ?_)
      have hp1 := hp k (by omega)
      refine sp_pu (by simpa only [push_cast] using hp1) ?_
      simp only [push_cast, ↓branch_true, ↓branch_false, Nat.reduceBEq, Nat.reduceAdd, Nat.reduceMul, Nat.reduceSub, Int.reduceToNat, reduceCtorEq, Int.reduceAdd, Int.reduceEq, Int.reduceLE, Int.reduceLT, Nat.reduceLT, Nat.reduceLeDiff]
      simp only [branch]
      refine ⟨fun h2 => ?_, fun h2 => ?_⟩
      · rw [ent_is (by omega) h2 hn]
      · repeat (with_reducible refine And.intro (by omega) ?_)
        refine lp0_normal (k + 1) ⟨by omega, fun j hj => ?_⟩ (by omega) ?_
        · by_cases e : j = k
          · rw [e]; exact h2
          · exact hn j (by omega)
        · simp only [push_cast, ↓branch_true, ↓branch_false, Nat.reduceBEq, Nat.reduceAdd, Nat.reduceMul, Nat.reduceSub, Int.reduceToNat, reduceCtorEq, Int.reduceAdd, Int.reduceEq, Int.reduceLE, Int.reduceLT, Nat.reduceLT, Nat.reduceLeDiff]
    · rw [ent_no fun j hj => hn j (by omega)]
theorem containsR_pu (p : Pm) (g : FuncId) (fs cs : List SV) (H : List Ob) (q : Nat → Bool) (hro : roB H = true) (hN : p.m ≤ 9223372036854775806)
    (hp : ∀ k, k < p.m → Pu Try.prog g (fs ++ [.a [.s 2 k 0 (p.ln k) (p.cp k) 1, .v (.int .i64 (p.kd k)), .v (.int .i64 (p.b k))]] ++ cs) (obP p ++ H) (.v (.bool (q k)))) :
    Pu Try.prog 91 [.s 1 0 0 p.m p.mc 3, .f (.func g) fs cs] (obP p ++ H) (.v (.bool (decide (0 ≤ ent q p.m)))) := by
  refine pu_of_ex true [] mixed Try.call91 Try.func91 rfl Try.ntmps91 Try.results91 (by decide +kernel) rfl (by simp [roB, hro, obP, rI, rRw, rAf]) rfl ?_
  simp only [push_cast, ↓branch_true, ↓branch_false, Nat.reduceBEq, Nat.reduceAdd, Nat.reduceMul, Nat.reduceSub, Int.reduceToNat, reduceCtorEq, Int.reduceAdd, Int.reduceEq, Int.reduceLE, Int.reduceLT, Nat.reduceLT, Nat.reduceLeDiff]
  refine sp_pu (by simpa only [push_cast] using indexR_pu p g fs cs H q hro hN hp) ?_
  simp only [push_cast, ↓branch_true, ↓branch_false, Nat.reduceBEq, Nat.reduceAdd, Nat.reduceMul, Nat.reduceSub, Int.reduceToNat, reduceCtorEq, Int.reduceAdd, Int.reduceEq, Int.reduceLE, Int.reduceLT, Nat.reduceLT, Nat.reduceLeDiff]
def far (most x : Int) : Bool := decide (x < -most) || decide (most < x)
theorem vb {a b : Bool} (h : a = b) : SV.v (.bool a) = SV.v (.bool b) := by rw [h]
theorem far_pu (most x : Int) (h : 0 ≤ most ∧ most ≤ 1000000000000) : Pu Try.prog 90 [.v (.int .i64 x), .p 0 0 0] [⟨3, true, .st [.v (.int .i64 most)]⟩] (.v (.bool (far most x))) := by
  refine pu_of_ex true [] mixed Try.call90 Try.func90 rfl Try.ntmps90 Try.results90 (by decide +kernel) rfl rfl rfl ?_
  simp only [push_cast, ↓branch_true, ↓branch_false, Nat.reduceBEq, Nat.reduceAdd, Nat.reduceMul, Nat.reduceSub, Int.reduceToNat, reduceCtorEq, Int.reduceAdd, Int.reduceEq, Int.reduceLE, Int.reduceLT, Nat.reduceLT, Nat.reduceLeDiff]
  repeat (with_reducible refine And.intro (by omega) ?_)
  exact ⟨fun h1 => vb (by simp [far]; omega), fun h1 => vb (by simp [far]; omega)⟩
theorem far_sp (most : Int) : Sp Try.prog 89 [.v (.int .i64 most)] [] (fun r H => r = .f (.func 90) [] [.p 0 0 0] ∧ H = [⟨3, false, .st [.v (.int .i64 most)]⟩]) := by
  refine sp_of_ex true [] mixed Try.call89 Try.func89 rfl Try.ntmps89 Try.results89 (by decide +kernel) rfl ?_
  simp only [push_cast, ↓branch_true, ↓branch_false, Nat.reduceBEq, Nat.reduceAdd, Nat.reduceMul, Nat.reduceSub, Int.reduceToNat, reduceCtorEq, Int.reduceAdd, Int.reduceEq, Int.reduceLE, Int.reduceLT, Nat.reduceLT, Nat.reduceLeDiff]
theorem far_call {most : Int} {H : List Ob} {K : SV → List Ob → Prop} (h : K (.f (.func 90) [] [.p H.length 0 0]) (H ++ [⟨3, false, .st [.v (.int .i64 most)]⟩])) : Sp Try.prog 89 [.v (.int .i64 most)] H K :=
  sp_at (far_sp most) [] (by simp [nodupB, ltB]) (by (simp only [push_cast, ↓branch_true, ↓branch_false, Nat.reduceBEq, Nat.reduceAdd, Nat.reduceMul, Nat.reduceSub, Int.reduceToNat, reduceCtorEq, Int.reduceAdd, Int.reduceEq, Int.reduceLE, Int.reduceLT, Nat.reduceLT, Nat.reduceLeDiff])) (by (simp only [push_cast, ↓branch_true, ↓branch_false, Nat.reduceBEq, Nat.reduceAdd, Nat.reduceMul, Nat.reduceSub, Int.reduceToNat, reduceCtorEq, Int.reduceAdd, Int.reduceEq, Int.reduceLE, Int.reduceLT, Nat.reduceLT, Nat.reduceLeDiff])) fun r0 H1 ⟨e1, e2⟩ => by
    subst e1 e2
    have e : rn1 [] H.length (SV.f (Fn.func 90) [] [SV.p 0 0 0]) = .f (.func 90) [] [.p H.length 0 0] := by simp [rn1, rnL, rnI, rnO, nth]
    rw [e]
    exact h
def rBx (p : Pm) : Ob := ⟨76, true, .st [.s 0 0 0 p.n p.nc 1, .s 1 0 0 p.m p.mc 3]⟩
def rFar : Ob := ⟨130, true, .st [.f (.func 89) [] []]⟩
attribute [push_cast] rBx rFar
def badR (p : Pm) (t : Nat) : Bool := decide (p.ln t ≠ p.n) || (decide (0 ≤ ent (fun k => far 1048576 (p.a t k)) (p.ln t)) || (decide (p.kd t < 1) || (decide (3 < p.kd t) || far 1073741824 (p.b t))))
set_option maxHeartbeats 8000000 in
theorem badR_pu (p : Pm) (t : Nat) (ht : t < p.m) (hl : p.ln t ≤ 1000000) (hn : p.n ≤ 1000000) (hm : p.m ≤ 1000000) : Pu Try.prog 92 [.a [.s 2 t 0 (p.ln t) (p.cp t) 1, .v (.int .i64 (p.kd t)), .v (.int .i64 (p.b t))], .p 3 0 0, .p 4 0 0] (obP p ++ [rBx p, rFar]) (.v (.bool (badR p t))) := by
  have hcl : ∀ k, k < p.ln t → Pu Try.prog 90 ([] ++ [.v (.int .i64 (p.a t k))] ++ [.p 1 0 0]) (rFm p.fz p.ln p.cp p.a :: [⟨3, true, .st [.v (.int .i64 1048576)]⟩]) (.v (.bool (far 1048576 (p.a t k)))) := fun k _ => pu_at (far_pu 1048576 (p.a t k) (by omega)) rfl [1] rfl (by (simp only [push_cast, ↓branch_true, ↓branch_false, Nat.reduceBEq, Nat.reduceAdd, Nat.reduceMul, Nat.reduceSub, Int.reduceToNat, reduceCtorEq, Int.reduceAdd, Int.reduceEq, Int.reduceLE, Int.reduceLT, Nat.reduceLT, Nat.reduceLeDiff])) (by (simp only [push_cast, ↓branch_true, ↓branch_false, Nat.reduceBEq, Nat.reduceAdd, Nat.reduceMul, Nat.reduceSub, Int.reduceToNat, reduceCtorEq, Int.reduceAdd, Int.reduceEq, Int.reduceLE, Int.reduceLT, Nat.reduceLT, Nat.reduceLeDiff]))
  have hco := containsI_pu p.fz t p.ln p.cp p.a 90 [] [.p 1 0 0] [⟨3, true, .st [.v (.int .i64 1048576)]⟩] (fun k => far 1048576 (p.a t k)) rfl (by have := p.fzm; omega) (by omega) hcl
  have hfb := far_pu 1073741824 (p.b t) (by omega)
  have hfz := p.fzm
  have hbad : badR p t = (decide (p.ln t ≠ p.n) || (decide (0 ≤ ent (fun k => far 1048576 (p.a t k)) (p.ln t)) || (decide (p.kd t < 1) || (decide (3 < p.kd t) || far 1073741824 (p.b t))))) := rfl
  generalize ent (fun k => far 1048576 (p.a t k)) (p.ln t) = E at *
  generalize far 1073741824 (p.b t) = fb at *
  by_cases h1 : p.ln t = p.n
  · rw [decide_eq_false (by simpa using h1), Bool.false_or] at hbad
    refine pu_of_ex true [(1, .jn (.one 0 (.one 3 (.alt [(1, .one 2 (.one 4 (.one 5 (.one 6 (.one 7 (.one 8 (.alt [(9, .one 10 (.one 11 (.one 12 (.one 13 (.one 14 (.one 15 (.one 16 (.one 17 (.one 18 (.one 19 (.one 20 (.one 21 (.one 22 (.one 23 (.one 24 (.one 27 (.alt [(25, .alt [(26, .one 28 (.one 29 (.one 30 (.one 31 .fin)))), (28, .one 26 (.one 29 (.one 30 (.one 31 .fin))))]), (28, .one 25 (.one 26 (.one 29 (.one 30 (.one 31 .fin)))))]))))))))))))))))), (10, .alt [(9, .one 11 (.one 12 (.one 13 (.one 14 (.one 15 (.one 16 (.one 17 (.one 18 (.one 19 (.one 20 (.one 21 (.one 22 (.one 23 (.one 24 (.one 27 (.alt [(25, .alt [(26, .one 28 (.one 29 (.one 30 (.one 31 .fin)))), (28, .one 26 (.one 29 (.one 30 (.one 31 .fin))))]), (28, .one 25 (.one 26 (.one 29 (.one 30 (.one 31 .fin)))))])))))))))))))))), (11, .one 9 (.one 12 (.one 13 (.one 14 (.one 15 (.one 16 (.one 17 (.one 18 (.one 19 (.one 20 (.one 21 (.one 22 (.one 23 (.one 24 (.one 27 (.alt [(25, .alt [(26, .one 28 (.one 29 (.one 30 (.one 31 .fin)))), (28, .one 26 (.one 29 (.one 30 (.one 31 .fin))))]), (28, .one 25 (.one 26 (.one 29 (.one 30 (.one 31 .fin)))))]))))))))))))))))])]))))))), (4, .one 5 (.one 1 (.one 2 (.one 6 (.one 7 (.one 8 (.alt [(9, .one 10 (.one 11 (.one 12 (.one 13 (.one 14 (.one 15 (.one 16 (.one 17 (.one 18 (.one 19 (.one 20 (.one 21 (.one 22 (.one 23 (.one 24 (.one 27 (.alt [(25, .alt [(26, .one 28 (.one 29 (.one 30 (.one 31 .fin)))), (28, .one 26 (.one 29 (.one 30 (.one 31 .fin))))]), (28, .one 25 (.one 26 (.one 29 (.one 30 (.one 31 .fin)))))]))))))))))))))))), (10, .alt [(9, .one 11 (.one 12 (.one 13 (.one 14 (.one 15 (.one 16 (.one 17 (.one 18 (.one 19 (.one 20 (.one 21 (.one 22 (.one 23 (.one 24 (.one 27 (.alt [(25, .alt [(26, .one 28 (.one 29 (.one 30 (.one 31 .fin)))), (28, .one 26 (.one 29 (.one 30 (.one 31 .fin))))]), (28, .one 25 (.one 26 (.one 29 (.one 30 (.one 31 .fin)))))])))))))))))))))), (11, .one 9 (.one 12 (.one 13 (.one 14 (.one 15 (.one 16 (.one 17 (.one 18 (.one 19 (.one 20 (.one 21 (.one 22 (.one 23 (.one 24 (.one 27 (.alt [(25, .alt [(26, .one 28 (.one 29 (.one 30 (.one 31 .fin)))), (28, .one 26 (.one 29 (.one 30 (.one 31 .fin))))]), (28, .one 25 (.one 26 (.one 29 (.one 30 (.one 31 .fin)))))]))))))))))))))))])])))))))]))))] mixed Try.call92 Try.func92 rfl Try.ntmps92 Try.results92 (by decide +kernel) rfl rfl rfl ?_
    simp only [push_cast, ↓branch_true, ↓branch_false, Nat.reduceBEq, Nat.reduceAdd, Nat.reduceMul, Nat.reduceSub, Int.reduceToNat, reduceCtorEq, Int.reduceAdd, Int.reduceEq, Int.reduceLE, Int.reduceLT, Nat.reduceLT, Nat.reduceLeDiff]
    refine ⟨[(4, .v (.bool (badR p t)))], obP p ++ [rBx p, rFar], ?_, ?_⟩
    · simp only [push_cast, ↓branch_true, ↓branch_false, Nat.reduceBEq, Nat.reduceAdd, Nat.reduceMul, Nat.reduceSub, Int.reduceToNat, reduceCtorEq, Int.reduceAdd, Int.reduceEq, Int.reduceLE, Int.reduceLT, Nat.reduceLT, Nat.reduceLeDiff]
      repeat' (first
        | (with_reducible apply And.intro)
        | (with_reducible intro _)
        | (exfalso; omega)
        | (refine far_call ?_
           simp only [push_cast, ↓branch_true, ↓branch_false, Nat.reduceBEq, Nat.reduceAdd, Nat.reduceMul, Nat.reduceSub, Int.reduceToNat, reduceCtorEq, Int.reduceAdd, Int.reduceEq, Int.reduceLE, Int.reduceLT, Nat.reduceLT, Nat.reduceLeDiff]
           )
        | (refine sp_c hco rfl [2, 6] ?_
           simp only [push_cast, ↓branch_true, ↓branch_false, Nat.reduceBEq, Nat.reduceAdd, Nat.reduceMul, Nat.reduceSub, Int.reduceToNat, reduceCtorEq, Int.reduceAdd, Int.reduceEq, Int.reduceLE, Int.reduceLT, Nat.reduceLT, Nat.reduceLeDiff]
           )
        | (refine sp_c hfb rfl [7] ?_
           simp only [push_cast, ↓branch_true, ↓branch_false, Nat.reduceBEq, Nat.reduceAdd, Nat.reduceMul, Nat.reduceSub, Int.reduceToNat, reduceCtorEq, Int.reduceAdd, Int.reduceEq, Int.reduceLE, Int.reduceLT, Nat.reduceLT, Nat.reduceLeDiff]
           ))
      all_goals
        refine Mt.wk (rl := [0, 1, 2, 3, 4]) ⟨by kernel_rfl, ?_, ?_⟩
        · simp only [push_cast, ↓branch_true, ↓branch_false, Nat.reduceBEq, Nat.reduceAdd, Nat.reduceMul, Nat.reduceSub, Int.reduceToNat, reduceCtorEq, Int.reduceAdd, Int.reduceEq, Int.reduceLE, Int.reduceLT, Nat.reduceLT, Nat.reduceLeDiff]
          exact congrArg Value.bool (by rw [hbad]; cases fb <;> first | (simp; done) | (simp; omega))
        · simp only [push_cast, ↓branch_true, ↓branch_false, Nat.reduceBEq, Nat.reduceAdd, Nat.reduceMul, Nat.reduceSub, Int.reduceToNat, reduceCtorEq, Int.reduceAdd, Int.reduceEq, Int.reduceLE, Int.reduceLT, Nat.reduceLT, Nat.reduceLeDiff]
    · simp only [push_cast, ↓branch_true, ↓branch_false, Nat.reduceBEq, Nat.reduceAdd, Nat.reduceMul, Nat.reduceSub, Int.reduceToNat, reduceCtorEq, Int.reduceAdd, Int.reduceEq, Int.reduceLE, Int.reduceLT, Nat.reduceLT, Nat.reduceLeDiff, jnK]
  · rw [decide_eq_true (by simpa using h1), Bool.true_or] at hbad
    refine pu_of_ex true [(1, .jn (.one 0 (.one 3 (.alt [(1, .one 2 (.one 4 (.one 5 (.one 6 (.one 7 (.one 8 (.alt [(9, .one 10 (.one 11 (.one 12 (.one 13 (.one 14 (.one 15 (.one 16 (.one 17 (.one 18 (.one 19 (.one 20 (.one 21 (.one 22 (.one 23 (.one 24 (.one 27 (.alt [(25, .alt [(26, .one 28 (.one 29 (.one 30 (.one 31 .fin)))), (28, .one 26 (.one 29 (.one 30 (.one 31 .fin))))]), (28, .one 25 (.one 26 (.one 29 (.one 30 (.one 31 .fin)))))]))))))))))))))))), (10, .alt [(9, .one 11 (.one 12 (.one 13 (.one 14 (.one 15 (.one 16 (.one 17 (.one 18 (.one 19 (.one 20 (.one 21 (.one 22 (.one 23 (.one 24 (.one 27 (.alt [(25, .alt [(26, .one 28 (.one 29 (.one 30 (.one 31 .fin)))), (28, .one 26 (.one 29 (.one 30 (.one 31 .fin))))]), (28, .one 25 (.one 26 (.one 29 (.one 30 (.one 31 .fin)))))])))))))))))))))), (11, .one 9 (.one 12 (.one 13 (.one 14 (.one 15 (.one 16 (.one 17 (.one 18 (.one 19 (.one 20 (.one 21 (.one 22 (.one 23 (.one 24 (.one 27 (.alt [(25, .alt [(26, .one 28 (.one 29 (.one 30 (.one 31 .fin)))), (28, .one 26 (.one 29 (.one 30 (.one 31 .fin))))]), (28, .one 25 (.one 26 (.one 29 (.one 30 (.one 31 .fin)))))]))))))))))))))))])]))))))), (4, .one 5 (.one 1 (.one 2 (.one 6 (.one 7 (.one 8 (.alt [(9, .one 10 (.one 11 (.one 12 (.one 13 (.one 14 (.one 15 (.one 16 (.one 17 (.one 18 (.one 19 (.one 20 (.one 21 (.one 22 (.one 23 (.one 24 (.one 27 (.alt [(25, .alt [(26, .one 28 (.one 29 (.one 30 (.one 31 .fin)))), (28, .one 26 (.one 29 (.one 30 (.one 31 .fin))))]), (28, .one 25 (.one 26 (.one 29 (.one 30 (.one 31 .fin)))))]))))))))))))))))), (10, .alt [(9, .one 11 (.one 12 (.one 13 (.one 14 (.one 15 (.one 16 (.one 17 (.one 18 (.one 19 (.one 20 (.one 21 (.one 22 (.one 23 (.one 24 (.one 27 (.alt [(25, .alt [(26, .one 28 (.one 29 (.one 30 (.one 31 .fin)))), (28, .one 26 (.one 29 (.one 30 (.one 31 .fin))))]), (28, .one 25 (.one 26 (.one 29 (.one 30 (.one 31 .fin)))))])))))))))))))))), (11, .one 9 (.one 12 (.one 13 (.one 14 (.one 15 (.one 16 (.one 17 (.one 18 (.one 19 (.one 20 (.one 21 (.one 22 (.one 23 (.one 24 (.one 27 (.alt [(25, .alt [(26, .one 28 (.one 29 (.one 30 (.one 31 .fin)))), (28, .one 26 (.one 29 (.one 30 (.one 31 .fin))))]), (28, .one 25 (.one 26 (.one 29 (.one 30 (.one 31 .fin)))))]))))))))))))))))])])))))))]))))] mixed Try.call92 Try.func92 rfl Try.ntmps92 Try.results92 (by decide +kernel) rfl rfl rfl ?_
    simp only [push_cast, ↓branch_true, ↓branch_false, Nat.reduceBEq, Nat.reduceAdd, Nat.reduceMul, Nat.reduceSub, Int.reduceToNat, reduceCtorEq, Int.reduceAdd, Int.reduceEq, Int.reduceLE, Int.reduceLT, Nat.reduceLT, Nat.reduceLeDiff]
    refine ⟨[(4, .v (.bool (badR p t)))], obP p ++ [rBx p, rFar], ?_, ?_⟩
    · simp only [push_cast, ↓branch_true, ↓branch_false, Nat.reduceBEq, Nat.reduceAdd, Nat.reduceMul, Nat.reduceSub, Int.reduceToNat, reduceCtorEq, Int.reduceAdd, Int.reduceEq, Int.reduceLE, Int.reduceLT, Nat.reduceLT, Nat.reduceLeDiff]
      repeat' (first
        | (with_reducible apply And.intro)
        | (with_reducible intro _)
        | (exfalso; omega)
        | (refine far_call ?_
           simp only [push_cast, ↓branch_true, ↓branch_false, Nat.reduceBEq, Nat.reduceAdd, Nat.reduceMul, Nat.reduceSub, Int.reduceToNat, reduceCtorEq, Int.reduceAdd, Int.reduceEq, Int.reduceLE, Int.reduceLT, Nat.reduceLT, Nat.reduceLeDiff]
           )
        | (refine sp_c hco rfl [2, 6] ?_
           simp only [push_cast, ↓branch_true, ↓branch_false, Nat.reduceBEq, Nat.reduceAdd, Nat.reduceMul, Nat.reduceSub, Int.reduceToNat, reduceCtorEq, Int.reduceAdd, Int.reduceEq, Int.reduceLE, Int.reduceLT, Nat.reduceLT, Nat.reduceLeDiff]
           )
        | (refine sp_c hfb rfl [7] ?_
           simp only [push_cast, ↓branch_true, ↓branch_false, Nat.reduceBEq, Nat.reduceAdd, Nat.reduceMul, Nat.reduceSub, Int.reduceToNat, reduceCtorEq, Int.reduceAdd, Int.reduceEq, Int.reduceLE, Int.reduceLT, Nat.reduceLT, Nat.reduceLeDiff]
           ))
      all_goals
        refine Mt.wk (rl := [0, 1, 2, 3, 4]) ⟨by kernel_rfl, ?_, ?_⟩
        · simp only [push_cast, ↓branch_true, ↓branch_false, Nat.reduceBEq, Nat.reduceAdd, Nat.reduceMul, Nat.reduceSub, Int.reduceToNat, reduceCtorEq, Int.reduceAdd, Int.reduceEq, Int.reduceLE, Int.reduceLT, Nat.reduceLT, Nat.reduceLeDiff, hbad]
        · simp only [push_cast, ↓branch_true, ↓branch_false, Nat.reduceBEq, Nat.reduceAdd, Nat.reduceMul, Nat.reduceSub, Int.reduceToNat, reduceCtorEq, Int.reduceAdd, Int.reduceEq, Int.reduceLE, Int.reduceLT, Nat.reduceLT, Nat.reduceLeDiff]
    · simp only [push_cast, ↓branch_true, ↓branch_false, Nat.reduceBEq, Nat.reduceAdd, Nat.reduceMul, Nat.reduceSub, Int.reduceToNat, reduceCtorEq, Int.reduceAdd, Int.reduceEq, Int.reduceLE, Int.reduceLT, Nat.reduceLT, Nat.reduceLeDiff, jnK]
end Go.Proofs.Ytdeaaonppokgkaa
