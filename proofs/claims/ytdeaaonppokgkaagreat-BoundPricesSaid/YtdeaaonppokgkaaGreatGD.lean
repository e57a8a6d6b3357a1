/- Contracts: IndexFunc, ContainsFunc; Valid. Contract: Valid. Contracts: sum, Max, fits. Contract: fits. Plain: from a program's numbers to the conditions of the contracts. -/
import Derived.Test.YtdeaaonppokgkaaGreatJ
import Derived.Test.YtdeaaonppokgkaaGreatI
set_option maxRecDepth 100000
set_option linter.unusedSimpArgs false
set_option linter.unusedVariables false
namespace Go.Proofs.YtdeaaonppokgkaaGreat
open Go.RowKit Lp
def rFm (N : Nat) (ln cp : Nat → Nat) (a : Nat → Nat → Int) : Ob := ⟨3, true, .row 1 N ln cp (fun t k => [.v (.int .i64 (a t k))])⟩
attribute [push_cast] rFm
theorem indexI_pu (N i : Nat) (ln cp : Nat → Nat) (a : Nat → Nat → Int) (g : FuncId) (fs cs : List SV) (H : List Ob) (p : Nat → Bool) (hro : roB H = true) (hi : i < N) (hN : ln i ≤ 9223372036854775806)
    (hp : ∀ k, k < ln i → Pu Tryz.prog g (fs ++ [.v (.int .i64 (a i k))] ++ cs) (rFm N ln cp a :: H) (.v (.bool (p k)))) :
    Pu Tryz.prog 74 [.s 0 i 0 (ln i) (cp i) 1, .f (.func g) fs cs] (rFm N ln cp a :: H) (.v (.int .i64 (ent p (ln i)))) := by
  refine pu_of_ex true [] mixed Tryz.call74 Tryz.func74 rfl Tryz.ntmps74 Tryz.results74 (by decide +kernel) rfl (by simp [roB, hro, rFm]) rfl ?_
  refine sxq ?_
  try with_reducible exact trivial
  refine tr_loop0 mixed (by kernel_rfl) (fun (k : Nat) => [(8, .v (.int .i64 k)), (7, .v (.int .i64 (ln i))), (0, .s 0 i 0 (ln i) (cp i) 1), (1, .f (.func g) fs cs)]) (fun k => k ≤ ln i ∧ ∀ j, j < k → p j = false) (fun k => ln i - k) 0 ⟨Nat.zero_le _, fun j h => by omega⟩ ?_ ?_
  · refine sxq ?_
    try with_reducible exact trivial
  · rintro k ⟨hk, hn⟩
    refine sxq ?_
    try with_reducible exact trivial
    refine ⟨fun h1 => ?_, fun h1 => ?_⟩
    · repeat (with_reducible refine And.intro (by omega) ?_)
      have hp1 := hp k (by omega)
      refine sp_pu (by simpa only [push_cast] using hp1) ?_
      refine sxq ?_
      try with_reducible exact trivial
      simp only [branch]
      refine ⟨fun h2 => ?_, fun h2 => ?_⟩
      · rw [ent_is (by omega) h2 hn]
      · repeat (with_reducible refine And.intro (by omega) ?_)
        refine lp0_normal (k + 1) ⟨by omega, fun j hj => ?_⟩ (by omega) ?_
        · by_cases e : j = k
          · rw [e]; exact h2
          · exact hn j (by omega)
        · refine sxq ?_
          try with_reducible exact trivial
    · rw [ent_no fun j hj => hn j (by omega)]
theorem containsI_pu (N i : Nat) (ln cp : Nat → Nat) (a : Nat → Nat → Int) (g : FuncId) (fs cs : List SV) (H : List Ob) (p : Nat → Bool) (hro : roB H = true) (hi : i < N) (hN : ln i ≤ 9223372036854775806)
    (hp : ∀ k, k < ln i → Pu Tryz.prog g (fs ++ [.v (.int .i64 (a i k))] ++ cs) (rFm N ln cp a :: H) (.v (.bool (p k)))) :
    Pu Tryz.prog 39 [.s 0 i 0 (ln i) (cp i) 1, .f (.func g) fs cs] (rFm N ln cp a :: H) (.v (.bool (decide (0 ≤ ent p (ln i))))) := by
  refine pu_of_ex true [] mixed Tryz.call39 Tryz.func39 rfl Tryz.ntmps39 Tryz.results39 (by decide +kernel) rfl (by simp [roB, hro, rFm]) rfl ?_
  refine sxq ?_
  try with_reducible exact trivial
  refine sp_pu (indexI_pu N i ln cp a g fs cs H p hro hi hN hp) ?_
  refine sxq ?_
  try with_reducible exact trivial
theorem indexR_pu (p : Pm) (g : FuncId) (fs cs : List SV) (H : List Ob) (q : Nat → Bool) (hro : roB H = true) (hN : p.m ≤ 9223372036854775806)
    (hp : ∀ k, k < p.m → Pu Tryz.prog g (fs ++ [.a [.s 2 k 0 (p.ln k) (p.cp k) 1, .v (.int .i64 (p.kd k)), .v (.int .i64 (p.b k))]] ++ cs) (obP p ++ H) (.v (.bool (q k)))) :
    Pu Tryz.prog 104 [.s 1 0 0 p.m p.mc 3, .f (.func g) fs cs] (obP p ++ H) (.v (.int .i64 (ent q p.m))) := by
  refine pu_of_ex true [] mixed Tryz.call104 Tryz.func104 rfl Tryz.ntmps104 Tryz.results104 (by decide +kernel) rfl (by simp [roB, hro, obP, rI, rRw, rAf]) rfl ?_
  refine sxq ?_
  try with_reducible exact trivial
  refine tr_loop0 mixed (by kernel_rfl) (fun (k : Nat) => [(8, .v (.int .i64 k)), (7, .v (.int .i64 p.m)), (0, .s 1 0 0 p.m p.mc 3), (1, .f (.func g) fs cs)]) (fun k => k ≤ p.m ∧ ∀ j, j < k → q j = false) (fun k => p.m - k) 0 ⟨Nat.zero_le _, fun j h => by omega⟩ ?_ ?_
  · refine sxq ?_
    try with_reducible exact trivial
  · rintro k ⟨hk, hn⟩
    refine sxq ?_
    try with_reducible exact trivial
    refine ⟨fun h1 => ?_, fun h1 => ?_⟩
    · repeat (with_reducible refine And.intro (by omega) ?_)
      have hp1 := hp k (by omega)
      refine sp_pu (by simpa only [push_cast] using hp1) ?_
      refine sxq ?_
      try with_reducible exact trivial
      simp only [branch]
      refine ⟨fun h2 => ?_, fun h2 => ?_⟩
      · rw [ent_is (by omega) h2 hn]
      · repeat (with_reducible refine And.intro (by omega) ?_)
        refine lp0_normal (k + 1) ⟨by omega, fun j hj => ?_⟩ (by omega) ?_
        · by_cases e : j = k
          · rw [e]; exact h2
          · exact hn j (by omega)
        · refine sxq ?_
          try with_reducible exact trivial
    · rw [ent_no fun j hj => hn j (by omega)]
theorem containsR_pu (p : Pm) (g : FuncId) (fs cs : List SV) (H : List Ob) (q : Nat → Bool) (hro : roB H = true) (hN : p.m ≤ 9223372036854775806)
    (hp : ∀ k, k < p.m → Pu Tryz.prog g (fs ++ [.a [.s 2 k 0 (p.ln k) (p.cp k) 1, .v (.int .i64 (p.kd k)), .v (.int .i64 (p.b k))]] ++ cs) (obP p ++ H) (.v (.bool (q k)))) :
    Pu Tryz.prog 86 [.s 1 0 0 p.m p.mc 3, .f (.func g) fs cs] (obP p ++ H) (.v (.bool (decide (0 ≤ ent q p.m)))) := by
  refine pu_of_ex true [] mixed Tryz.call86 Tryz.func86 rfl Tryz.ntmps86 Tryz.results86 (by decide +kernel) rfl (by simp [roB, hro, obP, rI, rRw, rAf]) rfl ?_
  refine sxq ?_
  try with_reducible exact trivial
  refine sp_pu (by simpa only [push_cast] using indexR_pu p g fs cs H q hro hN hp) ?_
  refine sxq ?_
  try with_reducible exact trivial
def far (most x : Int) : Bool := decide (x < -most) || decide (most < x)
theorem vb {a b : Bool} (h : a = b) : SV.v (.bool a) = SV.v (.bool b) := by rw [h]
theorem far_pu (most x : Int) (h : 0 ≤ most ∧ most ≤ 1000000000000) : Pu Tryz.prog 85 [.v (.int .i64 x), .p 0 0 0] [⟨3, true, .st [.v (.int .i64 most)]⟩] (.v (.bool (far most x))) := by
  refine pu_of_ex true [] mixed Tryz.call85 Tryz.func85 rfl Tryz.ntmps85 Tryz.results85 (by decide +kernel) rfl rfl rfl ?_
  refine sxq ?_
  try with_reducible exact trivial
  repeat (with_reducible refine And.intro (by omega) ?_)
  exact ⟨fun h1 => vb (by simp [far]; omega), fun h1 => vb (by simp [far]; omega)⟩
theorem far_sp (most : Int) : Sp Tryz.prog 84 [.v (.int .i64 most)] [] (fun r H => r = .f (.func 85) [] [.p 0 0 0] ∧ H = [⟨3, false, .st [.v (.int .i64 most)]⟩]) := by
  refine sp_of_ex true [] mixed Tryz.call84 Tryz.func84 rfl Tryz.ntmps84 Tryz.results84 (by decide +kernel) rfl ?_
  refine sxq ?_
  try with_reducible exact trivial
theorem far_call {most : Int} {H : List Ob} {K : SV → List Ob → Prop} (h : K (.f (.func 85) [] [.p H.length 0 0]) (H ++ [⟨3, false, .st [.v (.int .i64 most)]⟩])) : Sp Tryz.prog 84 [.v (.int .i64 most)] H K :=
  sp_at (far_sp most) [] (by simp [nodupB, ltB]) (by (simp only [push_cast, ↓branch_true, ↓branch_false, Nat.reduceBEq, Nat.reduceAdd, Nat.reduceMul, Nat.reduceSub, Int.reduceToNat, reduceCtorEq, Int.reduceAdd, Int.reduceEq, Int.reduceLE, Int.reduceLT, Nat.reduceLT, Nat.reduceLeDiff])) (by (simp only [push_cast, ↓branch_true, ↓branch_false, Nat.reduceBEq, Nat.reduceAdd, Nat.reduceMul, Nat.reduceSub, Int.reduceToNat, reduceCtorEq, Int.reduceAdd, Int.reduceEq, Int.reduceLE, Int.reduceLT, Nat.reduceLT, Nat.reduceLeDiff])) fun r0 H1 ⟨e1, e2⟩ => by
    subst e1 e2
    have e : rn1 [] H.length (SV.f (Fn.func 85) [] [SV.p 0 0 0]) = .f (.func 85) [] [.p H.length 0 0] := by simp [rn1, rnL, rnI, rnO, nth]
    rw [e]
    exact h
def rBx (p : Pm) : Ob := ⟨35, true, .st [.s 0 0 0 p.n p.nc 1, .s 1 0 0 p.m p.mc 3]⟩
def rFar : Ob := ⟨127, true, .st [.f (.func 84) [] []]⟩
attribute [push_cast] rBx rFar
def badR (p : Pm) (t : Nat) : Bool := decide (p.ln t ≠ p.n) || (decide (0 ≤ ent (fun k => far 1048576 (p.a t k)) (p.ln t)) || (decide (p.kd t < 1) || (decide (3 < p.kd t) || far 1073741824 (p.b t))))
set_option maxHeartbeats 8000000 in
theorem badR_pu (p : Pm) (t : Nat) (ht : t < p.m) (hl : p.ln t ≤ 1000000) (hn : p.n ≤ 1000000) (hm : p.m ≤ 1000000) : Pu Tryz.prog 87 [.a [.s 2 t 0 (p.ln t) (p.cp t) 1, .v (.int .i64 (p.kd t)), .v (.int .i64 (p.b t))], .p 3 0 0, .p 4 0 0] (obP p ++ [rBx p, rFar]) (.v (.bool (badR p t))) := by
  have hcl : ∀ k, k < p.ln t → Pu Tryz.prog 85 ([] ++ [.v (.int .i64 (p.a t k))] ++ [.p 1 0 0]) (rFm p.fz p.ln p.cp p.a :: [⟨3, true, .st [.v (.int .i64 1048576)]⟩]) (.v (.bool (far 1048576 (p.a t k)))) := fun k _ => pu_at (far_pu 1048576 (p.a t k) (by omega)) rfl [1] rfl (by (simp only [push_cast, ↓branch_true, ↓branch_false, Nat.reduceBEq, Nat.reduceAdd, Nat.reduceMul, Nat.reduceSub, Int.reduceToNat, reduceCtorEq, Int.reduceAdd, Int.reduceEq, Int.reduceLE, Int.reduceLT, Nat.reduceLT, Nat.reduceLeDiff])) (by (simp only [push_cast, ↓branch_true, ↓branch_false, Nat.reduceBEq, Nat.reduceAdd, Nat.reduceMul, Nat.reduceSub, Int.reduceToNat, reduceCtorEq, Int.reduceAdd, Int.reduceEq, Int.reduceLE, Int.reduceLT, Nat.reduceLT, Nat.reduceLeDiff]))
  have hco := containsI_pu p.fz t p.ln p.cp p.a 85 [] [.p 1 0 0] [⟨3, true, .st [.v (.int .i64 1048576)]⟩] (fun k => far 1048576 (p.a t k)) rfl (by have := p.fzm; omega) (by omega) hcl
  have hfb := far_pu 1073741824 (p.b t) (by omega)
  have hfz := p.fzm
  have hbad : badR p t = (decide (p.ln t ≠ p.n) || (decide (0 ≤ ent (fun k => far 1048576 (p.a t k)) (p.ln t)) || (decide (p.kd t < 1) || (decide (3 < p.kd t) || far 1073741824 (p.b t))))) := rfl
  generalize ent (fun k => far 1048576 (p.a t k)) (p.ln t) = E at *
  generalize far 1073741824 (p.b t) = fb at *
  by_cases h1 : p.ln t = p.n
  · rw [decide_eq_false (by simpa using h1), Bool.false_or] at hbad
    refine pu_of_ex true [(1, .jn (.one 0 (.one 3 (.alt [(1, .one 2 (.one 4 (.one 5 (.one 6 (.one 7 (.one 8 (.alt [(9, .one 10 (.one 11 (.one 12 (.one 13 (.one 14 (.one 15 (.one 16 (.one 17 (.one 18 (.one 19 (.one 20 (.one 21 (.one 22 (.one 23 (.one 24 (.one 27 (.alt [(25, .alt [(26, .one 28 (.one 29 (.one 30 (.one 31 .fin)))), (28, .one 26 (.one 29 (.one 30 (.one 31 .fin))))]), (28, .one 25 (.one 26 (.one 29 (.one 30 (.one 31 .fin)))))]))))))))))))))))), (10, .alt [(9, .one 11 (.one 12 (.one 13 (.one 14 (.one 15 (.one 16 (.one 17 (.one 18 (.one 19 (.one 20 (.one 21 (.one 22 (.one 23 (.one 24 (.one 27 (.alt [(25, .alt [(26, .one 28 (.one 29 (.one 30 (.one 31 .fin)))), (28, .one 26 (.one 29 (.one 30 (.one 31 .fin))))]), (28, .one 25 (.one 26 (.one 29 (.one 30 (.one 31 .fin)))))])))))))))))))))), (11, .one 9 (.one 12 (.one 13 (.one 14 (.one 15 (.one 16 (.one 17 (.one 18 (.one 19 (.one 20 (.one 21 (.one 22 (.one 23 (.one 24 (.one 27 (.alt [(25, .alt [(26, .one 28 (.one 29 (.one 30 (.one 31 .fin)))), (28, .one 26 (.one 29 (.one 30 (.one 31 .fin))))]), (28, .one 25 (.one 26 (.one 29 (.one 30 (.one 31 .fin)))))]))))))))))))))))])]))))))), (4, .one 5 (.one 1 (.one 2 (.one 6 (.one 7 (.one 8 (.alt [(9, .one 10 (.one 11 (.one 12 (.one 13 (.one 14 (.one 15 (.one 16 (.one 17 (.one 18 (.one 19 (.one 20 (.one 21 (.one 22 (.one 23 (.one 24 (.one 27 (.alt [(25, .alt [(26, .one 28 (.one 29 (.one 30 (.one 31 .fin)))), (28, .one 26 (.one 29 (.one 30 (.one 31 .fin))))]), (28, .one 25 (.one 26 (.one 29 (.one 30 (.one 31 .fin)))))]))))))))))))))))), (10, .alt [(9, .one 11 (.one 12 (.one 13 (.one 14 (.one 15 (.one 16 (.one 17 (.one 18 (.one 19 (.one 20 (.one 21 (.one 22 (.one 23 (.one 24 (.one 27 (.alt [(25, .alt [(26, .one 28 (.one 29 (.one 30 (.one 31 .fin)))), (28, .one 26 (.one 29 (.one 30 (.one 31 .fin))))]), (28, .one 25 (.one 26 (.one 29 (.one 30 (.one 31 .fin)))))])))))))))))))))), (11, .one 9 (.one 12 (.one 13 (.one 14 (.one 15 (.one 16 (.one 17 (.one 18 (.one 19 (.one 20 (.one 21 (.one 22 (.one 23 (.one 24 (.one 27 (.alt [(25, .alt [(26, .one 28 (.one 29 (.one 30 (.one 31 .fin)))), (28, .one 26 (.one 29 (.one 30 (.one 31 .fin))))]), (28, .one 25 (.one 26 (.one 29 (.one 30 (.one 31 .fin)))))]))))))))))))))))])])))))))]))))] mixed Tryz.call87 Tryz.func87 rfl Tryz.ntmps87 Tryz.results87 (by decide +kernel) rfl rfl rfl ?_
    refine sxq ?_
    try with_reducible exact trivial
    refine ⟨[(4, .v (.bool (badR p t)))], obP p ++ [rBx p, rFar], ?_, ?_⟩
    · refine sxq ?_
      try with_reducible exact trivial
      repeat' (first
        | (with_reducible apply And.intro)
        | (with_reducible intro _)
        | (exfalso; omega)
        | (refine far_call ?_
           refine sxq ?_
           try with_reducible exact trivial
           )
        | (refine sp_c hco rfl [2, 6] ?_
           refine sxq ?_
           try with_reducible exact trivial
           )
        | (refine sp_c hfb rfl [7] ?_
           refine sxq ?_
           try with_reducible exact trivial
           ))
      all_goals
        refine Mt.wk (rl := [0, 1, 2, 3, 4]) ⟨by kernel_rfl, ?_, ?_⟩
        · refine sxq ?_
          try with_reducible exact trivial
          exact congrArg Value.bool (by rw [hbad]; cases fb <;> first | (simp; done) | (simp; omega))
        · refine sxq ?_
          try with_reducible exact trivial
    · simp only [push_cast, ↓branch_true, ↓branch_false, Nat.reduceBEq, Nat.reduceAdd, Nat.reduceMul, Nat.reduceSub, Int.reduceToNat, reduceCtorEq, Int.reduceAdd, Int.reduceEq, Int.reduceLE, Int.reduceLT, Nat.reduceLT, Nat.reduceLeDiff, jnK]
  · rw [decide_eq_true (by simpa using h1), Bool.true_or] at hbad
    refine pu_of_ex true [(1, .jn (.one 0 (.one 3 (.alt [(1, .one 2 (.one 4 (.one 5 (.one 6 (.one 7 (.one 8 (.alt [(9, .one 10 (.one 11 (.one 12 (.one 13 (.one 14 (.one 15 (.one 16 (.one 17 (.one 18 (.one 19 (.one 20 (.one 21 (.one 22 (.one 23 (.one 24 (.one 27 (.alt [(25, .alt [(26, .one 28 (.one 29 (.one 30 (.one 31 .fin)))), (28, .one 26 (.one 29 (.one 30 (.one 31 .fin))))]), (28, .one 25 (.one 26 (.one 29 (.one 30 (.one 31 .fin)))))]))))))))))))))))), (10, .alt [(9, .one 11 (.one 12 (.one 13 (.one 14 (.one 15 (.one 16 (.one 17 (.one 18 (.one 19 (.one 20 (.one 21 (.one 22 (.one 23 (.one 24 (.one 27 (.alt [(25, .alt [(26, .one 28 (.one 29 (.one 30 (.one 31 .fin)))), (28, .one 26 (.one 29 (.one 30 (.one 31 .fin))))]), (28, .one 25 (.one 26 (.one 29 (.one 30 (.one 31 .fin)))))])))))))))))))))), (11, .one 9 (.one 12 (.one 13 (.one 14 (.one 15 (.one 16 (.one 17 (.one 18 (.one 19 (.one 20 (.one 21 (.one 22 (.one 23 (.one 24 (.one 27 (.alt [(25, .alt [(26, .one 28 (.one 29 (.one 30 (.one 31 .fin)))), (28, .one 26 (.one 29 (.one 30 (.one 31 .fin))))]), (28, .one 25 (.one 26 (.one 29 (.one 30 (.one 31 .fin)))))]))))))))))))))))])]))))))), (4, .one 5 (.one 1 (.one 2 (.one 6 (.one 7 (.one 8 (.alt [(9, .one 10 (.one 11 (.one 12 (.one 13 (.one 14 (.one 15 (.one 16 (.one 17 (.one 18 (.one 19 (.one 20 (.one 21 (.one 22 (.one 23 (.one 24 (.one 27 (.alt [(25, .alt [(26, .one 28 (.one 29 (.one 30 (.one 31 .fin)))), (28, .one 26 (.one 29 (.one 30 (.one 31 .fin))))]), (28, .one 25 (.one 26 (.one 29 (.one 30 (.one 31 .fin)))))]))))))))))))))))), (10, .alt [(9, .one 11 (.one 12 (.one 13 (.one 14 (.one 15 (.one 16 (.one 17 (.one 18 (.one 19 (.one 20 (.one 21 (.one 22 (.one 23 (.one 24 (.one 27 (.alt [(25, .alt [(26, .one 28 (.one 29 (.one 30 (.one 31 .fin)))), (28, .one 26 (.one 29 (.one 30 (.one 31 .fin))))]), (28, .one 25 (.one 26 (.one 29 (.one 30 (.one 31 .fin)))))])))))))))))))))), (11, .one 9 (.one 12 (.one 13 (.one 14 (.one 15 (.one 16 (.one 17 (.one 18 (.one 19 (.one 20 (.one 21 (.one 22 (.one 23 (.one 24 (.one 27 (.alt [(25, .alt [(26, .one 28 (.one 29 (.one 30 (.one 31 .fin)))), (28, .one 26 (.one 29 (.one 30 (.one 31 .fin))))]), (28, .one 25 (.one 26 (.one 29 (.one 30 (.one 31 .fin)))))]))))))))))))))))])])))))))]))))] mixed Tryz.call87 Tryz.func87 rfl Tryz.ntmps87 Tryz.results87 (by decide +kernel) rfl rfl rfl ?_
    refine sxq ?_
    try with_reducible exact trivial
    refine ⟨[(4, .v (.bool (badR p t)))], obP p ++ [rBx p, rFar], ?_, ?_⟩
    · refine sxq ?_
      try with_reducible exact trivial
      repeat' (first
        | (with_reducible apply And.intro)
        | (with_reducible intro _)
        | (exfalso; omega)
        | (refine far_call ?_
           refine sxq ?_
           try with_reducible exact trivial
           )
        | (refine sp_c hco rfl [2, 6] ?_
           refine sxq ?_
           try with_reducible exact trivial
           )
        | (refine sp_c hfb rfl [7] ?_
           refine sxq ?_
           try with_reducible exact trivial
           ))
      all_goals
        refine Mt.wk (rl := [0, 1, 2, 3, 4]) ⟨by kernel_rfl, ?_, ?_⟩
        · simp only [push_cast, ↓branch_true, ↓branch_false, Nat.reduceBEq, Nat.reduceAdd, Nat.reduceMul, Nat.reduceSub, Int.reduceToNat, reduceCtorEq, Int.reduceAdd, Int.reduceEq, Int.reduceLE, Int.reduceLT, Nat.reduceLT, Nat.reduceLeDiff, hbad]
        · refine sxq ?_
          try with_reducible exact trivial
    · simp only [push_cast, ↓branch_true, ↓branch_false, Nat.reduceBEq, Nat.reduceAdd, Nat.reduceMul, Nat.reduceSub, Int.reduceToNat, reduceCtorEq, Int.reduceAdd, Int.reduceEq, Int.reduceLE, Int.reduceLT, Nat.reduceLT, Nat.reduceLeDiff, jnK]
end Go.Proofs.YtdeaaonppokgkaaGreat
namespace Go.Proofs.YtdeaaonppokgkaaGreat
open Go.RowKit Lp
/-- Valid. -/
def vPm (p : Pm) : Bool := !(decide (p.n < 1) || (decide (12 < p.n) || (decide (6 < p.m) || decide (0 ≤ ent (fun k => far 1048576 (p.co k)) p.n)))) && !decide (0 ≤ ent (badR p) p.m)
set_option maxHeartbeats 8000000 in
theorem valid_pu (p : Pm) (hl : ∀ t, t < p.m → p.ln t ≤ 1000000) (hn : p.n ≤ 1000000) (hm : p.m ≤ 1000000) : Pu Tryz.prog 53 [svP p] (obP p) (.v (.bool (vPm p))) := by
  have hcl : ∀ k, k < p.n → Pu Tryz.prog 85 ([] ++ [.v (.int .i64 (p.co k))] ++ [.p 1 0 0]) (rFm 1 (fun _ => p.n) (fun _ => p.nc) (fun _ => p.co) :: [⟨3, true, .st [.v (.int .i64 1048576)]⟩]) (.v (.bool (far 1048576 (p.co k)))) := fun k _ => pu_at (far_pu 1048576 (p.co k) (by omega)) rfl [1] rfl (by (simp only [push_cast, ↓branch_true, ↓branch_false, Nat.reduceBEq, Nat.reduceAdd, Nat.reduceMul, Nat.reduceSub, Int.reduceToNat, reduceCtorEq, Int.reduceAdd, Int.reduceEq, Int.reduceLE, Int.reduceLT, Nat.reduceLT, Nat.reduceLeDiff])) (by (simp only [push_cast, ↓branch_true, ↓branch_false, Nat.reduceBEq, Nat.reduceAdd, Nat.reduceMul, Nat.reduceSub, Int.reduceToNat, reduceCtorEq, Int.reduceAdd, Int.reduceEq, Int.reduceLE, Int.reduceLT, Nat.reduceLT, Nat.reduceLeDiff]))
  have hco := containsI_pu 1 0 (fun _ => p.n) (fun _ => p.nc) (fun _ => p.co) 85 [] [.p 1 0 0] [⟨3, true, .st [.v (.int .i64 1048576)]⟩] (fun k => far 1048576 (p.co k)) rfl (by decide) (by show p.n ≤ _; omega) hcl
  have hro := containsR_pu p 87 [] [.p 3 0 0, .p 4 0 0] [rBx p, rFar] (badR p) rfl (by omega) fun k hk => badR_pu p k hk (hl k hk) hn hm
  have hv : vPm p = (!(decide (p.n < 1) || (decide (12 < p.n) || (decide (6 < p.m) || decide (0 ≤ ent (fun k => far 1048576 (p.co k)) p.n)))) && !decide (0 ≤ ent (badR p) p.m)) := rfl
  generalize ent (fun k => far 1048576 (p.co k)) p.n = E at *
  generalize ent (badR p) p.m = Q at *
  refine pu_of_ex true [(2, .one 0 (.one 1 (.one 2 (.one 3 (.one 4 (.one 5 (.one 6 (.one 7 (.one 8 (.one 9 (.one 10 (.one 11 (.one 12 (.one 13 (.one 14 (.one 15 (.one 16 (.one 17 (.alt [(18, .one 19 (.one 20 (.one 21 (.one 22 .fin)))), (19, .alt [(18, .one 20 (.one 21 (.one 22 .fin))), (20, .one 18 (.one 21 (.one 22 .fin)))])])))))))))))))))))))] mixed Tryz.call53 Tryz.func53 rfl Tryz.ntmps53 Tryz.results53 (by decide +kernel) rfl rfl rfl ?_
  refine sxq ?_
  try with_reducible exact trivial
  repeat' (first
        | (with_reducible apply And.intro)
        | (with_reducible intro _)
        | (exfalso; omega)
        | (refine far_call ?_
           refine sxq ?_
           try with_reducible exact trivial
           )
        | (refine sp_c hco rfl [0, 5] ?_
           refine sxq ?_
           try with_reducible exact trivial
           )
        | (refine sp_c hro rfl [0, 1, 2, 3, 4] ?_
           refine sxq ?_
           try with_reducible exact trivial
           ))
  all_goals exact vb (by rw [hv]; first | (simp [*]; done) | (simp; omega))
end Go.Proofs.YtdeaaonppokgkaaGreat
namespace Go.Proofs.YtdeaaonppokgkaaGreat
open Go.RowKit Lp
/-- One, a size, and the sizes of some numbers. -/
def szs (f : Nat → Int) (more : Int) : Nat → Nat
  | 0 => 1 + more.natAbs
  | k + 1 => szs f more k + (f k).natAbs
theorem szs_pos (f : Nat → Int) (more : Int) : ∀ k, 0 < szs f more k
  | 0 => by rw [szs]; omega
  | k + 1 => by rw [szs]; have := szs_pos f more k; omega
theorem szs_le {f : Nat → Int} {more : Int} {A B : Nat} (hm : more.natAbs ≤ A) : ∀ {k : Nat}, (∀ i, i < k → (f i).natAbs ≤ B) → szs f more k ≤ 1 + A + k * B
  | 0, _ => by rw [szs]; omega
  | k + 1, h => by
    rw [szs, Nat.succ_mul]
    have h1 := szs_le (f := f) (A := A) (B := B) hm (k := k) fun i hi => h i (by omega)
    have h2 := h k (by omega)
    omega
theorem szs_mono (f : Nat → Int) (more : Int) {k : Nat} : ∀ {n : Nat}, k ≤ n → szs f more k ≤ szs f more n
  | 0, h => by obtain rfl : k = 0 := by omega
               exact Nat.le_refl _
  | n + 1, h => by
    by_cases e : k = n + 1
    · rw [e]; exact Nat.le_refl _
    · rw [szs]
      have := szs_mono f more (k := k) (n := n) (by omega)
      omega
theorem sum_pu (N i : Nat) (ln cp : Nat → Nat) (a : Nat → Nat → Int) (more : Int) (hi : i < N) (hl : ln i ≤ 1000000) (hb : szs (a i) more (ln i) ≤ 1000000000000) : Pu Tryz.prog 88 [.s 0 i 0 (ln i) (cp i) 1, .v (.int .i64 more)] [rFm N ln cp a] (.v (.int .i64 (szs (a i) more (ln i) : Nat))) := by
  have h0 : szs (a i) more 0 = 1 + more.natAbs := rfl
  have hm0 := szs_mono (a i) more (Nat.zero_le (ln i))
  refine pu_of_ex true [] mixed Tryz.call88 Tryz.func88 rfl Tryz.ntmps88 Tryz.results88 (by decide +kernel) rfl rfl rfl ?_
  refine sxq ?_
  try with_reducible exact trivial
  refine sp_c (psize_pu more (by omega)) rfl [] ?_
  refine sxq ?_
  try with_reducible exact trivial
  repeat (with_reducible refine And.intro (by omega) ?_)
  refine tr_loop0 mixed (by kernel_rfl) (fun (k : Nat) => [(14, .v (.int .i64 k)), (13, .v (.int .i64 (ln i))), (12, .s 0 i 0 (ln i) (cp i) 1), (5, .v (.int .i64 (szs (a i) more k : Nat)))]) (fun k => k ≤ ln i) (fun k => ln i - k) 0 (Nat.zero_le _) ?_ ?_
  · refine sxq ?_
    try with_reducible exact trivial
    exact vi (by omega)
  intro k hk
  have hm1 := szs_mono (a i) more hk
  refine sxq ?_
  try with_reducible exact trivial
  refine ⟨fun h1 => ?_, fun h1 => ?_⟩
  · have hn : szs (a i) more (k + 1) = szs (a i) more k + (a i k).natAbs := rfl
    have hm2 := szs_mono (a i) more (show k + 1 ≤ ln i by omega)
    repeat (with_reducible refine And.intro (by omega) ?_)
    refine sp_c (psize_pu (a i k) (by omega)) rfl [] ?_
    refine sxq ?_
    try with_reducible exact trivial
    repeat (with_reducible refine And.intro (by omega) ?_)
    refine lp0_normal (k + 1) (by omega) (by omega) ?_
    simp only [push_cast, ↓branch_true, ↓branch_false, Nat.reduceBEq, Nat.reduceAdd, Nat.reduceMul, Nat.reduceSub, Int.reduceToNat, reduceCtorEq, Int.reduceAdd, Int.reduceEq, Int.reduceLE, Int.reduceLT, Nat.reduceLT, Nat.reduceLeDiff, hn]
  · obtain rfl : k = ln i := by omega
    rfl
/-- The greatest of some numbers. -/
def mxk (f : Nat → Nat) : Nat → Nat
  | 0 => f 0
  | k + 1 => max (mxk f k) (f k)
theorem mxk_ge (f : Nat → Nat) : ∀ {k i : Nat}, i < k → f i ≤ mxk f k
  | k + 1, i, h => by
    rw [mxk]
    by_cases e : i = k
    · rw [e]; omega
    · have := mxk_ge f (k := k) (i := i) (by omega)
      omega
theorem mxk_is (f : Nat → Nat) : ∀ k : Nat, ∃ i, (i < k ∨ i = 0) ∧ mxk f k = f i
  | 0 => ⟨0, .inr rfl, rfl⟩
  | k + 1 => by
    obtain ⟨i, h1, h2⟩ := mxk_is f k
    rw [mxk]
    by_cases e : f k ≤ mxk f k
    · exact ⟨i, by omega, by omega⟩
    · exact ⟨k, by omega, by omega⟩
theorem max_pu (n cap : Nat) (f : Nat → Nat) (hn : 0 < n) (hl : n ≤ 1000000) : Pu Tryz.prog 90 [.s 0 0 0 n cap 1] [rI n cap (fun k => (f k : Nat))] (.v (.int .i64 (mxk f n : Nat))) := by
  refine pu_of_ex true [] mixed Tryz.call90 Tryz.func90 rfl Tryz.ntmps90 Tryz.results90 (by decide +kernel) rfl rfl rfl ?_
  refine sxq ?_
  try with_reducible exact trivial
  refine ⟨fun h => absurd h (by omega), fun _ => ?_⟩
  repeat (with_reducible refine And.intro (by omega) ?_)
  refine tr_loop0 mixed (by kernel_rfl) (fun (k : Nat) => [(4, .v (.int .i64 k)), (3, .v (.int .i64 (mxk f k : Nat))), (0, .s 0 0 0 n cap 1)]) (fun k => 1 ≤ k ∧ k ≤ n) (fun k => n - k) 1 ⟨by omega, by omega⟩ ?_ ?_
  · refine sxq ?_
    try with_reducible exact trivial
    exact vi (by rw [mxk, mxk, Nat.max_self])
  rintro k ⟨hk1, hk⟩
  refine sxq ?_
  try with_reducible exact trivial
  have hs : mxk f (k + 1) = max (mxk f k) (f k) := rfl
  refine ⟨fun h1 => ?_, fun h1 => ?_⟩
  · repeat (with_reducible refine And.intro (by omega) ?_)
    refine lp0_normal (k + 1) ⟨by omega, by omega⟩ (by omega) ?_
    have hx : max ((mxk f k : Nat) : Int) ((f k : Nat) : Int) = ((mxk f (k + 1) : Nat) : Int) := by rw [hs]; omega
    simp only [push_cast, ↓branch_true, ↓branch_false, Nat.reduceBEq, Nat.reduceAdd, Nat.reduceMul, Nat.reduceSub, Int.reduceToNat, reduceCtorEq, Int.reduceAdd, Int.reduceEq, Int.reduceLE, Int.reduceLT, Nat.reduceLT, Nat.reduceLeDiff, hx]
  · obtain rfl : k = n := by omega
    rfl
/-- The factors of a program. -/
def fcs (p : Pm) : Nat → Nat
  | 0 => szs p.co 0 p.n
  | t + 1 => szs (p.a t) (p.b t) p.n
def fitB (p : Pm) : Bool := decide (∀ q, q < p.m + 1 → prd q (fcs p) ≤ 17592186044416 / fcs p q) && decide (prd (p.m + 1) (fcs p) ≤ 144115188075855872 / mxk (fcs p) (p.m + 1))
theorem fcs_pos (p : Pm) (t : Nat) : 0 < fcs p t := by
  cases t <;> exact szs_pos _ _ _
theorem fcs_le {p : Pm} (hp : PmOk p) {t : Nat} (ht : t < p.m + 1) : fcs p t ≤ 1100000000 := by
  have hn := hp.n
  cases t with
  | zero =>
    have := szs_le (f := p.co) (more := 0) (A := 0) (B := 1048576) (by decide) (k := p.n) hp.co
    show szs p.co 0 p.n ≤ _
    have h2 : p.n * 1048576 ≤ 12 * 1048576 := Nat.mul_le_mul_right _ (by omega)
    omega
  | succ t =>
    have := szs_le (f := p.a t) (more := p.b t) (A := 1073741824) (B := 1048576) (hp.b t (by omega)) (k := p.n) fun k hk => hp.a t k (by omega) hk
    show szs (p.a t) (p.b t) p.n ≤ _
    have h2 : p.n * 1048576 ≤ 12 * 1048576 := Nat.mul_le_mul_right _ (by omega)
    omega
end Go.Proofs.YtdeaaonppokgkaaGreat
namespace Go.Proofs.YtdeaaonppokgkaaGreat
open Go.RowKit Lp
set_option maxHeartbeats 8000000 in
theorem fits_pu (p : Pm) (hp : PmOk p) : Pu Tryz.prog 54 [svP p] (obP p) (.v (.bool (fitB p))) := by
  have hn := hp.n
  have hm := hp.m
  have hmc := hp.mc
  have hnc := hp.nc
  have hfz := p.fzm
  have hfl := fun t ht => fcs_le hp (t := t) ht
  have hf0 := hfl 0 (by omega)
  have hs0 : szs p.co 0 p.n = fcs p 0 := rfl
  have hsu := sum_pu 1 0 (fun _ => p.n) (fun _ => p.nc) (fun _ => p.co) 0 (by decide) (by show p.n ≤ _; omega) (by show szs p.co 0 p.n ≤ _; omega)
  simp only [hs0] at hsu
  refine pu_of_ex true [] mixed Tryz.call54 Tryz.func54 rfl Tryz.ntmps54 Tryz.results54 (by decide +kernel) rfl rfl rfl ?_
  refine sxq ?_
  try with_reducible exact trivial
  refine sp_c hsu rfl [0] ?_
  refine sxq ?_
  try with_reducible exact trivial
  refine tr_loop mixed (by kernel_rfl) (fun (x : Nat × Nat) => [(18, .v (.int .i64 x.1)), (17, .v (.int .i64 p.m)), (16, .s 1 0 0 p.m p.mc 3), (4, .s 4 0 0 (x.1 + 1) x.2 1), (3, .f (.func 88) [] []), (1, .p 3 0 0)])
    (fun x => obP p ++ [oBx p, oI (x.1 + 1) x.2 (fun t => (fcs p t : Nat))]) (fun x => x.1 ≤ p.m ∧ x.1 + 1 ≤ x.2) (fun x => p.m - x.1) (0, 1) ⟨Nat.zero_le _, Nat.le_refl _⟩ (Mt.wk (rl := [0, 1, 2, 3, 4]) ⟨by kernel_rfl, ?_, ?_⟩) ?_
  · refine sxq ?_
    try with_reducible exact trivial
    try trivial
  · refine sxq ?_
    try with_reducible exact trivial
    intro i _ k hk
    obtain rfl : k = 0 := by omega
    refine sxq ?_
    try with_reducible exact trivial
  rintro ⟨k, cap⟩ ⟨hk, hcap⟩
  simp only at hk hcap
  refine sxq ?_
  try with_reducible exact trivial
  refine ⟨fun h1 => ?_, fun h1 => ?_⟩
  · have hkm : k < p.m := by omega
    have hln := hp.ln k hkm
    have hbb := hp.b k hkm
    repeat (with_reducible refine And.intro (by omega) ?_)
    have hft : fcs p (k + 1) = szs (p.a k) (p.b k) (p.ln k) := by rw [hln]; rfl
    have hfk := hfl (k + 1) (by omega)
    have hs1 := sum_pu p.fz k p.ln p.cp p.a (p.b k) (by omega) (by omega) (by rw [← hft]; omega)
    rw [← hft] at hs1
    refine sp_c hs1 rfl [2] ?_
    refine sxq ?_
    try with_reducible exact trivial
    repeat (with_reducible refine And.intro (by omega) ?_)
    refine Or.inr ⟨by omega, by omega, fun c2 hc2 => ?_⟩
    repeat (with_reducible refine And.intro (by omega) ?_)
    refine lpK_normal (k + 1, c2) [0, 1, 2, 3, 7] ⟨by simp only; omega, by simp only; omega⟩ (by simp only; omega) (by kernel_rfl) ?_ ?_
    · refine sxq ?_
      try with_reducible exact trivial
    · refine sxq ?_
      try with_reducible exact trivial
      exact lf3 (fun t => ((fcs p t : Nat) : Int))
  · obtain rfl : k = p.m := by omega
    repeat (with_reducible refine And.intro (by omega) ?_)
    refine tr_loop0 mixed (by kernel_rfl) (fun (j : Nat) => [(34, .v (.int .i64 j)), (33, .v (.int .i64 ((p.m : Int) + 1))), (32, .s 4 0 0 (p.m + 1) cap 1), (7, .v (.int .i64 (prd j (fcs p) : Nat))), (4, .s 4 0 0 (p.m + 1) cap 1)]) (fun j => j ≤ p.m + 1 ∧ (∀ q, q < j → prd q (fcs p) ≤ 17592186044416 / fcs p q) ∧ prd j (fcs p) ≤ 17592186044416) (fun j => p.m + 1 - j) 0 ⟨Nat.zero_le _, fun q hq => absurd hq (Nat.not_lt_zero _), by rw [prd]; omega⟩ ?_ ?_
    · refine sxq ?_
      try with_reducible exact trivial
      rfl
    rintro j ⟨hj, hq, hb⟩
    have hqu : (17592186044416 : Int).tdiv ((fcs p j : Nat) : Int) = ((17592186044416 / fcs p j : Nat) : Int) := (Int.ofNat_tdiv 17592186044416 (fcs p j)).symm
    have hq2 : 17592186044416 / fcs p j ≤ 17592186044416 := Nat.div_le_self _ _
    have hfp := fcs_pos p j
    obtain ⟨Z, hZ⟩ : ∃ Z : Nat, Z = 17592186044416 / fcs p j := ⟨_, rfl⟩
    rw [← hZ] at hqu hq2
    simp only [push_cast, ↓branch_true, ↓branch_false, Nat.reduceBEq, Nat.reduceAdd, Nat.reduceMul, Nat.reduceSub, Int.reduceToNat, reduceCtorEq, Int.reduceAdd, Int.reduceEq, Int.reduceLE, Int.reduceLT, Nat.reduceLT, Nat.reduceLeDiff, hqu]
    refine ⟨fun h2 => ?_, fun h2 => ?_⟩
    · have hjm : j < p.m + 1 := by omega
      have hfj := hfl j hjm
      repeat (with_reducible refine And.intro (by omega) ?_)
      refine ⟨fun h3 => ?_, fun h3 => ?_⟩
      · refine vb ?_
        unfold fitB
        rw [decide_eq_false (fun h => by have := h j hjm; rw [← hZ] at this; omega), Bool.false_and]
      · have h4 : prd j (fcs p) ≤ 17592186044416 / fcs p j := by rw [← hZ]; omega
        have h5 : prd (j + 1) (fcs p) = prd j (fcs p) * fcs p j := rfl
        have h6 := (Nat.le_div_iff_mul_le hfp).1 h4
        rw [← h5] at h6
        have h7 : ((prd j (fcs p) : Nat) : Int) * ((fcs p j : Nat) : Int) = ((prd (j + 1) (fcs p) : Nat) : Int) := by rw [h5, Int.natCast_mul]
        simp only [push_cast, ↓branch_true, ↓branch_false, Nat.reduceBEq, Nat.reduceAdd, Nat.reduceMul, Nat.reduceSub, Int.reduceToNat, reduceCtorEq, Int.reduceAdd, Int.reduceEq, Int.reduceLE, Int.reduceLT, Nat.reduceLT, Nat.reduceLeDiff, h7]
        repeat (with_reducible refine And.intro (by omega) ?_)
        refine lp0_normal (j + 1) ⟨by omega, fun q hqj => ?_, h6⟩ (by omega) ?_
        · by_cases e : q = j
          · rw [e]; exact h4
          · exact hq q (by omega)
        · refine sxq ?_
          try with_reducible exact trivial
    · obtain rfl : j = p.m + 1 := by omega
      have hmx := max_pu (p.m + 1) cap (fcs p) (by omega) (by omega)
      refine sp_c hmx rfl [4] ?_
      refine sxq ?_
      try with_reducible exact trivial
      have hx1 := mxk_ge (fcs p) (show 0 < p.m + 1 by omega)
      have hx2 := fcs_pos p 0
      have hqm : (144115188075855872 : Int).tdiv ((mxk (fcs p) (p.m + 1) : Nat) : Int) = ((144115188075855872 / mxk (fcs p) (p.m + 1) : Nat) : Int) := (Int.ofNat_tdiv 144115188075855872 _).symm
      have hqm2 : 144115188075855872 / mxk (fcs p) (p.m + 1) ≤ 144115188075855872 := Nat.div_le_self _ _
      have hfi : fitB p = (decide (∀ q, q < p.m + 1 → prd q (fcs p) ≤ 17592186044416 / fcs p q) && decide (prd (p.m + 1) (fcs p) ≤ 144115188075855872 / mxk (fcs p) (p.m + 1))) := rfl
      rw [decide_eq_true hq, Bool.true_and] at hfi
      generalize 144115188075855872 / mxk (fcs p) (p.m + 1) = Z at *
      rw [hqm]
      refine ⟨by omega, by omega, vb ?_⟩
      rw [hfi, decide_eq_decide]
      omega
end Go.Proofs.YtdeaaonppokgkaaGreat
namespace Go.Proofs.YtdeaaonppokgkaaGreat
open Go.RowKit Lp
def kdOf (z : Int) : Kd := if z = 1 then .le else if z = 2 then .ge else .eq
/-- A program, as a plain one. -/
def lpP (p : Pm) : Lp.Lp := ⟨p.n, p.m, p.a, fun t => kdOf (p.kd t), p.b, p.co⟩
theorem nsl_lt (p : Pm) {t : Nat} (ht : t < p.m) (hk : p.kd t ≠ 3) : nsl p t < nsl p p.m := by
  have := nsl_mono p (t := t + 1) (u := p.m) ht
  rw [nsl, if_neg hk] at this
  omega
theorem nsl_inj (p : Pm) {t u : Nat} (hk : p.kd t ≠ 3) (hk2 : p.kd u ≠ 3) (h : nsl p t = nsl p u) : t = u := by
  rcases Nat.lt_trichotomy t u with e | e | e
  · have := nsl_mono p (t := t + 1) (u := u) e
    rw [nsl, if_neg hk] at this
    omega
  · exact e
  · have := nsl_mono p (t := u + 1) (u := t) e
    rw [nsl, if_neg hk2] at this
    omega
theorem nsl_has (p : Pm) : ∀ {m v : Nat}, v < nsl p m → ∃ t, t < m ∧ p.kd t ≠ 3 ∧ nsl p t = v
  | 0, v, h => absurd h (Nat.not_lt_zero _)
  | m + 1, v, h => by
    rw [nsl] at h
    by_cases e : p.kd m = 3
    · rw [if_pos e] at h
      obtain ⟨t, h1, h2⟩ := nsl_has p h
      exact ⟨t, by omega, h2⟩
    · rw [if_neg e] at h
      by_cases e2 : v = nsl p m
      · exact ⟨m, by omega, e, e2.symm⟩
      · obtain ⟨t, h1, h2⟩ := nsl_has p (show v < nsl p m by omega)
        exact ⟨t, by omega, h2⟩
def srowP (p : Pm) (j : Nat) : Nat := (ent (fun t => decide (p.kd t ≠ 3 ∧ p.n + nsl p t = j)) p.m).toNat
def scolP (p : Pm) (t : Nat) : Nat := p.n + nsl p t
theorem srow_is (p : Pm) {t : Nat} (ht : t < p.m) (hk : p.kd t ≠ 3) : srowP p (p.n + nsl p t) = t := by
  unfold srowP
  rw [ent_is ht (decide_eq_true ⟨hk, rfl⟩) fun i hi => decide_eq_false fun h => ?_]
  · rfl
  · have := nsl_inj p h.1 hk (by omega)
    omega
theorem srow_spec (p : Pm) {j : Nat} (h1 : p.n ≤ j) (h2 : j < p.F) : srowP p j < p.m ∧ p.kd (srowP p j) ≠ 3 ∧ p.n + nsl p (srowP p j) = j := by
  have hF : p.F = p.n + nsl p p.m := rfl
  obtain ⟨t, h3, h4, h5⟩ := nsl_has p (show j - p.n < nsl p p.m by omega)
  have e : j = p.n + nsl p t := by omega
  subst e
  rw [srow_is p h3 h4]
  exact ⟨h3, h4, rfl⟩
theorem form {p : Pm} (hp : PmOk p) : Lp.Form (lpP p) (tA p) p.F (sgn p) (srowP p) (scolP p) := by
  have hF : p.F = p.n + nsl p p.m := rfl
  have hR : p.R = p.F + p.m := rfl
  refine ⟨?_, fun t ht => ?_, fun t j ht hj => ?_, fun t j ht h1 h2 => ?_, fun j h1 h2 => (srow_spec p h1 h2).1, fun t ht hs => ?_, fun t q ht hq => ?_, fun t ht => ?_, fun t ht => ?_⟩
  · show p.n ≤ p.F; omega
  · unfold sgn
    split
    · exact .inr rfl
    · exact .inl rfl
  · have hj : j < p.n := hj
    show tA p t j = sgn p t * p.a t j
    unfold tA rw0
    rw [if_neg (by omega), if_pos hj]
  · have h1 : p.n ≤ j := h1
    have ht : t < p.m := ht
    show tA p t j = if t = srowP p j then sgn p t * (kdOf (p.kd t)).slack else 0
    obtain ⟨s1, s2, s3⟩ := srow_spec p h1 h2
    have hkd := hp.kd t ht
    unfold tA rw0
    rw [if_neg (by omega), if_neg (by omega), if_neg (by omega)]
    by_cases e : t = srowP p j
    · rw [if_pos e]
      rw [← e] at s2 s3
      rcases hkd with k | k | k
      · rw [if_pos ⟨k, s3.symm⟩, k]; rfl
      · rw [if_neg (by omega), if_pos ⟨k, s3.symm⟩, k]; rfl
      · exact absurd k s2
    · rw [if_neg e]
      have e1 : ¬ (p.kd t = 1 ∧ j = p.n + nsl p t) := fun h => e (by rw [h.2, srow_is p ht (by omega)])
      have e2 : ¬ (p.kd t = 2 ∧ j = p.n + nsl p t) := fun h => e (by rw [h.2, srow_is p ht (by omega)])
      rw [if_neg e1, if_neg e2, Int.mul_zero]
  · have hk : p.kd t ≠ 3 := fun h => hs (by show (kdOf (p.kd t)).slack = 0; rw [h]; rfl)
    have h2 := nsl_lt p ht hk
    refine ⟨?_, ?_, srow_is p ht hk⟩
    · show p.n ≤ p.n + _; omega
    · show p.n + nsl p t < p.F; omega
  · have ht : t < p.m := ht
    have hq : q < p.m := hq
    show tA p t (p.F + q) = if t = q then 1 else 0
    unfold tA
    by_cases e : t = q
    · rw [if_pos (by omega), if_pos e]
    · rw [if_neg (by omega), if_neg e]
      unfold rw0
      have h3 : p.kd t ≠ 3 → nsl p t < nsl p p.m := nsl_lt p ht
      rw [if_neg (by omega), if_neg (by omega), if_neg (by omega), if_neg (by omega), Int.mul_zero]
  · have ht : t < p.m := ht
    show tA p t (p.F + p.m) = sgn p t * p.b t
    unfold tA rw0
    rw [if_neg (by omega), if_neg (by omega), if_pos (by omega)]
  · show 0 ≤ sgn p t * p.b t
    unfold sgn
    split <;> omega
/- ===== what fits ===== -/
theorem prd_shift (f : Nat → Nat) : ∀ m, prd (m + 1) f = f 0 * prd m fun t => f (t + 1)
  | 0 => by simp [prd]
  | m + 1 => by rw [prd, prd_shift f m, prd, Nat.mul_assoc]
theorem prd_pos {f : Nat → Nat} : ∀ {m : Nat}, (∀ i, i < m → 0 < f i) → 0 < prd m f
  | 0, _ => Nat.one_pos
  | m + 1, h => Nat.mul_pos (prd_pos fun i hi => h i (by omega)) (h m (by omega))
theorem szs_sm (f : Nat → Int) (more : Int) : ∀ k, ((szs f more k : Nat) : Int) = 1 + more.natAbs + sm k fun j => ((f j).natAbs : Int)
  | 0 => by simp [szs, sm]
  | k + 1 => by rw [szs, sm, Int.natCast_add, szs_sm f more k]; omega
theorem szs_at (f : Nat → Int) (more : Int) {j : Nat} : ∀ {k : Nat}, j < k → (f j).natAbs ≤ szs f more k
  | k + 1, h => by
    rw [szs]
    by_cases e : j = k
    · rw [e]; omega
    · have := szs_at f more (j := j) (k := k) (by omega)
      omega
theorem fac_is (p : Pm) (t : Nat) : fac (lpP p) t = fcs p (t + 1) := by
  have h := szs_sm (p.a t) (p.b t) p.n
  show 1 + (sm p.n fun j => ((p.a t j).natAbs : Int)).toNat + (p.b t).natAbs = szs (p.a t) (p.b t) p.n
  have h0 : 0 ≤ sm p.n fun j => ((p.a t j).natAbs : Int) := sm_nonneg fun j _ => by omega
  omega
/-- The product of the rows' factors. -/
def PrR (p : Pm) : Nat := prd p.m (fac (lpP p))
theorem prd_all (p : Pm) : prd (p.m + 1) (fcs p) = fcs p 0 * PrR p := by
  rw [prd_shift]
  congr 1
  exact prd_congr fun i _ => (fac_is p i).symm
structure Fit (p : Pm) : Prop where
  all : fcs p 0 * PrR p ≤ 17592186044416
  each : ∀ t, t < p.m + 1 → fcs p 0 * PrR p * fcs p t ≤ 144115188075855872
theorem fit_of {p : Pm} (h : fitB p = true) : Fit p := by
  unfold fitB at h
  rw [Bool.and_eq_true, decide_eq_true_eq, decide_eq_true_eq] at h
  obtain ⟨h1, h2⟩ := h
  refine ⟨?_, fun t ht => ?_⟩
  · have := h1 p.m (by omega)
    rw [Nat.le_div_iff_mul_le (fcs_pos p _)] at this
    rw [← prd_all]
    exact this
  · have hm := mxk_ge (fcs p) ht
    have h0 := fcs_pos p t
    rw [Nat.le_div_iff_mul_le (by omega), prd_all] at h2
    exact Nat.le_trans (Nat.mul_le_mul_left _ hm) h2
theorem Fit.pr {p : Pm} (h : Fit p) : PrR p ≤ 17592186044416 := by
  have h1 := h.all
  have h2 := Nat.mul_le_mul_right (PrR p) (fcs_pos p 0)
  rw [Nat.succ_mul, Nat.zero_mul] at h2
  omega
theorem Fit.prt {p : Pm} (h : Fit p) {t : Nat} (ht : t < p.m) : fac (lpP p) t * PrR p ≤ 144115188075855872 := by
  have h1 := h.each (t + 1) (by omega)
  rw [← fac_is] at h1
  have h2 := Nat.mul_le_mul_right (PrR p * fac (lpP p) t) (fcs_pos p 0)
  rw [Nat.succ_mul, Nat.zero_mul, Nat.zero_add, ← Nat.mul_assoc, Nat.mul_comm (PrR p)] at h2
  omega
/-- A program's frame of tables. -/
def qF (p : Pm) (cc bc sc nc : Nat) : Fm := ⟨p.m, p.n, p.F, cc, bc, sc, nc, sgn p, p.co⟩
def cqP (p : Pm) (j : Nat) : Int := if j < p.n then p.co j else 0
theorem cqP_le (p : Pm) (j : Nat) : (cqP p j).natAbs ≤ fcs p 0 := by
  unfold cqP
  split
  · rename_i h; exact szs_at p.co 0 h
  · exact Nat.zero_le _
section
variable {p : Pm} {cc bc sc nc : Nat}
theorem cell_P (hp : PmOk p) {s : Tabl} {g : Int} (ht : Tab (tA p) p.m (p.R + 1) s g) {i j : Nat} (hi : i < p.m) (hj : j < p.R + 1) : (s.T i j).natAbs ≤ PrR p := (form hp).cell_le ht hi hj
theorem den_P (hp : PmOk p) {s : Tabl} {g : Int} (ht : Tab (tA p) p.m (p.R + 1) s g) : s.d.natAbs ≤ PrR p := (form hp).den_le ht
theorem sml_of (hp : PmOk p) (hf : Fit p) {s : Tabl} (hs : Feas (tA p) p.m p.R s) : Sml (qF p cc bc sc nc) s := by
  obtain ⟨g, ht⟩ := hs.tab
  have hpr := hf.pr
  have hal := hf.all
  have hd := den_P hp ht
  have hpos := ht.pos
  have hn := hp.n
  have hm := hp.m
  have hF : p.F = p.n + nsl p p.m := rfl
  have hR : p.R = p.F + p.m := rfl
  have hns := nsl_le p p.m
  refine ⟨fun i j hi hj => ?_, hm, ?_, hn.2, ⟨hpos, by omega⟩, hs.bas, fun k j hk hj => ?_, fun j => ?_⟩
  · have := cell_P hp ht hi hj
    omega
  · show p.R ≤ 24; omega
  · show (cqP p _ * _).natAbs ≤ _
    rw [Int.natAbs_mul]
    have := Nat.mul_le_mul (cqP_le p (s.b k)) (cell_P hp ht hk hj)
    omega
  · show (cqP p _ * _).natAbs ≤ _
    rw [Int.natAbs_mul]
    have := Nat.mul_le_mul (cqP_le p j) hd
    omega
theorem piv_of (hp : PmOk p) (hf : Fit p) {s : Tabl} {g : Int} (ht : Tab (tA p) p.m (p.R + 1) s g) {r e : Nat} (hr : r < p.m) (he : e < p.R + 1) (h0 : s.T r e ≠ 0) : Piv (qF p cc bc sc nc) s r e := by
  have hpr := hf.pr
  have hd := den_P hp ht
  have ht2 := pivT_tab ht hr he h0
  refine ⟨hr, he, ht.pos, by omega, h0, fun i j hi hj => ?_, fun i j hi hj => ?_, fun i j hi hj hir => ?_⟩
  · have := cell_P hp ht hi hj
    omega
  · have := cell_P hp ht2 hi hj
    by_cases h1 : s.T r e < 0
    · rw [piv_tn h1] at this; omega
    · rw [piv_tp h1] at this; omega
  · exact ⟨_, (ht.exact hr he hi hj hir).symm⟩
/-- What a phase needs. -/
theorem goes_piv (hp : PmOk p) (hf : Fit p) {c : Nat → Int} {s : Tabl} (hs : Feas (tA p) p.m p.R s) (hg : Goes p.m p.R p.F c s) : Piv (qF p cc bc sc nc) s (phR p.m p.R p.F c s).toNat (phE p.m p.F c s).toNat := by
  have hR : p.R = p.F + p.m := rfl
  obtain ⟨g, ht⟩ := hs.tab
  have hb := goes_step (by omega) hs hg
  exact piv_of hp hf ht hb.row (by have := hb.lt; omega) (by have := hb.pos; omega)
/-- The first phase. -/
theorem start_ok (hp : PmOk p) (hf : Fit p) : ∃ K, StartOk (qF p cc bc sc nc) (firstT (tA p) p.F) K ∧ Feas (tA p) p.m p.R (S1 (qF p cc bc sc nc) (firstT (tA p) p.F) K) := by
  have hR : p.R = p.F + p.m := rfl
  have h0 : Feas (tA p) p.m p.R (firstT (tA p) p.F) := (form hp).first
  have hc : artC p.F p.m p.R = 0 := by unfold artC; rw [if_neg (by omega)]
  obtain ⟨K, h1, h2, h3⟩ := phase_ends (F := p.F) (by omega) hc h0
  refine ⟨K, ⟨rfl, fun n hn => sml_of hp hf (h3 n hn), h1, fun n hn => goes_piv hp hf (h3 n (by omega)) (h1 n hn), ?_, fun hsm i hi hb he => ?_⟩, h3 K (Nat.le_refl _)⟩
  · refine Int.lt_of_not_ge fun hge => h2 ⟨hge, ?_⟩
    exact phase1_row (h3 K (Nat.le_refl _)) hge
  · have hK := h3 K (Nat.le_refl _)
    have hD : Driven (tA p) p.m p.F (phS p.m p.R p.F (artC p.F p.m) (firstT (tA p) p.F) K) 0 := by
      refine ⟨hK, noart_of hK ?_, fun k hk => absurd hk (Nat.not_lt_zero _)⟩
      rw [art_sum hK.bas]
      exact Int.not_lt.2 hsm
    have hDi := drive hD i (Nat.le_of_lt hi)
    obtain ⟨g, ht⟩ := hDi.feas.tab
    change 0 ≤ drE p.F (drS p.F (phS p.m p.R p.F (artC p.F p.m) (firstT (tA p) p.F) K) i) i at he
    show Piv (qF p cc bc sc nc) (drS p.F (phS p.m p.R p.F (artC p.F p.m) (firstT (tA p) p.F) K) i) i (drE p.F (drS p.F (phS p.m p.R p.F (artC p.F p.m) (firstT (tA p) p.F) K) i) i).toNat
    generalize drS p.F (phS p.m p.R p.F (artC p.F p.m) (firstT (tA p) p.F) K) i = u at *
    rcases ent_spec (p := fun j => decide (u.T i j ≠ 0)) (F := p.F) with ⟨q1, _⟩ | ⟨e, q1, q2, q3, _⟩
    · unfold drE at he; omega
    have hee : (drE p.F u i).toNat = e := by unfold drE; rw [q2]; rfl
    have : e < p.R + 1 := by omega
    rw [hee]
    exact piv_of hp hf ht hi this (by simpa using q3)
theorem start_driven (hp : PmOk p) {s : Tabl} (hK : Feas (tA p) p.m p.R s) (hsm : sm p.m (artF (qF p cc bc sc nc) s p.R) ≤ 0) : Driven (tA p) p.m p.F (drS p.F s p.m) p.m := by
  have hR : p.R = p.F + p.m := rfl
  refine drive ⟨hK, noart_of hK ?_, fun k hk => absurd hk (Nat.not_lt_zero _)⟩ p.m (Nat.le_refl _)
  rw [art_sum hK.bas]
  exact Int.not_lt.2 hsm
/-- The second phase. -/
theorem imp_ok (hp : PmOk p) (hf : Fit p) {s0 : Tabl} (h0 : Driven (tA p) p.m p.F s0 p.m) : ∃ K, ImpOk (qF p cc bc sc nc) s0 K ∧ Driven (tA p) p.m p.F (S2 (qF p cc bc sc nc) s0 K) p.m := by
  have hR : p.R = p.F + p.m := rfl
  have hF : p.F = p.n + nsl p p.m := rfl
  have hc : cqP p p.R = 0 := by unfold cqP; rw [if_neg (by omega)]
  obtain ⟨K, h1, h2, h3⟩ := phase_ends (F := p.F) (by omega) hc h0.feas
  exact ⟨K, ⟨rfl, fun n hn => sml_of hp hf (h3 n hn), h1, fun n hn => goes_piv hp hf (h3 n (by omega)) (h1 n hn), h2⟩, driven_phase h0 h1 K (Nat.le_refl _)⟩
end
end Go.Proofs.YtdeaaonppokgkaaGreat
