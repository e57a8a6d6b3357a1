/- Contracts: the exported bounds, the example, awake. -/
import Derived.Test.YtdeaaonppokgkaaBE
set_option maxRecDepth 100000
set_option linter.unusedSimpArgs false
set_option linter.unusedVariables false
namespace Go.Proofs.Ytdeaaonppokgkaa.Pat
open Go.RowKit Lp
theorem agg_two {P : Program} {t : TypeId} (k : IntKind) (f0 f1 : Field) (h1 : P.eqGuardType P.depth t = false) (h2 : P.underlying t = some (.struct (P.fieldsOf t))) (h3 : P.stoodInHeld t = false)
    (h4 : (P.fieldsOf t).toList = [f0, f1]) (n0 : (f0.name == "_") = false) (n1 : (f1.name == "_") = false) (o0 : f0.offset = 0) (o1 : f1.offset = 1) (t0 : P.underlying f0.type = some (.int k)) (t1 : P.underlying f1.type = some (.int k)) (c0 : P.cellsOf f0.type = 1) (c1 : P.cellsOf f1.type = 1)
    (a b c d : Int) : AggEq P t [.int k a, .int k b] [.int k c, .int k d] := by
  intro op x y w
  refine ⟨run_eqGuard_agg w op t x y _ _ h1, ?_⟩
  simp only [Op.equal, Op.maxDepth]
  rw [run_equalIn_agg w 9999 t _ _ h2 h3, h4]
  have n0 : f0.name ≠ "_" := by simpa using n0
  have n1 : f1.name ≠ "_" := by simpa using n1
  simp only [Op.eqFields, n0, n1, ne_eq, not_false_eq_true, if_true, Sem.run_bind, o0, o1]
  have p : ∀ (f : TypeId) (xs : Array Value) (off : Nat) (v : Value), P.underlying f = some (.int k) → xs[off]? = some v → (part f xs off).run P w = .ok v w := fun f xs off v hu hx => by
    simp [part, isAgg, Sem.run_bind, run_underlying hu, hx, Result.andThen, Sem.run_pure]
  rw [p _ _ _ (.int k a) t0 rfl]
  simp only [Result.andThen_ok]
  rw [p _ _ _ (.int k c) t0 rfl]
  simp only [Result.andThen_ok, run_equalIn_int w 9998 _ _ _ a c t0]
  by_cases e : a = c
  · subst e
    simp only [beq_self_eq_true, Bool.not_true, Bool.false_eq_true, if_false, Sem.run_bind]
    rw [p _ _ _ (.int k b) t1 rfl]
    simp only [Result.andThen_ok]
    rw [p _ _ _ (.int k d) t1 rfl]
    simp only [Result.andThen_ok, run_equalIn_int w 9998 _ _ _ b d t1]
    by_cases e : b = d
    · subst e
      simp [Sem.run_pure, eqLB]
    · have : (b == d) = false := by simpa using e
      simp [Sem.run_pure, eqLB, this]
  · have : (a == c) = false := by simpa using e
    simp [Sem.run_pure, eqLB, this]
theorem agg34 (a b c d : Int) : AggEq Try.prog 34 [.int .i64 a, .int .i64 b] [.int .i64 c, .int .i64 d] :=
  agg_two .i64 (Try.prog.fieldsOf 34)[0]! (Try.prog.fieldsOf 34)[1]! (by kernel_rfl) (by kernel_rfl) (by kernel_rfl) (by kernel_rfl) (by kernel_rfl) (by kernel_rfl) (by kernel_rfl) (by kernel_rfl) (by kernel_rfl) (by kernel_rfl) (by kernel_rfl) (by kernel_rfl) a b c d
theorem xmat_pu (lim : Int) (l : List Pc) (c : Nat) (hl : l.length ≤ 9223372036854775807) : Pu Try.prog 19 [.v (.int .i64 lim), .s 0 0 0 l.length c 2] [rPc l] (.t [.v (.int .i64 (if givE lim l = 0 then matR lim l else 0)), .v (.int .i64 (givE lim l))]) := by
  refine pu_of_ex true [] mixed Try.call19 Try.func19 rfl Try.ntmps19 Try.results19 (by decide +kernel) rfl rfl rfl ?_
  simp only [push_cast, ↓branch_true, ↓branch_false, Nat.reduceBEq, Nat.reduceAdd, Nat.reduceMul, Nat.reduceSub, Int.reduceToNat, reduceCtorEq, Int.reduceAdd, Int.reduceEq, Int.reduceLE, Int.reduceLT, Nat.reduceLT, Nat.reduceLeDiff]
  refine sp_c (bgiven_pu lim l c hl) rfl [0] ?_
  simp only [push_cast, ↓branch_true, ↓branch_false, Nat.reduceBEq, Nat.reduceAdd, Nat.reduceMul, Nat.reduceSub, Int.reduceToNat, reduceCtorEq, Int.reduceAdd, Int.reduceEq, Int.reduceLE, Int.reduceLT, Nat.reduceLT, Nat.reduceLeDiff]
  by_cases hg : givE lim l = 0
  rotate_left
  · rw [if_neg hg]
    exact ⟨fun h => absurd h hg, fun _ => rfl⟩
  obtain ⟨ho, h1, h2, h3⟩ := givE_0 hg
  refine ⟨fun _ => ?_, fun h => absurd hg h⟩
  refine sp_c (bmat_pu lim l c ho h1 h2) rfl [0] ?_
  simp only [push_cast, ↓branch_true, ↓branch_false, Nat.reduceBEq, Nat.reduceAdd, Nat.reduceMul, Nat.reduceSub, Int.reduceToNat, reduceCtorEq, Int.reduceAdd, Int.reduceEq, Int.reduceLE, Int.reduceLT, Nat.reduceLT, Nat.reduceLeDiff]
  rw [if_pos hg, hg]
theorem xlarge_pu (lim : Int) (l : List Pc) (c : Nat) (hl : l.length ≤ 9223372036854775807) : Pu Try.prog 20 [.v (.int .i64 lim), .s 0 0 0 l.length c 2] [rPc l] (.t [.v (.int .i64 (if givE lim l = 0 then largT lim l l.length else 0)), .v (.int .i64 (givE lim l))]) := by
  refine pu_of_ex true [] mixed Try.call20 Try.func20 rfl Try.ntmps20 Try.results20 (by decide +kernel) rfl rfl rfl ?_
  simp only [push_cast, ↓branch_true, ↓branch_false, Nat.reduceBEq, Nat.reduceAdd, Nat.reduceMul, Nat.reduceSub, Int.reduceToNat, reduceCtorEq, Int.reduceAdd, Int.reduceEq, Int.reduceLE, Int.reduceLT, Nat.reduceLT, Nat.reduceLeDiff]
  refine sp_c (bgiven_pu lim l c hl) rfl [0] ?_
  simp only [push_cast, ↓branch_true, ↓branch_false, Nat.reduceBEq, Nat.reduceAdd, Nat.reduceMul, Nat.reduceSub, Int.reduceToNat, reduceCtorEq, Int.reduceAdd, Int.reduceEq, Int.reduceLE, Int.reduceLT, Nat.reduceLT, Nat.reduceLeDiff]
  by_cases hg : givE lim l = 0
  rotate_left
  · rw [if_neg hg]
    exact ⟨fun h => absurd h hg, fun _ => rfl⟩
  obtain ⟨ho, h1, h2, h3⟩ := givE_0 hg
  refine ⟨fun _ => ?_, fun h => absurd hg h⟩
  refine sp_c (blarge_pu lim l c ho) rfl [0] ?_
  simp only [push_cast, ↓branch_true, ↓branch_false, Nat.reduceBEq, Nat.reduceAdd, Nat.reduceMul, Nat.reduceSub, Int.reduceToNat, reduceCtorEq, Int.reduceAdd, Int.reduceEq, Int.reduceLE, Int.reduceLT, Nat.reduceLT, Nat.reduceLeDiff]
  rw [if_pos hg, hg]
def duaE (lim : Int) (l : List Pc) (k : Int) : Int := if givE lim l ≠ 0 then givE lim l else if k < 1 ∨ 100 < k then 2 else 0
theorem xdual_pu (lim : Int) (l : List Pc) (c : Nat) (k : Int) (hl : l.length ≤ 9223372036854775807) : Pu Try.prog 16 [.v (.int .i64 lim), .s 0 0 0 l.length c 2, .v (.int .i64 k)] [rPc l] (.t [.v (.int .i64 (if duaE lim l k = 0 then dualR lim k l else 0)), .v (.int .i64 (duaE lim l k))]) := by
  refine pu_of_ex true [] mixed Try.call16 Try.func16 rfl Try.ntmps16 Try.results16 (by decide +kernel) rfl rfl rfl ?_
  simp only [push_cast, ↓branch_true, ↓branch_false, Nat.reduceBEq, Nat.reduceAdd, Nat.reduceMul, Nat.reduceSub, Int.reduceToNat, reduceCtorEq, Int.reduceAdd, Int.reduceEq, Int.reduceLE, Int.reduceLT, Nat.reduceLT, Nat.reduceLeDiff]
  refine sp_c (bgiven_pu lim l c hl) rfl [0] ?_
  simp only [push_cast, ↓branch_true, ↓branch_false, Nat.reduceBEq, Nat.reduceAdd, Nat.reduceMul, Nat.reduceSub, Int.reduceToNat, reduceCtorEq, Int.reduceAdd, Int.reduceEq, Int.reduceLE, Int.reduceLT, Nat.reduceLT, Nat.reduceLeDiff]
  by_cases hg : givE lim l = 0
  rotate_left
  · have e : duaE lim l k = givE lim l := if_pos hg
    rw [e, if_neg hg]
    exact ⟨fun h => absurd h hg, fun _ => rfl⟩
  obtain ⟨ho, h1, h2, h3⟩ := givE_0 hg
  have e : duaE lim l k = if k < 1 ∨ 100 < k then 2 else 0 := if_neg (by omega)
  refine ⟨fun _ => ⟨fun c1 => ?_, fun c1 => ⟨fun c2 => ?_, fun c2 => ?_⟩⟩, fun h => absurd hg h⟩
  · have e2 : duaE lim l k = 2 := by rw [e, if_pos (Or.inl c1)]
    rw [e2, if_neg (by decide)]
  · have e2 : duaE lim l k = 2 := by rw [e, if_pos (Or.inr c2)]
    rw [e2, if_neg (by decide)]
  · refine sp_c (bdual_pu lim k l c ho h1 (by omega)) rfl [0] ?_
    simp only [push_cast, ↓branch_true, ↓branch_false, Nat.reduceBEq, Nat.reduceAdd, Nat.reduceMul, Nat.reduceSub, Int.reduceToNat, reduceCtorEq, Int.reduceAdd, Int.reduceEq, Int.reduceLE, Int.reduceLT, Nat.reduceLT, Nat.reduceLeDiff]
    have e2 : duaE lim l k = 0 := by rw [e, if_neg (show ¬ (k < 1 ∨ 100 < k) by omega)]
    rw [e2, if_pos rfl]
def largeB (n : Nat) : Bool := (decide (12 < n) && decide (n ≤ 200)) || decide (203 < n)
theorem large_pu (l : List Pc) (c : Nat) (hl : l.length ≤ 9223372036854775807) : Pu Try.prog 15 [.s 0 0 0 l.length c 2] [rPc l] (.v (.bool (largeB l.length))) := by
  refine pu_of_ex true [] mixed Try.call15 Try.func15 rfl Try.ntmps15 Try.results15 (by decide +kernel) rfl rfl rfl ?_
  simp only [push_cast, ↓branch_true, ↓branch_false, Nat.reduceBEq, Nat.reduceAdd, Nat.reduceMul, Nat.reduceSub, Int.reduceToNat, reduceCtorEq, Int.reduceAdd, Int.reduceEq, Int.reduceLE, Int.reduceLT, Nat.reduceLT, Nat.reduceLeDiff]
  unfold largeB
  have e : decide ((203 : Int) < (l.length : Nat)) = decide (203 < l.length) := by rw [decide_eq_decide]; omega
  rw [e]
  refine ⟨fun c1 => ⟨fun c2 => ?_, fun c2 => ?_⟩, fun c1 => ?_⟩
  · rw [decide_eq_true (show 12 < l.length by omega), decide_eq_true (show l.length ≤ 200 by omega)]; rfl
  · rw [decide_eq_false (show ¬ l.length ≤ 200 by omega), Bool.and_false, Bool.false_or]
  · rw [decide_eq_false (show ¬ 12 < l.length by omega), Bool.false_and, Bool.false_or]
def l0 : List Pc := [⟨6, 3⟩]
theorem example_sp : Sp Try.prog 31 [] [] (fun r H => r = .s 0 0 0 1 1 2 ∧ H = [rPc l0]) := by
  refine sp_weak ?_
  refine sp_of_ex true [] mixed Try.call31 Try.func31 rfl Try.ntmps31 Try.results31 (by decide +kernel) rfl ?_
  simp only [push_cast, ↓branch_true, ↓branch_false, Nat.reduceBEq, Nat.reduceAdd, Nat.reduceMul, Nat.reduceSub, Int.reduceToNat, reduceCtorEq, Int.reduceAdd, Int.reduceEq, Int.reduceLE, Int.reduceLT, Nat.reduceLT, Nat.reduceLeDiff]
  refine ⟨_, _, [0], ?_, by kernel_rfl, ?_, rfl, rfl⟩
  · simp only [push_cast, ↓branch_true, ↓branch_false, Nat.reduceBEq, Nat.reduceAdd, Nat.reduceMul, Nat.reduceSub, Int.reduceToNat, reduceCtorEq, Int.reduceAdd, Int.reduceEq, Int.reduceLE, Int.reduceLT, Nat.reduceLT, Nat.reduceLeDiff]
  · simp only [push_cast, ↓branch_true, ↓branch_false, Nat.reduceBEq, Nat.reduceAdd, Nat.reduceMul, Nat.reduceSub, Int.reduceToNat, reduceCtorEq, Int.reduceAdd, Int.reduceEq, Int.reduceLE, Int.reduceLT, Nat.reduceLT, Nat.reduceLeDiff]
    refine fun _ _ => ⟨Nat.le_refl _, fun k hk => ?_⟩
    have hk : k < 1 := hk
    obtain rfl : k = 0 := by omega
    exact (by (simp only [push_cast, ↓branch_true, ↓branch_false, Nat.reduceBEq, Nat.reduceAdd, Nat.reduceMul, Nat.reduceSub, Int.reduceToNat, reduceCtorEq, Int.reduceAdd, Int.reduceEq, Int.reduceLE, Int.reduceLT, Nat.reduceLT, Nat.reduceLeDiff]); exact ⟨rfl, rfl⟩)
theorem l0_all : allL 10 l0 = [[1]] := by decide +kernel
theorem l0_giv : givE 10 l0 = 0 := by decide +kernel
theorem l0_E : allE 10 l0 = 0 := by decide +kernel
theorem l0_mat : matR 10 l0 = 2 := by decide +kernel
theorem l0_large : largT 10 l0 1 = 3 := by decide +kernel
theorem l0_best : (bestS 10 l0 [1]).2 = 1 := by decide +kernel
theorem l0_pE : provE 10 l0 [1] 1 = 0 := by decide +kernel
theorem l0_pV : provV 10 l0 [1] 1 = 3 := by decide +kernel
theorem l0_fit (nc mc : Nat) (cps : Nat → Nat) (hb : l0.length ≤ big + 2) : fitB (ordP l0 [[1]] nc mc cps hb) = true := by kernel_rfl
theorem l0_val {nc mc : Nat} {cps : Nat → Nat} {hb : l0.length ≤ big + 2} {s : Tabl} (hp : PmOk (ordP l0 [[1]] nc mc cps hb)) (hL : Last (ordP l0 [[1]] nc mc cps hb) s) : rn (valP (ordP l0 [[1]] nc mc cps hb) s) s.d.toNat = 3 ∧ rd (valP (ordP l0 [[1]] nc mc cps hb) s) s.d.toNat = 1 := by
  have hX : Prim (lpP (ordP l0 [[1]] nc mc cps hb)) (fun _ => 3) 1 := by
    refine ⟨by decide, fun _ _ => by decide, fun t ht => ?_⟩
    have ht : t < 1 := ht
    obtain rfl : t = 0 := by omega
    show (3 : Int) * 1 ≤ 0 + 1 * 3
    decide
  have hY : Dual (lpP (ordP l0 [[1]] nc mc cps hb)) (fun j => (ordP l0 [[1]] nc mc cps hb).co j * 1) (fun _ => 1) := by
    refine ⟨fun j hj => ?_, fun t _ => ?_⟩
    · have hj : j < 1 := hj
      obtain rfl : j = 0 := by omega
      show (0 : Int) + 1 * 1 ≤ 1 * 1
      decide
    · show (0 : Int) ≤ 1
      decide
  have u := val_uniq hp hL hX (by decide) hY (v := 3) (by show ((0 : Int) + 1 * 3) * 1 = 3 * 1; rfl) (by show (0 : Int) + 3 * 1 = 3; rfl)
  have hs := last_pos hL
  have r := r_same (N := valP (ordP l0 [[1]] nc mc cps hb) s) (D := s.d.toNat) (N' := 3) (D' := 1) (by omega) (by decide) (by
    rw [show ((s.d.toNat : Nat) : Int) = s.d by omega]
    exact u)
  exact ⟨r.1.trans (by decide +kernel), r.2.trans (by decide +kernel)⟩
set_option maxHeartbeats 4000000 in
theorem awake_sp : Sp Try.prog 9 [] [] (fun r H => r = .v (.bool true) ∧ H = []) := by
  have hm := xmat_pu 10 l0 1 (by decide)
  have hla := xlarge_pu 10 l0 1 (by decide)
  rw [if_pos l0_giv, l0_giv] at hm hla
  rw [l0_mat] at hm
  rw [show l0.length = 1 from rfl, l0_large] at hla
  have hpr := bproves_sp 10 l0 1 [1] 1 1 (by decide) (by decide)
  rw [l0_pE, l0_pV] at hpr
  have hpc := prices_sp 10 l0 1 (by decide)
  refine sp_weak ?_
  refine sp_of_ex true [] mixed Try.call9 Try.func9 rfl Try.ntmps9 Try.results9 (by decide +kernel) rfl ?_
  simp only [push_cast, ↓branch_true, ↓branch_false, Nat.reduceBEq, Nat.reduceAdd, Nat.reduceMul, Nat.reduceSub, Int.reduceToNat, reduceCtorEq, Int.reduceAdd, Int.reduceEq, Int.reduceLE, Int.reduceLT, Nat.reduceLT, Nat.reduceLeDiff]
  refine sp_at example_sp [] (by kernel_rfl) ?_ ?_ ?_
  · simp only [push_cast, ↓branch_true, ↓branch_false, Nat.reduceBEq, Nat.reduceAdd, Nat.reduceMul, Nat.reduceSub, Int.reduceToNat, reduceCtorEq, Int.reduceAdd, Int.reduceEq, Int.reduceLE, Int.reduceLT, Nat.reduceLT, Nat.reduceLeDiff]
  · simp only [push_cast, ↓branch_true, ↓branch_false, Nat.reduceBEq, Nat.reduceAdd, Nat.reduceMul, Nat.reduceSub, Int.reduceToNat, reduceCtorEq, Int.reduceAdd, Int.reduceEq, Int.reduceLE, Int.reduceLT, Nat.reduceLT, Nat.reduceLeDiff]
  have hl1 : l0.length = 1 := rfl
  have hl2 : ([1] : List Int).length = 1 := rfl
  simp only [hl1] at hm hla hpc
  simp only [hl1, hl2] at hpr
  rintro _ _ ⟨rfl, rfl⟩
  simp only [push_cast, ↓branch_true, ↓branch_false, Nat.reduceBEq, Nat.reduceAdd, Nat.reduceMul, Nat.reduceSub, Int.reduceToNat, reduceCtorEq, Int.reduceAdd, Int.reduceEq, Int.reduceLE, Int.reduceLT, Nat.reduceLT, Nat.reduceLeDiff]
  refine sp_call hm rfl [0] rfl ?_ ?_ ?_
  · simp only [push_cast, ↓branch_true, ↓branch_false, Nat.reduceBEq, Nat.reduceAdd, Nat.reduceMul, Nat.reduceSub, Int.reduceToNat, reduceCtorEq, Int.reduceAdd, Int.reduceEq, Int.reduceLE, Int.reduceLT, Nat.reduceLT, Nat.reduceLeDiff]
  · simp only [push_cast, ↓branch_true, ↓branch_false, Nat.reduceBEq, Nat.reduceAdd, Nat.reduceMul, Nat.reduceSub, Int.reduceToNat, reduceCtorEq, Int.reduceAdd, Int.reduceEq, Int.reduceLE, Int.reduceLT, Nat.reduceLT, Nat.reduceLeDiff]
  simp only [push_cast, ↓branch_true, ↓branch_false, Nat.reduceBEq, Nat.reduceAdd, Nat.reduceMul, Nat.reduceSub, Int.reduceToNat, reduceCtorEq, Int.reduceAdd, Int.reduceEq, Int.reduceLE, Int.reduceLT, Nat.reduceLT, Nat.reduceLeDiff]
  refine sp_at example_sp [] (by kernel_rfl) ?_ ?_ ?_
  · simp only [push_cast, ↓branch_true, ↓branch_false, Nat.reduceBEq, Nat.reduceAdd, Nat.reduceMul, Nat.reduceSub, Int.reduceToNat, reduceCtorEq, Int.reduceAdd, Int.reduceEq, Int.reduceLE, Int.reduceLT, Nat.reduceLT, Nat.reduceLeDiff]
  · simp only [push_cast, ↓branch_true, ↓branch_false, Nat.reduceBEq, Nat.reduceAdd, Nat.reduceMul, Nat.reduceSub, Int.reduceToNat, reduceCtorEq, Int.reduceAdd, Int.reduceEq, Int.reduceLE, Int.reduceLT, Nat.reduceLT, Nat.reduceLeDiff]
  rintro _ _ ⟨rfl, rfl⟩
  simp only [push_cast, ↓branch_true, ↓branch_false, Nat.reduceBEq, Nat.reduceAdd, Nat.reduceMul, Nat.reduceSub, Int.reduceToNat, reduceCtorEq, Int.reduceAdd, Int.reduceEq, Int.reduceLE, Int.reduceLT, Nat.reduceLT, Nat.reduceLeDiff]
  refine sp_call hla rfl [1] rfl ?_ ?_ ?_
  · simp only [push_cast, ↓branch_true, ↓branch_false, Nat.reduceBEq, Nat.reduceAdd, Nat.reduceMul, Nat.reduceSub, Int.reduceToNat, reduceCtorEq, Int.reduceAdd, Int.reduceEq, Int.reduceLE, Int.reduceLT, Nat.reduceLT, Nat.reduceLeDiff]
  · simp only [push_cast, ↓branch_true, ↓branch_false, Nat.reduceBEq, Nat.reduceAdd, Nat.reduceMul, Nat.reduceSub, Int.reduceToNat, reduceCtorEq, Int.reduceAdd, Int.reduceEq, Int.reduceLE, Int.reduceLT, Nat.reduceLT, Nat.reduceLeDiff]
  simp only [push_cast, ↓branch_true, ↓branch_false, Nat.reduceBEq, Nat.reduceAdd, Nat.reduceMul, Nat.reduceSub, Int.reduceToNat, reduceCtorEq, Int.reduceAdd, Int.reduceEq, Int.reduceLE, Int.reduceLT, Nat.reduceLT, Nat.reduceLeDiff]
  refine sp_at example_sp [] (by kernel_rfl) ?_ ?_ ?_
  · simp only [push_cast, ↓branch_true, ↓branch_false, Nat.reduceBEq, Nat.reduceAdd, Nat.reduceMul, Nat.reduceSub, Int.reduceToNat, reduceCtorEq, Int.reduceAdd, Int.reduceEq, Int.reduceLE, Int.reduceLT, Nat.reduceLT, Nat.reduceLeDiff]
  · simp only [push_cast, ↓branch_true, ↓branch_false, Nat.reduceBEq, Nat.reduceAdd, Nat.reduceMul, Nat.reduceSub, Int.reduceToNat, reduceCtorEq, Int.reduceAdd, Int.reduceEq, Int.reduceLE, Int.reduceLT, Nat.reduceLT, Nat.reduceLeDiff]
  rintro _ _ ⟨rfl, rfl⟩
  simp only [push_cast, ↓branch_true, ↓branch_false, Nat.reduceBEq, Nat.reduceAdd, Nat.reduceMul, Nat.reduceSub, Int.reduceToNat, reduceCtorEq, Int.reduceAdd, Int.reduceEq, Int.reduceLE, Int.reduceLT, Nat.reduceLT, Nat.reduceLeDiff]
  refine sp_at hpr [2, 3] (by kernel_rfl) ?_ ?_ ?_
  · simp only [push_cast, ↓branch_true, ↓branch_false, Nat.reduceBEq, Nat.reduceAdd, Nat.reduceMul, Nat.reduceSub, Int.reduceToNat, reduceCtorEq, Int.reduceAdd, Int.reduceEq, Int.reduceLE, Int.reduceLT, Nat.reduceLT, Nat.reduceLeDiff]
  · simp only [push_cast, ↓branch_true, ↓branch_false, Nat.reduceBEq, Nat.reduceAdd, Nat.reduceMul, Nat.reduceSub, Int.reduceToNat, reduceCtorEq, Int.reduceAdd, Int.reduceEq, Int.reduceLE, Int.reduceLT, Nat.reduceLT, Nat.reduceLeDiff]
    intro i _ k hk
    obtain rfl : k = 0 := by omega
    exact (by (simp only [push_cast, ↓branch_true, ↓branch_false, Nat.reduceBEq, Nat.reduceAdd, Nat.reduceMul, Nat.reduceSub, Int.reduceToNat, reduceCtorEq, Int.reduceAdd, Int.reduceEq, Int.reduceLE, Int.reduceLT, Nat.reduceLT, Nat.reduceLeDiff]); rfl)
  rintro _ _ ⟨rfl, rfl⟩
  simp only [push_cast, ↓branch_true, ↓branch_false, Nat.reduceBEq, Nat.reduceAdd, Nat.reduceMul, Nat.reduceSub, Int.reduceToNat, reduceCtorEq, Int.reduceAdd, Int.reduceEq, Int.reduceLE, Int.reduceLT, Nat.reduceLT, Nat.reduceLeDiff]
  refine sp_at example_sp [] (by kernel_rfl) ?_ ?_ ?_
  · simp only [push_cast, ↓branch_true, ↓branch_false, Nat.reduceBEq, Nat.reduceAdd, Nat.reduceMul, Nat.reduceSub, Int.reduceToNat, reduceCtorEq, Int.reduceAdd, Int.reduceEq, Int.reduceLE, Int.reduceLT, Nat.reduceLT, Nat.reduceLeDiff]
  · simp only [push_cast, ↓branch_true, ↓branch_false, Nat.reduceBEq, Nat.reduceAdd, Nat.reduceMul, Nat.reduceSub, Int.reduceToNat, reduceCtorEq, Int.reduceAdd, Int.reduceEq, Int.reduceLE, Int.reduceLT, Nat.reduceLT, Nat.reduceLeDiff]
  rintro _ _ ⟨rfl, rfl⟩
  simp only [push_cast, ↓branch_true, ↓branch_false, Nat.reduceBEq, Nat.reduceAdd, Nat.reduceMul, Nat.reduceSub, Int.reduceToNat, reduceCtorEq, Int.reduceAdd, Int.reduceEq, Int.reduceLE, Int.reduceLT, Nat.reduceLT, Nat.reduceLeDiff]
  refine sp_at hpc [4] (by kernel_rfl) ?_ ?_ ?_
  · simp only [push_cast, ↓branch_true, ↓branch_false, Nat.reduceBEq, Nat.reduceAdd, Nat.reduceMul, Nat.reduceSub, Int.reduceToNat, reduceCtorEq, Int.reduceAdd, Int.reduceEq, Int.reduceLE, Int.reduceLT, Nat.reduceLT, Nat.reduceLeDiff]
  · simp only [push_cast, ↓branch_true, ↓branch_false, Nat.reduceBEq, Nat.reduceAdd, Nat.reduceMul, Nat.reduceSub, Int.reduceToNat, reduceCtorEq, Int.reduceAdd, Int.reduceEq, Int.reduceLE, Int.reduceLT, Nat.reduceLT, Nat.reduceLeDiff]
  intro r0 H0 hR
  cases hR with
  | given h => exact absurd l0_giv h
  | none _ h => cases h
  | limit _ _ h =>
    rcases h with h | h | h
    · exact absurd h (by decide)
    · exact absurd l0_E h
    · rw [l0_all] at h; exact absurd h (by decide)
  | big nc mc cps hb _ _ _ _ _ _ hf =>
    rw [l0_all, l0_fit] at hf
    cases hf
  | ok nc mc cy cps hb s _ _ _ _ _ hp _ _ hL _ =>
    rw [l0_all] at hp hL
    obtain ⟨v1, v2⟩ := l0_val hp hL
    rw [l0_all, v1, v2, hl1]
    simp only [push_cast, ↓branch_true, ↓branch_false, Nat.reduceBEq, Nat.reduceAdd, Nat.reduceMul, Nat.reduceSub, Int.reduceToNat, reduceCtorEq, Int.reduceAdd, Int.reduceEq, Int.reduceLE, Int.reduceLT, Nat.reduceLT, Nat.reduceLeDiff]
    refine ⟨agg34 _ _ _ _, _, _, [], ?_, by kernel_rfl, ?_, rfl, rfl⟩
    · simp only [push_cast, ↓branch_true, ↓branch_false, Nat.reduceBEq, Nat.reduceAdd, Nat.reduceMul, Nat.reduceSub, Int.reduceToNat, reduceCtorEq, Int.reduceAdd, Int.reduceEq, Int.reduceLE, Int.reduceLT, Nat.reduceLT, Nat.reduceLeDiff]
    · simp only [push_cast, ↓branch_true, ↓branch_false, Nat.reduceBEq, Nat.reduceAdd, Nat.reduceMul, Nat.reduceSub, Int.reduceToNat, reduceCtorEq, Int.reduceAdd, Int.reduceEq, Int.reduceLE, Int.reduceLT, Nat.reduceLT, Nat.reduceLeDiff]
end Go.Proofs.Ytdeaaonppokgkaa.Pat
