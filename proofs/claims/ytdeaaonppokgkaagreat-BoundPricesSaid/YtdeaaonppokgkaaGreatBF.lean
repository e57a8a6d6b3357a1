/- Contracts: the exported bounds, the example, awake. -/
import Derived.Test.YtdeaaonppokgkaaGreatBE
set_option maxRecDepth 100000
set_option linter.unusedSimpArgs false
set_option linter.unusedVariables false
namespace Go.Proofs.YtdeaaonppokgkaaGreat.Pat
open Go.RowKit Lp
theorem agg_two {P : Program} {t : TypeId} (k : IntKind) (f0 f1 : Field) (h1 : P.eqGuardType P.depth t = false) (h2 : P.underlying t = some (.struct (P.fieldsOf t))) (h3 : P.stoodInHeld t = false)
    (h4 : (P.fieldsOf t).toList = [f0, f1]) (n0 : (f0.name == "_") = false) (n1 : (f1.name == "_") = false) (o0 : f0.offset = 0) (o1 : f1.offset = 1) (t0 : P.underlying f0.type = some (.int k)) (t1 : P.underlying f1.type = some (.int k)) (c0 : P.cellsOf f0.type = 1) (c1 : P.cellsOf f1.type = 1)
    (a b c d : Int) : AggEq P t [.int k a, .int k b] [.int k c, .int k d] := by
  intro op x y w
  refine ⟨run_eqGuard_agg w op t x y _ _ h1, ?_⟩
  simp only [Op.equal, Op.maxDepth]
  rw [run_equalIn_agg w 9999 t _ _ h2 h3, h4]
  have n0 : f0.name ≠ "_" := by simpa using n0
  have n1 : f1.name ≠ "_" := by simpa using n1
  simp only [Op.eqFields, n0, n1, ne_eq, not_false_eq_true, if_true, Sem.run_bind, o0, o1]
  have p : ∀ (f : TypeId) (xs : Array Value) (off : Nat) (v : Value), P.underlying f = some (.int k) → xs[off]? = some v → (part f xs off).run P w = .ok v w := fun f xs off v hu hx => by
    simp [part, isAgg, Sem.run_bind, run_underlying hu, hx, Result.andThen, Sem.run_pure]
  rw [p _ _ _ (.int k a) t0 rfl]
  simp only [Result.andThen_ok]
  rw [p _ _ _ (.int k c) t0 rfl]
  simp only [Result.andThen_ok, run_equalIn_int w 9998 _ _ _ a c t0]
  by_cases e : a = c
  · subst e
    simp only [beq_self_eq_true, Bool.not_true, Bool.false_eq_true, if_false, Sem.run_bind]
    rw [p _ _ _ (.int k b) t1 rfl]
    simp only [Result.andThen_ok]
    rw [p _ _ _ (.int k d) t1 rfl]
    simp only [Result.andThen_ok, run_equalIn_int w 9998 _ _ _ b d t1]
    by_cases e : b = d
    · subst e
      simp [Sem.run_pure, eqLB]
    · have : (b == d) = false := by simpa using e
      simp [Sem.run_pure, eqLB, this]
  · have : (a == c) = false := by simpa using e
    simp [Sem.run_pure, eqLB, this]
theorem agg34 (a b c d : Int) : AggEq Tryz.prog 27 [.int .i64 a, .int .i64 b] [.int .i64 c, .int .i64 d] :=
  agg_two .i64 (Tryz.prog.fieldsOf 27)[0]! (Tryz.prog.fieldsOf 27)[1]! (by kernel_rfl) (by kernel_rfl) (by kernel_rfl) (by kernel_rfl) (by kernel_rfl) (by kernel_rfl) (by kernel_rfl) (by kernel_rfl) (by kernel_rfl) (by kernel_rfl) (by kernel_rfl) (by kernel_rfl) a b c d
theorem xmat_pu (lim : Int) (l : List Pc) (c : Nat) (hl : l.length ≤ 9223372036854775807) : Pu Tryz.prog 13 [.v (.int .i64 lim), .s 0 0 0 l.length c 2] [rPc l] (.t [.v (.int .i64 (if givE lim l = 0 then matR lim l else 0)), .v (.int .i64 (givE lim l))]) := by
  refine pu_of_ex true [] mixed Tryz.call13 Tryz.func13 rfl Tryz.ntmps13 Tryz.results13 (by decide +kernel) rfl rfl rfl ?_
  refine sxq ?_
  try with_reducible exact trivial
  refine sp_c (bgiven_pu lim l c hl) rfl [0] ?_
  refine sxq ?_
  try with_reducible exact trivial
  by_cases hg : givE lim l = 0
  rotate_left
  · rw [if_neg hg]
    exact ⟨fun h => absurd h hg, fun _ => rfl⟩
  obtain ⟨ho, h1, h2, h3⟩ := givE_0 hg
  refine ⟨fun _ => ?_, fun h => absurd hg h⟩
  refine sp_c (bmat_pu lim l c ho h1 h2) rfl [0] ?_
  refine sxq ?_
  try with_reducible exact trivial
  rw [if_pos hg, hg]
theorem xlarge_pu (lim : Int) (l : List Pc) (c : Nat) (hl : l.length ≤ 9223372036854775807) : Pu Tryz.prog 15 [.v (.int .i64 lim), .s 0 0 0 l.length c 2] [rPc l] (.t [.v (.int .i64 (if givE lim l = 0 then largT lim l l.length else 0)), .v (.int .i64 (givE lim l))]) := by
  refine pu_of_ex true [] mixed Tryz.call15 Tryz.func15 rfl Tryz.ntmps15 Tryz.results15 (by decide +kernel) rfl rfl rfl ?_
  refine sxq ?_
  try with_reducible exact trivial
  refine sp_c (bgiven_pu lim l c hl) rfl [0] ?_
  refine sxq ?_
  try with_reducible exact trivial
  by_cases hg : givE lim l = 0
  rotate_left
  · rw [if_neg hg]
    exact ⟨fun h => absurd h hg, fun _ => rfl⟩
  obtain ⟨ho, h1, h2, h3⟩ := givE_0 hg
  refine ⟨fun _ => ?_, fun h => absurd hg h⟩
  refine sp_c (blarge_pu lim l c ho) rfl [0] ?_
  refine sxq ?_
  try with_reducible exact trivial
  rw [if_pos hg, hg]
def l0 : List Pc := [⟨6, 3⟩]
theorem example_sp : Sp Tryz.prog 14 [] [] (fun r H => r = .s 0 0 0 1 1 2 ∧ H = [rPc l0]) := by
  refine sp_weak ?_
  refine sp_of_ex true [] mixed Tryz.call14 Tryz.func14 rfl Tryz.ntmps14 Tryz.results14 (by decide +kernel) rfl ?_
  refine sxq ?_
  try with_reducible exact trivial
  refine ⟨_, _, [0], ?_, by kernel_rfl, ?_, rfl, rfl⟩
  · refine sxq ?_
    try with_reducible exact trivial
  · refine sxq ?_
    try with_reducible exact trivial
    refine fun _ _ => ⟨Nat.le_refl _, fun k hk => ?_⟩
    have hk : k < 1 := hk
    obtain rfl : k = 0 := by omega
    exact (by (simp only [push_cast, ↓branch_true, ↓branch_false, Nat.reduceBEq, Nat.reduceAdd, Nat.reduceMul, Nat.reduceSub, Int.reduceToNat, reduceCtorEq, Int.reduceAdd, Int.reduceEq, Int.reduceLE, Int.reduceLT, Nat.reduceLT, Nat.reduceLeDiff]); exact ⟨rfl, rfl⟩)
theorem l0_all : allL 10 l0 = [[1]] := by decide +kernel
theorem l0_giv : givE 10 l0 = 0 := by decide +kernel
theorem l0_E : allE 10 l0 = 0 := by decide +kernel
theorem l0_mat : matR 10 l0 = 2 := by decide +kernel
theorem l0_large : largT 10 l0 1 = 3 := by decide +kernel
theorem l0_pE : provE 10 l0 [1] 1 = 0 := by decide +kernel
theorem l0_pV : provV 10 l0 [1] 1 = 3 := by decide +kernel
theorem l0_fit (nc mc : Nat) (cps : Nat → Nat) (hb : l0.length ≤ big + 2) : fitB (ordP l0 [[1]] nc mc cps hb) = true := by kernel_rfl
theorem l0_val {nc mc : Nat} {cps : Nat → Nat} {hb : l0.length ≤ big + 2} {s : Tabl} (hp : PmOk (ordP l0 [[1]] nc mc cps hb)) (hL : Last (ordP l0 [[1]] nc mc cps hb) s) : rn (valP (ordP l0 [[1]] nc mc cps hb) s) s.d.toNat = 3 ∧ rd (valP (ordP l0 [[1]] nc mc cps hb) s) s.d.toNat = 1 := by
  have hX : Prim (lpP (ordP l0 [[1]] nc mc cps hb)) (fun _ => 3) 1 := by
    refine ⟨by decide, fun _ _ => by decide, fun t ht => ?_⟩
    have ht : t < 1 := ht
    obtain rfl : t = 0 := by omega
    show (3 : Int) * 1 ≤ 0 + 1 * 3
    decide
  have hY : Dual (lpP (ordP l0 [[1]] nc mc cps hb)) (fun j => (ordP l0 [[1]] nc mc cps hb).co j * 1) (fun _ => 1) := by
    refine ⟨fun j hj => ?_, fun t _ => ?_⟩
    · have hj : j < 1 := hj
      obtain rfl : j = 0 := by omega
      show (0 : Int) + 1 * 1 ≤ 1 * 1
      decide
    · show (0 : Int) ≤ 1
      decide
  have u := val_uniq hp hL hX (by decide) hY (v := 3) (by show ((0 : Int) + 1 * 3) * 1 = 3 * 1; rfl) (by show (0 : Int) + 3 * 1 = 3; rfl)
  have hs := last_pos hL
  have r := r_same (N := valP (ordP l0 [[1]] nc mc cps hb) s) (D := s.d.toNat) (N' := 3) (D' := 1) (by omega) (by decide) (by
    rw [show ((s.d.toNat : Nat) : Int) = s.d by omega]
    exact u)
  exact ⟨r.1.trans (by decide +kernel), r.2.trans (by decide +kernel)⟩
set_option maxHeartbeats 4000000 in
theorem awake_sp : Sp Tryz.prog 4 [] [] (fun r H => r = .v (.bool true) ∧ H = []) := by
  have hm := xmat_pu 10 l0 1 (by decide)
  have hla := xlarge_pu 10 l0 1 (by decide)
  rw [if_pos l0_giv, l0_giv] at hm hla
  rw [l0_mat] at hm
  rw [show l0.length = 1 from rfl, l0_large] at hla
  have hpr := bproves_sp 10 l0 1 [1] 1 1 (by decide) (by decide)
  rw [l0_pE, l0_pV] at hpr
  have hpc := prices_sp 10 l0 1 (by decide)
  refine sp_weak ?_
  refine sp_of_ex true [] mixed Tryz.call4 Tryz.func4 rfl Tryz.ntmps4 Tryz.results4 (by decide +kernel) rfl ?_
  refine sxq ?_
  try with_reducible exact trivial
  refine sp_at example_sp [] (by kernel_rfl) ?_ ?_ ?_
  · refine sxq ?_
    try with_reducible exact trivial
  · refine sxq ?_
    try with_reducible exact trivial
  have hl1 : l0.length = 1 := rfl
  have hl2 : ([1] : List Int).length = 1 := rfl
  simp only [hl1] at hm hla hpc
  simp only [hl1, hl2] at hpr
  rintro _ _ ⟨rfl, rfl⟩
  refine sxq ?_
  try with_reducible exact trivial
  refine sp_call hm rfl [0] rfl ?_ ?_ ?_
  · refine sxq ?_
    try with_reducible exact trivial
  · refine sxq ?_
    try with_reducible exact trivial
  refine sxq ?_
  try with_reducible exact trivial
  refine sp_at example_sp [] (by kernel_rfl) ?_ ?_ ?_
  · refine sxq ?_
    try with_reducible exact trivial
  · refine sxq ?_
    try with_reducible exact trivial
  rintro _ _ ⟨rfl, rfl⟩
  refine sxq ?_
  try with_reducible exact trivial
  refine sp_call hla rfl [1] rfl ?_ ?_ ?_
  · refine sxq ?_
    try with_reducible exact trivial
  · refine sxq ?_
    try with_reducible exact trivial
  refine sxq ?_
  try with_reducible exact trivial
  refine sp_at example_sp [] (by kernel_rfl) ?_ ?_ ?_
  · refine sxq ?_
    try with_reducible exact trivial
  · refine sxq ?_
    try with_reducible exact trivial
  rintro _ _ ⟨rfl, rfl⟩
  refine sxq ?_
  try with_reducible exact trivial
  refine sp_at hpr [2, 3] (by kernel_rfl) ?_ ?_ ?_
  · refine sxq ?_
    try with_reducible exact trivial
  · refine sxq ?_
    try with_reducible exact trivial
    intro i _ k hk
    obtain rfl : k = 0 := by omega
    exact (by (simp only [push_cast, ↓branch_true, ↓branch_false, Nat.reduceBEq, Nat.reduceAdd, Nat.reduceMul, Nat.reduceSub, Int.reduceToNat, reduceCtorEq, Int.reduceAdd, Int.reduceEq, Int.reduceLE, Int.reduceLT, Nat.reduceLT, Nat.reduceLeDiff]); rfl)
  rintro _ _ ⟨rfl, rfl⟩
  refine sxq ?_
  try with_reducible exact trivial
  refine sp_at example_sp [] (by kernel_rfl) ?_ ?_ ?_
  · refine sxq ?_
    try with_reducible exact trivial
  · refine sxq ?_
    try with_reducible exact trivial
  rintro _ _ ⟨rfl, rfl⟩
  refine sxq ?_
  try with_reducible exact trivial
  refine sp_at hpc [4] (by kernel_rfl) ?_ ?_ ?_
  · refine sxq ?_
    try with_reducible exact trivial
  · refine sxq ?_
    try with_reducible exact trivial
  intro r0 H0 hR
  cases hR with
  | given h => exact absurd l0_giv h
  | none _ h => cases h
  | limit _ _ h =>
    rcases h with h | h | h
    · exact absurd h (by decide)
    · exact absurd l0_E h
    · rw [l0_all] at h; exact absurd h (by decide)
  | big nc mc cps hb _ _ _ _ _ _ hf =>
    rw [l0_all, l0_fit] at hf
    cases hf
  | ok nc mc cy cps hb s _ _ _ _ _ hp _ _ hL _ =>
    rw [l0_all] at hp hL
    obtain ⟨v1, v2⟩ := l0_val hp hL
    rw [l0_all, v1, v2, hl1]
    refine sxq ?_
    try with_reducible exact trivial
    refine ⟨agg34 _ _ _ _, _, _, [], ?_, by kernel_rfl, ?_, rfl, rfl⟩
    · refine sxq ?_
      try with_reducible exact trivial
    · refine sxq ?_
      try with_reducible exact trivial
end Go.Proofs.YtdeaaonppokgkaaGreat.Pat
