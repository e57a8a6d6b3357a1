/- BoundMore: the walk. -/
import Derived.Test.YtdeaaonppokgkaaBI
set_option maxRecDepth 100000
set_option linter.unusedSimpArgs false
set_option linter.unusedVariables false
namespace Go.Proofs.Ytdeaaonppokgkaa.Pat
open Go.RowKit Lp
theorem agg46 (a b c d a' b' c' d' : Int) : AggEq Try.prog 46 [.int .i64 a, .int .i64 b, .int .i64 c, .int .i64 d] [.int .i64 a', .int .i64 b', .int .i64 c', .int .i64 d'] := by
  intro op x y w
  refine ⟨run_eqGuard_agg w op 46 x y _ _ (by kernel_rfl), ?_⟩
  simp only [Op.equal, Op.maxDepth]
  have p : ∀ (xs : Array Value) (off : Nat) (v : Value), xs[off]? = some v → (part 3 xs off).run Try.prog w = .ok v w := fun xs off v hx => by
    simp [part, isAgg, Sem.run_bind, run_underlying Try.underlying3, hx, Result.andThen, Sem.run_pure]
  rw [show (10000 : Nat) = 9999 + 1 from rfl, Op.equalIn]
  simp only [Sem.run_bind, run_underlying Try.underlying46, Result.andThen_ok]
  simp only [Std.Legacy.Range.forIn_eq_forIn_range', Std.Legacy.Range.size, Nat.sub_zero, Nat.add_sub_cancel, Nat.div_one, List.range'_succ, List.range'_zero, List.forIn_cons, List.forIn_nil]
  have hz : (sizeOf 3).run Try.prog w = .ok 1 w := by
    simp [sizeOf, Sem.run_bind]
    kernel_rfl
  have hi : ∀ m n : Int, (Op.equalIn 9999 3 (.int .i64 m) (.int .i64 n)).run Try.prog w = .ok (m == n) w := fun m n => run_equalIn_int w 9998 3 .i64 .i64 m n Try.underlying3
  rw [hz]
  simp only [Result.andThen_ok, Sem.run_bind, Nat.zero_mul, Nat.zero_add, Nat.mul_one]
  rw [p _ 0 (.int .i64 a) rfl]
  simp only [Result.andThen_ok]
  rw [p _ 0 (.int .i64 a') rfl]
  simp only [Result.andThen_ok, hi]
  by_cases e : a = a'
  rotate_left
  · have : (a == a') = false := by simpa using e
    simp [Sem.run_pure, eqLB, this]
  subst e
  simp only [beq_self_eq_true, Bool.not_true, Bool.false_eq_true, if_false, Sem.run_pure, Sem.run_bind, Result.andThen_ok]
  rw [p _ 1 (.int .i64 b) rfl]
  simp only [Result.andThen_ok]
  rw [p _ 1 (.int .i64 b') rfl]
  simp only [Result.andThen_ok, hi]
  by_cases e : b = b'
  rotate_left
  · have : (b == b') = false := by simpa using e
    simp [Sem.run_pure, eqLB, this]
  subst e
  simp only [beq_self_eq_true, Bool.not_true, Bool.false_eq_true, if_false, Sem.run_pure, Sem.run_bind, Result.andThen_ok]
  rw [p _ 2 (.int .i64 c) rfl]
  simp only [Result.andThen_ok]
  rw [p _ 2 (.int .i64 c') rfl]
  simp only [Result.andThen_ok, hi]
  by_cases e : c = c'
  rotate_left
  · have : (c == c') = false := by simpa using e
    simp [Sem.run_pure, eqLB, this]
  subst e
  simp only [beq_self_eq_true, Bool.not_true, Bool.false_eq_true, if_false, Sem.run_pure, Sem.run_bind, Result.andThen_ok]
  rw [p _ 3 (.int .i64 d) rfl]
  simp only [Result.andThen_ok]
  rw [p _ 3 (.int .i64 d') rfl]
  simp only [Result.andThen_ok, hi]
  by_cases e : d = d'
  · subst e
    simp [Sem.run_pure, eqLB]
  · have : (d == d') = false := by simpa using e
    simp [Sem.run_pure, eqLB, this]
theorem ix_app_last {α : Type} [Inhabited α] (l : List α) (x : α) : ix (l ++ [x]) l.length = x := by
  rw [ix_eq (by simp)]; simp
theorem ix_app_ne {α : Type} [Inhabited α] {l : List α} {q : Nat} (h : q ≠ l.length) (x : α) : ix (l ++ [x]) q = ix l q := by
  unfold ix
  rw [List.getD_eq_getElem?_getD, List.getD_eq_getElem?_getD]
  rcases Nat.lt_or_ge q l.length with h2 | h2
  · rw [List.getElem?_append_left h2]
  · rw [List.getElem?_eq_none (by simp; omega), List.getElem?_eq_none h2]
/-- The number of the bound. -/
def kkT (k : Int) : Int := 1 + (max 0 k).tmod 100
theorem kkT_rng (k : Int) : 1 ≤ kkT k ∧ kkT k ≤ 100 := by
  unfold kkT
  have a := Int.tmod_nonneg (a := max 0 k) 100 (by omega)
  have b := Int.tmod_lt_of_pos (max 0 k) (b := 100) (by omega)
  omega
def ze (lim : Int) (l : List Pc) (x : Int) : Int := if givE lim l = 0 then x else 0
/-- The four bounds, and the error. -/
def b4 (lim : Int) (l : List Pc) (k : Int) : List SV := [.v (.int .i64 (ze lim l (matR lim l))), .v (.int .i64 (ze lim l (largT lim l l.length))), .v (.int .i64 (ze lim l (bestR lim l))), .v (.int .i64 (ze lim l (dualR lim (kkT k) l)))]
theorem bnds_pu (lim : Int) (l : List Pc) (c : Nat) (k : Int) (hl : l.length ≤ 9223372036854775807) : Pu Try.prog 25 [.v (.int .i64 lim), .s 0 0 0 l.length c 2, .p 1 0 0] [rPc l, oIx k] (.t [.a (b4 lim l k), .v (.int .i64 (givE lim l))]) := by
  have hk := kkT_rng k
  have e0 : (duaE lim l (kkT k) = 0) = (givE lim l = 0) := by
    unfold duaE
    by_cases h : givE lim l = 0
    · rw [if_neg (by omega), if_neg (by omega), h]
    · rw [if_pos h]
  have hx := xdual_pu lim l c (kkT k) hl
  simp only [e0] at hx
  unfold kkT at hx hk
  refine pu_of_ex true [] mixed Try.call25 Try.func25 rfl Try.ntmps25 Try.results25 (by decide +kernel) rfl rfl rfl ?_
  simp only [push_cast, ↓branch_true, ↓branch_false, Nat.reduceBEq, Nat.reduceAdd, Nat.reduceMul, Nat.reduceSub, Int.reduceToNat, reduceCtorEq, Int.reduceAdd, Int.reduceEq, Int.reduceLE, Int.reduceLT, Nat.reduceLT, Nat.reduceLeDiff]
  refine sp_c (xmat_pu lim l c hl) rfl [0] ?_
  simp only [push_cast, ↓branch_true, ↓branch_false, Nat.reduceBEq, Nat.reduceAdd, Nat.reduceMul, Nat.reduceSub, Int.reduceToNat, reduceCtorEq, Int.reduceAdd, Int.reduceEq, Int.reduceLE, Int.reduceLT, Nat.reduceLT, Nat.reduceLeDiff]
  refine sp_c (xlarge_pu lim l c hl) rfl [0] ?_
  simp only [push_cast, ↓branch_true, ↓branch_false, Nat.reduceBEq, Nat.reduceAdd, Nat.reduceMul, Nat.reduceSub, Int.reduceToNat, reduceCtorEq, Int.reduceAdd, Int.reduceEq, Int.reduceLE, Int.reduceLT, Nat.reduceLT, Nat.reduceLeDiff]
  refine sp_c (bbest_pu lim l c hl) rfl [0] ?_
  simp only [push_cast, ↓branch_true, ↓branch_false, Nat.reduceBEq, Nat.reduceAdd, Nat.reduceMul, Nat.reduceSub, Int.reduceToNat, reduceCtorEq, Int.reduceAdd, Int.reduceEq, Int.reduceLE, Int.reduceLT, Nat.reduceLT, Nat.reduceLeDiff]
  repeat (with_reducible refine And.intro (by omega) ?_)
  refine sp_c (hx) rfl [0] ?_
  simp only [push_cast, ↓branch_true, ↓branch_false, Nat.reduceBEq, Nat.reduceAdd, Nat.reduceMul, Nat.reduceSub, Int.reduceToNat, reduceCtorEq, Int.reduceAdd, Int.reduceEq, Int.reduceLE, Int.reduceLT, Nat.reduceLT, Nat.reduceLeDiff]
  rfl
/-- The first k lengths are multiplied. -/
def scH (t : Int) (l : List Pc) (k : Nat) : List Pc := (List.range l.length).map fun q => if q < k then ⟨(ix l q).len * t, (ix l q).cnt⟩ else ix l q
theorem scH_len (t : Int) (l : List Pc) (k : Nat) : (scH t l k).length = l.length := by simp [scH]
theorem scH_ix {t : Int} {l : List Pc} {k q : Nat} (h : q < l.length) : ix (scH t l k) q = if q < k then ⟨(ix l q).len * t, (ix l q).cnt⟩ else ix l q := by
  rw [ix_eq (by rw [scH_len]; exact h)]; simp [scH]
theorem scH_end (t : Int) (l : List Pc) : scH t l l.length = scP t l := by
  apply List.ext_getElem
  · rw [scH_len, scP_len]
  · intro i h1 h2
    rw [← ix_eq h1, ← ix_eq h2, scP_ix (by rwa [scP_len] at h2), scH_ix (by rwa [scP_len] at h2), if_pos (by rwa [scP_len] at h2)]
theorem giv_zero {lim : Int} {l : List Pc} (ho : orderB l = true) (h1 : 1 ≤ lim) (h2 : lim ≤ 1048576) (h3 : ∀ k, k < l.length → (ix l k).len ≤ lim) : givE lim l = 0 := by
  unfold givE
  rw [if_neg (by rw [ho]; simp), if_neg (by omega), if_neg]
  intro h
  obtain ⟨x, hx, e⟩ := List.any_eq_true.1 h
  obtain ⟨k, hk, rfl⟩ := List.getElem_of_mem hx
  rw [← ix_eq hk] at e
  have := h3 k hk
  simp at e
  omega
theorem order_rev {l : List Pc} (h : orderB l = true) : orderB l.reverse = true := by
  unfold orderB at h ⊢
  rw [List.length_reverse, List.any_reverse]
  exact h
theorem giv_rev {lim : Int} {l : List Pc} (h : givE lim l = 0) : givE lim l.reverse = 0 := by
  obtain ⟨ho, h1, h2, h3⟩ := givE_0 h
  refine giv_zero (order_rev ho) h1 h2 fun k hk => ?_
  rw [List.length_reverse] at hk
  rw [ix_revP hk]
  exact h3 _ (by omega)
theorem giv_scale {lim t : Int} {l : List Pc} (ht : 1 ≤ t) (ho : orderB l = true) (h1 : 1 ≤ lim) (h3 : ∀ k, k < l.length → (ix l k).len ≤ lim) : givE (lim * t) (scP t l) = 0 ∨ givE (lim * t) (scP t l) = 1 ∨ givE (lim * t) (scP t l) = 2 := by
  unfold givE
  split
  · exact Or.inr (Or.inl rfl)
  · split
    · exact Or.inr (Or.inr rfl)
    · split
      · rename_i h
        obtain ⟨x, hx, e⟩ := List.any_eq_true.1 h
        obtain ⟨k, hk, rfl⟩ := List.getElem_of_mem hx
        rw [← ix_eq hk] at e
        rw [scP_len] at hk
        rw [scP_ix hk] at e
        have := Int.mul_le_mul_of_nonneg_right (h3 k hk) (show (0 : Int) ≤ t by omega)
        simp at e
        omega
      · exact Or.inl rfl
set_option maxHeartbeats 4000000 in
theorem lmore_sp (lim : Int) (l : List Pc) (c : Nat) (mo : Pc) (by_ k : Int) (hl : l.length ≤ 9223372036854775807) (hby : 0 ≤ by_ ∧ by_ ≤ 255) : Sp Try.prog 7 [.v (.int .i64 lim), .s 0 0 0 l.length c 2, .a (cPc mo), .v (.int .u8 by_), .v (.int .i64 k)] [rPc l] (isK (.v (.bool true))) := by
  refine sp_of_ex true [(14, .jn (.pre [1, 2] [0, 1, 2, 4] (.alt [(3, .alt [(5, .alt [(6, .alt [(7, .one 8 (.one 9 (.one 10 (.one 11 (.one 12 (.one 13 .fin)))))), (11, .one 7 (.one 8 (.one 9 (.one 10 (.one 12 (.one 13 .fin))))))]), (11, .one 6 (.one 7 (.one 8 (.one 9 (.one 10 (.one 12 (.one 13 .fin)))))))]), (11, .one 5 (.one 6 (.one 7 (.one 8 (.one 9 (.one 10 (.one 12 (.one 13 .fin))))))))]), (5, .alt [(3, .alt [(6, .alt [(7, .one 8 (.one 9 (.one 10 (.one 11 (.one 12 (.one 13 .fin)))))), (11, .one 7 (.one 8 (.one 9 (.one 10 (.one 12 (.one 13 .fin))))))]), (11, .one 6 (.one 7 (.one 8 (.one 9 (.one 10 (.one 12 (.one 13 .fin)))))))]), (11, .one 3 (.one 6 (.one 7 (.one 8 (.one 9 (.one 10 (.one 12 (.one 13 .fin))))))))]), (11, .alt [(3, .one 5 (.one 6 (.one 7 (.one 8 (.one 9 (.one 10 (.one 12 (.one 13 .fin)))))))), (5, .one 3 (.one 6 (.one 7 (.one 8 (.one 9 (.one 10 (.one 12 (.one 13 .fin))))))))])])))] mixed Try.call7 Try.func7 rfl Try.ntmps7 Try.results7 (by decide +kernel) rfl ?_
  simp only [push_cast, ↓branch_true, ↓branch_false, Nat.reduceBEq, Nat.reduceAdd, Nat.reduceMul, Nat.reduceSub, Int.reduceToNat, reduceCtorEq, Int.reduceAdd, Int.reduceEq, Int.reduceLE, Int.reduceLT, Nat.reduceLT, Nat.reduceLeDiff]
  refine sp_at awake_sp [] rfl ?_ ?_ ?_
  · simp only [push_cast, ↓branch_true, ↓branch_false, Nat.reduceBEq, Nat.reduceAdd, Nat.reduceMul, Nat.reduceSub, Int.reduceToNat, reduceCtorEq, Int.reduceAdd, Int.reduceEq, Int.reduceLE, Int.reduceLT, Nat.reduceLT, Nat.reduceLeDiff]
  · simp only [push_cast, ↓branch_true, ↓branch_false, Nat.reduceBEq, Nat.reduceAdd, Nat.reduceMul, Nat.reduceSub, Int.reduceToNat, reduceCtorEq, Int.reduceAdd, Int.reduceEq, Int.reduceLE, Int.reduceLT, Nat.reduceLT, Nat.reduceLeDiff]
  rintro _ _ ⟨rfl, rfl⟩
  simp only [push_cast, ↓branch_true, ↓branch_false, Nat.reduceBEq, Nat.reduceAdd, Nat.reduceMul, Nat.reduceSub, Int.reduceToNat, reduceCtorEq, Int.reduceAdd, Int.reduceEq, Int.reduceLE, Int.reduceLT, Nat.reduceLT, Nat.reduceLeDiff]
  intro c1 c2
  have hb0 := bnds_pu lim l c k hl
  unfold b4 at hb0
  refine sp_call hb0 rfl [0, 2] rfl ?_ ?_ ?_
  · simp only [push_cast, ↓branch_true, ↓branch_false, Nat.reduceBEq, Nat.reduceAdd, Nat.reduceMul, Nat.reduceSub, Int.reduceToNat, reduceCtorEq, Int.reduceAdd, Int.reduceEq, Int.reduceLE, Int.reduceLT, Nat.reduceLT, Nat.reduceLeDiff]
  · simp only [push_cast, ↓branch_true, ↓branch_false, Nat.reduceBEq, Nat.reduceAdd, Nat.reduceMul, Nat.reduceSub, Int.reduceToNat, reduceCtorEq, Int.reduceAdd, Int.reduceEq, Int.reduceLE, Int.reduceLT, Nat.reduceLT, Nat.reduceLeDiff]
  by_cases hg : givE lim l = 0
  rotate_left
  · simp only [ze, if_neg hg]
    simp only [push_cast, ↓branch_true, ↓branch_false, Nat.reduceBEq, Nat.reduceAdd, Nat.reduceMul, Nat.reduceSub, Int.reduceToNat, reduceCtorEq, Int.reduceAdd, Int.reduceEq, Int.reduceLE, Int.reduceLT, Nat.reduceLT, Nat.reduceLeDiff]
    exact ⟨fun h => absurd h hg, fun _ => agg46 _ _ _ _ _ _ _ _⟩
  simp only [ze, if_pos hg]
  rw [hg]
  obtain ⟨ho, h1, h2, h3⟩ := givE_0 hg
  have hlr : l.reverse.length = l.length := List.length_reverse
  simp only [push_cast, ↓branch_true, ↓branch_false, Nat.reduceBEq, Nat.reduceAdd, Nat.reduceMul, Nat.reduceSub, Int.reduceToNat, reduceCtorEq, Int.reduceAdd, Int.reduceEq, Int.reduceLE, Int.reduceLT, Nat.reduceLT, Nat.reduceLeDiff]
  refine sp_at (cloneP_sp l c (by omega)) [0] rfl ?_ ?_ ?_
  · simp only [push_cast, ↓branch_true, ↓branch_false, Nat.reduceBEq, Nat.reduceAdd, Nat.reduceMul, Nat.reduceSub, Int.reduceToNat, reduceCtorEq, Int.reduceAdd, Int.reduceEq, Int.reduceLE, Int.reduceLT, Nat.reduceLT, Nat.reduceLeDiff]
  · simp only [push_cast, ↓branch_true, ↓branch_false, Nat.reduceBEq, Nat.reduceAdd, Nat.reduceMul, Nat.reduceSub, Int.reduceToNat, reduceCtorEq, Int.reduceAdd, Int.reduceEq, Int.reduceLE, Int.reduceLT, Nat.reduceLT, Nat.reduceLeDiff]
  rintro _ _ ⟨cap2, hcap2, rfl, rfl⟩
  simp only [push_cast, ↓branch_true, ↓branch_false, Nat.reduceBEq, Nat.reduceAdd, Nat.reduceMul, Nat.reduceSub, Int.reduceToNat, reduceCtorEq, Int.reduceAdd, Int.reduceEq, Int.reduceLE, Int.reduceLT, Nat.reduceLT, Nat.reduceLeDiff]
  refine sp_at (revPc_sp l cap2 (by omega) hcap2) [4] rfl ?_ ?_ ?_
  · simp only [push_cast, ↓branch_true, ↓branch_false, Nat.reduceBEq, Nat.reduceAdd, Nat.reduceMul, Nat.reduceSub, Int.reduceToNat, reduceCtorEq, Int.reduceAdd, Int.reduceEq, Int.reduceLE, Int.reduceLT, Nat.reduceLT, Nat.reduceLeDiff]
  · simp only [push_cast, ↓branch_true, ↓branch_false, Nat.reduceBEq, Nat.reduceAdd, Nat.reduceMul, Nat.reduceSub, Int.reduceToNat, reduceCtorEq, Int.reduceAdd, Int.reduceEq, Int.reduceLE, Int.reduceLT, Nat.reduceLT, Nat.reduceLeDiff]
  rintro _ _ ⟨rfl, rfl⟩
  simp only [push_cast, ↓branch_true, ↓branch_false, Nat.reduceBEq, Nat.reduceAdd, Nat.reduceMul, Nat.reduceSub, Int.reduceToNat, reduceCtorEq, Int.reduceAdd, Int.reduceEq, Int.reduceLE, Int.reduceLT, Nat.reduceLT, Nat.reduceLeDiff]
  have hb1 := bnds_pu lim l.reverse cap2 k (by omega)
  rw [hlr] at hb1
  unfold b4 at hb1
  refine sp_call hb1 rfl [4, 2] rfl ?_ ?_ ?_
  · simp only [push_cast, ↓branch_true, ↓branch_false, Nat.reduceBEq, Nat.reduceAdd, Nat.reduceMul, Nat.reduceSub, Int.reduceToNat, reduceCtorEq, Int.reduceAdd, Int.reduceEq, Int.reduceLE, Int.reduceLT, Nat.reduceLT, Nat.reduceLeDiff]
  · simp only [push_cast, ↓branch_true, ↓branch_false, Nat.reduceBEq, Nat.reduceAdd, Nat.reduceMul, Nat.reduceSub, Int.reduceToNat, reduceCtorEq, Int.reduceAdd, Int.reduceEq, Int.reduceLE, Int.reduceLT, Nat.reduceLT, Nat.reduceLeDiff, hlr]
  rw [show givE lim l.reverse = 0 from giv_rev hg]
  simp only [ze, if_pos (giv_rev hg), mat_rev, larg_rev, dual_rev, best_rev]
  simp only [push_cast, ↓branch_true, ↓branch_false, Nat.reduceBEq, Nat.reduceAdd, Nat.reduceMul, Nat.reduceSub, Int.reduceToNat, reduceCtorEq, Int.reduceAdd, Int.reduceEq, Int.reduceLE, Int.reduceLT, Nat.reduceLT, Nat.reduceLeDiff]
  refine ⟨agg46 _ _ _ _ _ _ _ _, ?_⟩
  obtain ⟨e2, he2⟩ : ∃ e2, e2 = givE lim (l ++ [mo]) := ⟨_, rfl⟩
  obtain ⟨w0, hw0⟩ : ∃ w, w = ze lim (l ++ [mo]) (matR lim (l ++ [mo])) := ⟨_, rfl⟩
  obtain ⟨w1, hw1⟩ : ∃ w, w = ze lim (l ++ [mo]) (largT lim (l ++ [mo]) (l ++ [mo]).length) := ⟨_, rfl⟩
  obtain ⟨w2, hw2⟩ : ∃ w, w = ze lim (l ++ [mo]) (bestR lim (l ++ [mo])) := ⟨_, rfl⟩
  obtain ⟨w3, hw3⟩ : ∃ w, w = ze lim (l ++ [mo]) (dualR lim (kkT k) (l ++ [mo])) := ⟨_, rfl⟩
  refine ⟨[(0, .v (.int .i64 lim)), (1, .s 0 0 0 l.length c 2), (3, .v (.int .u8 by_)), (11, .f (.func 25) [] [.p 2 0 0]), (12, .p 3 0 0), (17, .p 4 0 0), (18, .v (.int .i64 e2))],
    [rPc l, ⟨45, true, .st (cPc mo)⟩, ⟨3, true, .st [.v (.int .i64 k)]⟩, ⟨46, false, .st [.v (.int .i64 (matR lim l)), .v (.int .i64 (largT lim l l.length)), .v (.int .i64 (bestR lim l)), .v (.int .i64 (dualR lim (kkT k) l))]⟩, ⟨46, false, .st [.v (.int .i64 w0), .v (.int .i64 w1), .v (.int .i64 w2), .v (.int .i64 w3)]⟩], ?_, ?_⟩
  · have hln : (l ++ [mo]).length = l.length + 1 := by simp
    have hb2 := fun c5 => bnds_pu lim (l ++ [mo]) c5 k (by omega)
    unfold b4 at hb2
    simp only [← he2, ← hw0, ← hw1, ← hw2, ← hw3] at hb2
    rw [hln] at hb2
    repeat' (with_reducible (first | apply And.intro | intro _))
    all_goals
      refine sp_at (cloneP_sp l c (by omega)) [0] (by kernel_rfl) ?_ ?_ ?_
      · simp only [push_cast, ↓branch_true, ↓branch_false, Nat.reduceBEq, Nat.reduceAdd, Nat.reduceMul, Nat.reduceSub, Int.reduceToNat, reduceCtorEq, Int.reduceAdd, Int.reduceEq, Int.reduceLE, Int.reduceLT, Nat.reduceLT, Nat.reduceLeDiff]
      · simp only [push_cast, ↓branch_true, ↓branch_false, Nat.reduceBEq, Nat.reduceAdd, Nat.reduceMul, Nat.reduceSub, Int.reduceToNat, reduceCtorEq, Int.reduceAdd, Int.reduceEq, Int.reduceLE, Int.reduceLT, Nat.reduceLT, Nat.reduceLeDiff]
      rintro _ _ ⟨cap3, hcap3, rfl, rfl⟩
      simp only [push_cast, ↓branch_true, ↓branch_false, Nat.reduceBEq, Nat.reduceAdd, Nat.reduceMul, Nat.reduceSub, Int.reduceToNat, reduceCtorEq, Int.reduceAdd, Int.reduceEq, Int.reduceLE, Int.reduceLT, Nat.reduceLT, Nat.reduceLeDiff]
      repeat' (with_reducible (first | apply And.intro | intro _))
      all_goals try omega
      all_goals refine Or.inr ?_
      all_goals
        repeat' (with_reducible (first | apply And.intro | intro _))
      all_goals try omega
      all_goals rename_i c5 hc5
      all_goals
        first
        | (refine sp_call (hb2 c5) rfl [8, 2] rfl ?_ ?_ ?_
           focus ((simp only [push_cast, ↓branch_true, ↓branch_false, Nat.reduceBEq, Nat.reduceAdd, Nat.reduceMul, Nat.reduceSub, Int.reduceToNat, reduceCtorEq, Int.reduceAdd, Int.reduceEq, Int.reduceLE, Int.reduceLT, Nat.reduceLT, Nat.reduceLeDiff]); done))
        | (refine sp_call (hb2 c5) rfl [9, 2] rfl ?_ ?_ ?_
           focus ((simp only [push_cast, ↓branch_true, ↓branch_false, Nat.reduceBEq, Nat.reduceAdd, Nat.reduceMul, Nat.reduceSub, Int.reduceToNat, reduceCtorEq, Int.reduceAdd, Int.reduceEq, Int.reduceLE, Int.reduceLT, Nat.reduceLT, Nat.reduceLeDiff]); done))
      all_goals try (
        simp only [push_cast, ↓branch_true, ↓branch_false, Nat.reduceBEq, Nat.reduceAdd, Nat.reduceMul, Nat.reduceSub, Int.reduceToNat, reduceCtorEq, Int.reduceAdd, Int.reduceEq, Int.reduceLE, Int.reduceLT, Nat.reduceLT, Nat.reduceLeDiff, hln]
        intro i1 hi1 q hq
        exact (by
          by_cases e : q < l.length
          · have hb : decide (q < l.length) = true := by simpa using e
            rw [ix_app_ne (by omega), hb]
            exact ⟨rfl, rfl, trivial⟩
          · obtain rfl : q = l.length := by omega
            have hb : decide (l.length < l.length) = false := by simp
            rw [ix_app_last, hb]
            exact ⟨rfl, rfl, trivial⟩))
      all_goals
        simp only [push_cast, ↓branch_true, ↓branch_false, Nat.reduceBEq, Nat.reduceAdd, Nat.reduceMul, Nat.reduceSub, Int.reduceToNat, reduceCtorEq, Int.reduceAdd, Int.reduceEq, Int.reduceLE, Int.reduceLT, Nat.reduceLT, Nat.reduceLeDiff]
      all_goals
        first
        | (refine Mt.wk (rl := [0, 1, 2, 3, 9]) ⟨by kernel_rfl, ?_, ?_⟩
           focus ((simp only [push_cast, ↓branch_true, ↓branch_false, Nat.reduceBEq, Nat.reduceAdd, Nat.reduceMul, Nat.reduceSub, Int.reduceToNat, reduceCtorEq, Int.reduceAdd, Int.reduceEq, Int.reduceLE, Int.reduceLT, Nat.reduceLT, Nat.reduceLeDiff]); done)
           focus ((simp only [push_cast, ↓branch_true, ↓branch_false, Nat.reduceBEq, Nat.reduceAdd, Nat.reduceMul, Nat.reduceSub, Int.reduceToNat, reduceCtorEq, Int.reduceAdd, Int.reduceEq, Int.reduceLE, Int.reduceLT, Nat.reduceLT, Nat.reduceLeDiff]); done))
        | (refine Mt.wk (rl := [0, 1, 2, 3, 8]) ⟨by kernel_rfl, ?_, ?_⟩
           focus ((simp only [push_cast, ↓branch_true, ↓branch_false, Nat.reduceBEq, Nat.reduceAdd, Nat.reduceMul, Nat.reduceSub, Int.reduceToNat, reduceCtorEq, Int.reduceAdd, Int.reduceEq, Int.reduceLE, Int.reduceLT, Nat.reduceLT, Nat.reduceLeDiff]); done)
           focus ((simp only [push_cast, ↓branch_true, ↓branch_false, Nat.reduceBEq, Nat.reduceAdd, Nat.reduceMul, Nat.reduceSub, Int.reduceToNat, reduceCtorEq, Int.reduceAdd, Int.reduceEq, Int.reduceLE, Int.reduceLT, Nat.reduceLT, Nat.reduceLeDiff]); done))
        | (refine Mt.wk (rl := [0, 1, 2, 3, 7]) ⟨by kernel_rfl, ?_, ?_⟩
           focus ((simp only [push_cast, ↓branch_true, ↓branch_false, Nat.reduceBEq, Nat.reduceAdd, Nat.reduceMul, Nat.reduceSub, Int.reduceToNat, reduceCtorEq, Int.reduceAdd, Int.reduceEq, Int.reduceLE, Int.reduceLT, Nat.reduceLT, Nat.reduceLeDiff]); done)
           focus ((simp only [push_cast, ↓branch_true, ↓branch_false, Nat.reduceBEq, Nat.reduceAdd, Nat.reduceMul, Nat.reduceSub, Int.reduceToNat, reduceCtorEq, Int.reduceAdd, Int.reduceEq, Int.reduceLE, Int.reduceLT, Nat.reduceLT, Nat.reduceLeDiff]); done))
        | (refine Mt.wk (rl := [0, 1, 2, 3, 6]) ⟨by kernel_rfl, ?_, ?_⟩
           focus ((simp only [push_cast, ↓branch_true, ↓branch_false, Nat.reduceBEq, Nat.reduceAdd, Nat.reduceMul, Nat.reduceSub, Int.reduceToNat, reduceCtorEq, Int.reduceAdd, Int.reduceEq, Int.reduceLE, Int.reduceLT, Nat.reduceLT, Nat.reduceLeDiff]); done)
           focus ((simp only [push_cast, ↓branch_true, ↓branch_false, Nat.reduceBEq, Nat.reduceAdd, Nat.reduceMul, Nat.reduceSub, Int.reduceToNat, reduceCtorEq, Int.reduceAdd, Int.reduceEq, Int.reduceLE, Int.reduceLT, Nat.reduceLT, Nat.reduceLeDiff]); done))
  simp only [push_cast, ↓branch_true, ↓branch_false, Nat.reduceBEq, Nat.reduceAdd, Nat.reduceMul, Nat.reduceSub, Int.reduceToNat, reduceCtorEq, Int.reduceAdd, Int.reduceEq, Int.reduceLE, Int.reduceLT, Nat.reduceLT, Nat.reduceLeDiff, jnK]
  have hw : e2 = 0 → matR lim l ≤ w0 ∧ largT lim l l.length ≤ w1 ∧ bestR lim l ≤ w2 ∧ dualR lim (kkT k) l ≤ w3 := fun h0 => by
    rw [he2] at h0
    obtain ⟨o2, _, _, _⟩ := givE_0 h0
    have hx := order_at o2 (k := l.length) (by simp)
    rw [ix_app_last] at hx
    simp only [ze, if_pos h0] at hw0 hw1 hw2 hw3
    rw [hw0, hw1, hw2, hw3]
    exact ⟨mat_app ho h1 (Int.mul_nonneg (by omega) (by omega)), larg_app (by omega), best_app ho h1 hx, dual_app ho h1 (kkT_rng k) hx⟩
  refine ⟨fun h0 => ?lp, fun h0 => ?nx⟩
  case' lp =>
    obtain ⟨q0, q1, q2, q3⟩ := hw h0
    refine tr_loop mixed (by kernel_rfl) (fun (i : Nat) => [(77, .v (.int .i64 i)), (17, .p 4 0 0), (12, .p 3 0 0), (0, .v (.int .i64 lim)), (1, .s 0 0 0 l.length c 2), (3, .v (.int .u8 by_)), (11, .f (.func 25) [] [.p 2 0 0])])
      (fun _ => [rPc l, ⟨45, true, .st (cPc mo)⟩, ⟨3, true, .st [.v (.int .i64 k)]⟩, ⟨46, false, .st [.v (.int .i64 (matR lim l)), .v (.int .i64 (largT lim l l.length)), .v (.int .i64 (bestR lim l)), .v (.int .i64 (dualR lim (kkT k) l))]⟩, ⟨46, false, .st [.v (.int .i64 w0), .v (.int .i64 w1), .v (.int .i64 w2), .v (.int .i64 w3)]⟩]) (fun i => i ≤ 4) (fun i => 4 - i) 0 (Nat.zero_le _) (Mt.wk (rl := [0, 1, 2, 3, 4]) ⟨by kernel_rfl, ?_, ?_⟩) ?_
    · simp only [push_cast, ↓branch_true, ↓branch_false, Nat.reduceBEq, Nat.reduceAdd, Nat.reduceMul, Nat.reduceSub, Int.reduceToNat, reduceCtorEq, Int.reduceAdd, Int.reduceEq, Int.reduceLE, Int.reduceLT, Nat.reduceLT, Nat.reduceLeDiff]
    · simp only [push_cast, ↓branch_true, ↓branch_false, Nat.reduceBEq, Nat.reduceAdd, Nat.reduceMul, Nat.reduceSub, Int.reduceToNat, reduceCtorEq, Int.reduceAdd, Int.reduceEq, Int.reduceLE, Int.reduceLT, Nat.reduceLT, Nat.reduceLeDiff]
    intro i hi
    simp only [push_cast, ↓branch_true, ↓branch_false, Nat.reduceBEq, Nat.reduceAdd, Nat.reduceMul, Nat.reduceSub, Int.reduceToNat, reduceCtorEq, Int.reduceAdd, Int.reduceEq, Int.reduceLE, Int.reduceLT, Nat.reduceLT, Nat.reduceLeDiff]
    repeat' (with_reducible (first | apply And.intro | intro _))
    all_goals try omega
    all_goals try (
      refine lpK_normal (i + 1) [0, 1, 2, 3, 4] (by omega) (by omega) (by kernel_rfl) ?_ ?_
      focus ((simp only [push_cast, ↓branch_true, ↓branch_false, Nat.reduceBEq, Nat.reduceAdd, Nat.reduceMul, Nat.reduceSub, Int.reduceToNat, reduceCtorEq, Int.reduceAdd, Int.reduceEq, Int.reduceLE, Int.reduceLT, Nat.reduceLT, Nat.reduceLeDiff]); done)
      focus ((simp only [push_cast, ↓branch_true, ↓branch_false, Nat.reduceBEq, Nat.reduceAdd, Nat.reduceMul, Nat.reduceSub, Int.reduceToNat, reduceCtorEq, Int.reduceAdd, Int.reduceEq, Int.reduceLE, Int.reduceLT, Nat.reduceLT, Nat.reduceLeDiff]); done))
  all_goals
    refine sp_at (cloneP_sp l c (by omega)) [0] (by kernel_rfl) ?_ ?_ ?_
    · simp only [push_cast, ↓branch_true, ↓branch_false, Nat.reduceBEq, Nat.reduceAdd, Nat.reduceMul, Nat.reduceSub, Int.reduceToNat, reduceCtorEq, Int.reduceAdd, Int.reduceEq, Int.reduceLE, Int.reduceLT, Nat.reduceLT, Nat.reduceLeDiff]
    · simp only [push_cast, ↓branch_true, ↓branch_false, Nat.reduceBEq, Nat.reduceAdd, Nat.reduceMul, Nat.reduceSub, Int.reduceToNat, reduceCtorEq, Int.reduceAdd, Int.reduceEq, Int.reduceLE, Int.reduceLT, Nat.reduceLT, Nat.reduceLeDiff]
    rintro _ _ ⟨cap4, hcap4, rfl, rfl⟩
    simp only [push_cast, ↓branch_true, ↓branch_false, Nat.reduceBEq, Nat.reduceAdd, Nat.reduceMul, Nat.reduceSub, Int.reduceToNat, reduceCtorEq, Int.reduceAdd, Int.reduceEq, Int.reduceLE, Int.reduceLT, Nat.reduceLT, Nat.reduceLeDiff]
    refine tr_loop mixed (by kernel_rfl) (fun (q : Nat) => [(92, .v (.int .i64 q)), (91, .v (.int .i64 l.length)), (20, .s 5 0 0 l.length cap4 2), (0, .v (.int .i64 lim)), (3, .v (.int .u8 by_)), (11, .f (.func 25) [] [.p 2 0 0]), (12, .p 3 0 0)])
      (fun q => [rPc l, ⟨45, true, .st (cPc mo)⟩, ⟨3, true, .st [.v (.int .i64 k)]⟩, ⟨46, false, .st [.v (.int .i64 (matR lim l)), .v (.int .i64 (largT lim l l.length)), .v (.int .i64 (bestR lim l)), .v (.int .i64 (dualR lim (kkT k) l))]⟩, ⟨46, false, .st [.v (.int .i64 w0), .v (.int .i64 w1), .v (.int .i64 w2), .v (.int .i64 w3)]⟩, rPO (scH by_ l q) cap4]) (fun q => q ≤ l.length) (fun q => l.length - q) 0 (Nat.zero_le _) (Mt.wk (rl := [0, 1, 2, 3, 4, 5]) ⟨by kernel_rfl, ?_, ?_⟩) ?_
    · simp only [push_cast, ↓branch_true, ↓branch_false, Nat.reduceBEq, Nat.reduceAdd, Nat.reduceMul, Nat.reduceSub, Int.reduceToNat, reduceCtorEq, Int.reduceAdd, Int.reduceEq, Int.reduceLE, Int.reduceLT, Nat.reduceLT, Nat.reduceLeDiff]
    · simp only [push_cast, ↓branch_true, ↓branch_false, Nat.reduceBEq, Nat.reduceAdd, Nat.reduceMul, Nat.reduceSub, Int.reduceToNat, reduceCtorEq, Int.reduceAdd, Int.reduceEq, Int.reduceLE, Int.reduceLT, Nat.reduceLT, Nat.reduceLeDiff, scH_len]
      intro _ _ q hq
      rw [scH_ix hq, if_neg (by omega)]
      exact ⟨rfl, rfl⟩
    intro q hq
    simp only [push_cast, ↓branch_true, ↓branch_false, Nat.reduceBEq, Nat.reduceAdd, Nat.reduceMul, Nat.reduceSub, Int.reduceToNat, reduceCtorEq, Int.reduceAdd, Int.reduceEq, Int.reduceLE, Int.reduceLT, Nat.reduceLT, Nat.reduceLeDiff, scH_len]
    refine ⟨fun h => ?_, fun h => ?_⟩
    · have hk1 : q < l.length := by omega
      obtain ⟨b1, b2, b3, b4⟩ := order_at ho hk1
      have b5 := mulB (show 0 ≤ (ix l q).len by omega) b2 hby.1 hby.2
      rw [scH_ix hk1, if_neg (by omega)]
      repeat (with_reducible refine And.intro (by omega) ?_)
      refine lpK_normal (q + 1) [0, 1, 2, 3, 4, 5] (by omega) (by omega) (by kernel_rfl) ?_ ?_
      · simp only [push_cast, ↓branch_true, ↓branch_false, Nat.reduceBEq, Nat.reduceAdd, Nat.reduceMul, Nat.reduceSub, Int.reduceToNat, reduceCtorEq, Int.reduceAdd, Int.reduceEq, Int.reduceLE, Int.reduceLT, Nat.reduceLT, Nat.reduceLeDiff]
      · simp only [push_cast, ↓branch_true, ↓branch_false, Nat.reduceBEq, Nat.reduceAdd, Nat.reduceMul, Nat.reduceSub, Int.reduceToNat, reduceCtorEq, Int.reduceAdd, Int.reduceEq, Int.reduceLE, Int.reduceLT, Nat.reduceLT, Nat.reduceLeDiff, scH_len]
        intro i9 hi9 p hp
        obtain rfl : i9 = 0 := by omega
        rw [scH_ix hp, scH_ix hp]
        by_cases e : p = q
        · subst e
          rw [if_pos (by omega), if_neg (by omega)]
          have hb : (p == p) = true := by simp
          rw [hb]
          simp [mrgL, mtL]
        · have hb : (p == q) = false := by simpa using e
          rw [hb]
          by_cases e2 : p < q
          · rw [if_pos e2, if_pos (by omega)]
            simp [mrgL, mtL]
          · rw [if_neg e2, if_neg (by omega)]
            simp [mrgL, mtL]
    obtain rfl : q = l.length := by omega
    have b6 := mulB (show 0 ≤ lim by omega) h2 hby.1 hby.2
    repeat (with_reducible refine And.intro (by omega) ?_)
    have hb4 := bnds_pu (lim * by_) (scP by_ l) cap4 k (by rw [scP_len]; omega)
    have hcs := giv_scale (t := by_) (by omega) ho h1 h3
    unfold b4 at hb4
    rw [scP_len] at hb4
    refine sp_call hb4 rfl [5, 2] rfl ?_ ?_ ?_
    · simp only [push_cast, ↓branch_true, ↓branch_false, Nat.reduceBEq, Nat.reduceAdd, Nat.reduceMul, Nat.reduceSub, Int.reduceToNat, reduceCtorEq, Int.reduceAdd, Int.reduceEq, Int.reduceLE, Int.reduceLT, Nat.reduceLT, Nat.reduceLeDiff]
    · simp only [push_cast, ↓branch_true, ↓branch_false, Nat.reduceBEq, Nat.reduceAdd, Nat.reduceMul, Nat.reduceSub, Int.reduceToNat, reduceCtorEq, Int.reduceAdd, Int.reduceEq, Int.reduceLE, Int.reduceLT, Nat.reduceLT, Nat.reduceLeDiff, scH_len, scP_len]
      intro _ _ p hp
      rw [scH_ix hp, if_pos hp, scP_ix hp]
      exact ⟨rfl, rfl⟩
    by_cases h9 : givE (lim * by_) (scP by_ l) = 0
    · rw [h9]
      have ht : 1 ≤ by_ := by omega
      have hls := larg_scale (lim := lim) (l := l) ht
      rw [scP_len] at hls
      simp only [ze, if_pos h9, mat_scale ho h1 ht, hls, best_scale ho h1 ht, dual_scale h1 ht]
      simp only [push_cast, ↓branch_true, ↓branch_false, Nat.reduceBEq, Nat.reduceAdd, Nat.reduceMul, Nat.reduceSub, Int.reduceToNat, reduceCtorEq, Int.reduceAdd, Int.reduceEq, Int.reduceLE, Int.reduceLT, Nat.reduceLT, Nat.reduceLeDiff]
      exact agg46 _ _ _ _ _ _ _ _
    · simp only [push_cast, ↓branch_true, ↓branch_false, Nat.reduceBEq, Nat.reduceAdd, Nat.reduceMul, Nat.reduceSub, Int.reduceToNat, reduceCtorEq, Int.reduceAdd, Int.reduceEq, Int.reduceLE, Int.reduceLT, Nat.reduceLT, Nat.reduceLeDiff]
      exact fun n1 n2 => by omega
end Go.Proofs.Ytdeaaonppokgkaa.Pat
