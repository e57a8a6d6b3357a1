/- FrameBoxes by the executor: the law. -/
import Derived.Test.YtjpnijnbfjgnfaaFB
set_option maxRecDepth 100000
set_option linter.unusedSimpArgs false
set_option linter.unusedVariables false
set_option linter.unusedSimpArgs false
set_option linter.unusedVariables false
namespace Go.Proofs.Ytjpnijnbfjgnfaa.X
open Go.RowKit
theorem agg_same3 {P : Program} {t : TypeId} (f0 f1 f2 : Field) (h1 : P.eqGuardType P.depth t = false) (h2 : P.underlying t = some (.struct (P.fieldsOf t))) (h3 : P.stoodInHeld t = false)
    (h4 : (P.fieldsOf t).toList = [f0, f1, f2]) (n0 : (f0.name == "_") = false) (n1 : (f1.name == "_") = false) (n2 : (f2.name == "_") = false) (o0 : f0.offset = 0) (o1 : f1.offset = 1) (o2 : f2.offset = 2) (t0 : P.underlying f0.type = some (.int .i64)) (t1 : P.underlying f1.type = some (.int .i64)) (t2 : P.underlying f2.type = some (.int .i64))
    (a b c : Int) : AggEq P t [.int .i64 a, .int .i64 b, .int .i64 c] [.int .i64 a, .int .i64 b, .int .i64 c] := by
  intro op x y w
  refine ⟨run_eqGuard_agg w op t x y _ _ h1, ?_⟩
  simp only [Op.equal, Op.maxDepth]
  rw [run_equalIn_agg w 9999 t _ _ h2 h3, h4]
  have n0 : f0.name ≠ "_" := by simpa using n0
  have n1 : f1.name ≠ "_" := by simpa using n1
  have n2 : f2.name ≠ "_" := by simpa using n2
  simp only [Op.eqFields, n0, n1, n2, ne_eq, not_false_eq_true, if_true, Sem.run_bind, o0, o1, o2]
  have p : ∀ (f : TypeId) (xs : Array Value) (off : Nat) (v : Value), P.underlying f = some (.int .i64) → xs[off]? = some v → (part f xs off).run P w = .ok v w := fun f xs off v hu hx => by
    simp [part, isAgg, Sem.run_bind, run_underlying hu, hx, Result.andThen, Sem.run_pure]
  rw [p _ _ _ (.int .i64 a) t0 rfl]
  simp only [Result.andThen_ok]
  rw [p _ _ _ (.int .i64 a) t0 rfl]
  simp only [Result.andThen_ok, run_equalIn_int w 9998 _ _ _ a a t0]
  simp only [beq_self_eq_true, Bool.not_true, Bool.false_eq_true, if_false, Sem.run_bind]
  rw [p _ _ _ (.int .i64 b) t1 rfl]
  simp only [Result.andThen_ok]
  rw [p _ _ _ (.int .i64 b) t1 rfl]
  simp only [Result.andThen_ok, run_equalIn_int w 9998 _ _ _ b b t1]
  simp only [beq_self_eq_true, Bool.not_true, Bool.false_eq_true, if_false, Sem.run_bind]
  rw [p _ _ _ (.int .i64 c) t2 rfl]
  simp only [Result.andThen_ok]
  rw [p _ _ _ (.int .i64 c) t2 rfl]
  simp only [Result.andThen_ok, run_equalIn_int w 9998 _ _ _ c c t2]
  simp [Sem.run_pure, eqLB]
theorem agg37 (a b c : Int) : AggEq Try.prog 37 [.int .i64 a, .int .i64 b, .int .i64 c] [.int .i64 a, .int .i64 b, .int .i64 c] :=
  agg_same3 (Try.prog.fieldsOf 37)[0]! (Try.prog.fieldsOf 37)[1]! (Try.prog.fieldsOf 37)[2]! (by kernel_rfl) (by kernel_rfl) (by kernel_rfl) (by kernel_rfl) (by kernel_rfl) (by kernel_rfl) (by kernel_rfl) (by kernel_rfl) (by kernel_rfl) (by kernel_rfl) (by kernel_rfl) (by kernel_rfl) (by kernel_rfl) a b c
theorem mtl3 (rl : List Nat) (p q r : Int) {k : Nat} (hk : k < 3) : mtL rl [SV.v (.int .i64 (ix [p, q, r] k))] (List.take 1 (List.drop (k * 1) [.v (.int .i64 p), .v (.int .i64 q), .v (.int .i64 r)])) := by
  rcases (by omega : k = 0 ∨ k = 1 ∨ k = 2) with rfl | rfl | rfl
  · simp only [push_cast, ↓branch_true, ↓branch_false, Nat.reduceBEq, Nat.reduceAdd, Nat.reduceMul, Nat.reduceSub, Int.reduceToNat, reduceCtorEq, branch_decide, branch_not, branch_beq, branch_bne]
    try trivial
  · simp only [push_cast, ↓branch_true, ↓branch_false, Nat.reduceBEq, Nat.reduceAdd, Nat.reduceMul, Nat.reduceSub, Int.reduceToNat, reduceCtorEq, branch_decide, branch_not, branch_beq, branch_bne]
    try trivial
  · simp only [push_cast, ↓branch_true, ↓branch_false, Nat.reduceBEq, Nat.reduceAdd, Nat.reduceMul, Nat.reduceSub, Int.reduceToNat, reduceCtorEq, branch_decide, branch_not, branch_beq, branch_bne]
    try trivial
theorem nearP {p q r : Int} (h : neB p q r = true) : inn p ∧ inn q ∧ inn r := by
  unfold neB wiB at h
  simp only [Bool.and_eq_true, decide_eq_true_eq] at h
  exact ⟨h.1, h.2.1, h.2.2⟩
theorem nearI {p q r : Int} (h0 : inn p) (h1 : inn q) (h2 : inn r) : neB p q r = true := by
  unfold inn at *
  unfold neB wiB
  simp only [Bool.and_eq_true, decide_eq_true_eq]
  omega
set_option maxHeartbeats 4000000 in
theorem lboxes_sp (x y a b c l0 l1 l2 h0 h1 h2 u0 u1 u2 : Int) (hu0 : 0 ≤ u0 ∧ u0 ≤ 65535) (hu1 : 0 ≤ u1 ∧ u1 ≤ 65535) (hu2 : 0 ≤ u2 ∧ u2 ≤ 65535) :
    Sp Try.prog 9 [s2 x y, s3 a b c, s6 l0 l1 l2 h0 h1 h2, .v (.int .u16 u0), .v (.int .u16 u1), .v (.int .u16 u2)] [] (fun r H => r = .v (.bool true)) := by
  refine sp_weak ?_
  refine sp_of_ex false [(8, .jn (.pre [2, 5] [0, 1, 2, 3, 4, 5, 6, 9, 10, 11, 12, 13, 14, 15, 18, 19, 20, 21, 22, 23, 24] (.alt [(7, .one 8 (.alt [(16, .one 17 (.alt [(25, .one 26 (.one 27 (.one 28 (.one 29 .fin)))), (28, .one 25 (.one 26 (.one 27 (.one 29 .fin))))])), (28, .one 16 (.one 17 (.one 25 (.one 26 (.one 27 (.one 29 .fin))))))])), (28, .one 7 (.one 8 (.one 16 (.one 17 (.one 25 (.one 26 (.one 27 (.one 29 .fin))))))))]))), (19, .jn (.pre [4, 7] [0, 1, 2, 3, 4, 5, 7, 8, 9, 10, 11, 12] (.alt [(6, .one 14 (.one 13 (.one 15 .fin))), (13, .one 6 (.one 14 (.one 15 .fin)))]))), (23, .jn (.one 0 (.one 1 (.one 2 (.one 3 (.one 4 (.one 5 (.one 6 (.one 7 (.one 8 (.one 9 (.alt [(10, .alt [(11, .alt [(12, .one 13 (.one 14 (.one 15 (.one 16 .fin)))), (13, .one 12 (.one 14 (.one 15 (.one 16 .fin))))]), (13, .one 11 (.one 12 (.one 14 (.one 15 (.one 16 .fin)))))]), (11, .alt [(10, .alt [(12, .one 13 (.one 14 (.one 15 (.one 16 .fin)))), (13, .one 12 (.one 14 (.one 15 (.one 16 .fin))))]), (13, .one 10 (.one 12 (.one 14 (.one 15 (.one 16 .fin)))))]), (13, .alt [(10, .one 11 (.one 12 (.one 14 (.one 15 (.one 16 .fin))))), (11, .one 10 (.one 12 (.one 14 (.one 15 (.one 16 .fin)))))])]))))))))))))] mixed Try.call9 Try.func9 rfl Try.ntmps9 Try.results9 (by decide +kernel) rfl ?_
  simp only [push_cast, ↓branch_true, ↓branch_false, Nat.reduceBEq, Nat.reduceAdd, Nat.reduceMul, Nat.reduceSub, Int.reduceToNat, reduceCtorEq, branch_decide, branch_not, branch_beq, branch_bne]
  refine sp_call (awake_pu) rfl [] rfl (by simp only [push_cast, ↓branch_true, ↓branch_false, Nat.reduceBEq, Nat.reduceAdd, Nat.reduceMul, Nat.reduceSub, Int.reduceToNat, reduceCtorEq, branch_decide, branch_not, branch_beq, branch_bne]) (by simp only [push_cast, ↓branch_true, ↓branch_false, Nat.reduceBEq, Nat.reduceAdd, Nat.reduceMul, Nat.reduceSub, Int.reduceToNat, reduceCtorEq, branch_decide, branch_not, branch_beq, branch_bne]) ?_
  simp only [push_cast, ↓branch_true, ↓branch_false, Nat.reduceBEq, Nat.reduceAdd, Nat.reduceMul, Nat.reduceSub, Int.reduceToNat, reduceCtorEq, branch_decide, branch_not, branch_beq, branch_bne]
  repeat (with_reducible refine And.intro (by omega) ?_)
  refine sp_call (ready_pu x y [⟨a, b, c⟩, ⟨l0, l1, l2⟩, ⟨h0, h1, h2⟩] 3 (by simp)) rfl [3] rfl ?_ ?_ ?_
  · simp only [push_cast, ↓branch_true, ↓branch_false, Nat.reduceBEq, Nat.reduceAdd, Nat.reduceMul, Nat.reduceSub, Int.reduceToNat, reduceCtorEq, branch_decide, branch_not, branch_beq, branch_bne]
    try trivial
  · simp only [push_cast, ↓branch_true, ↓branch_false, Nat.reduceBEq, Nat.reduceAdd, Nat.reduceMul, Nat.reduceSub, Int.reduceToNat, reduceCtorEq, branch_decide, branch_not, branch_beq, branch_bne]
    intro i hi k hk
    obtain rfl : i = 0 := by omega
    have hk : k < 3 := hk
    rcases (by omega : k = 0 ∨ k = 1 ∨ k = 2) with rfl | rfl | rfl
    · simp only [push_cast, ↓branch_true, ↓branch_false, Nat.reduceBEq, Nat.reduceAdd, Nat.reduceMul, Nat.reduceSub, Int.reduceToNat, reduceCtorEq, branch_decide, branch_not, branch_beq, branch_bne]
      try trivial
    · simp only [push_cast, ↓branch_true, ↓branch_false, Nat.reduceBEq, Nat.reduceAdd, Nat.reduceMul, Nat.reduceSub, Int.reduceToNat, reduceCtorEq, branch_decide, branch_not, branch_beq, branch_bne]
      try trivial
    · simp only [push_cast, ↓branch_true, ↓branch_false, Nat.reduceBEq, Nat.reduceAdd, Nat.reduceMul, Nat.reduceSub, Int.reduceToNat, reduceCtorEq, branch_decide, branch_not, branch_beq, branch_bne]
      try trivial
  cases hr : rdyB x y [⟨a, b, c⟩, ⟨l0, l1, l2⟩, ⟨h0, h1, h2⟩] with
  | false =>
    simp only [push_cast, ↓branch_true, ↓branch_false, Nat.reduceBEq, Nat.reduceAdd, Nat.reduceMul, Nat.reduceSub, Int.reduceToNat, reduceCtorEq, branch_decide, branch_not, branch_beq, branch_bne]
    refine ⟨_, [], [], ?_, rfl, ?_, rfl⟩
    · simp only [push_cast, ↓branch_true, ↓branch_false, Nat.reduceBEq, Nat.reduceAdd, Nat.reduceMul, Nat.reduceSub, Int.reduceToNat, reduceCtorEq, branch_decide, branch_not, branch_beq, branch_bne]
    · simp only [push_cast, ↓branch_true, ↓branch_false, Nat.reduceBEq, Nat.reduceAdd, Nat.reduceMul, Nat.reduceSub, Int.reduceToNat, reduceCtorEq, branch_decide, branch_not, branch_beq, branch_bne]
  | true =>
  obtain ⟨ht, hp⟩ := rdy_mem hr
  have na := hp _ (.head _)
  have nl := hp _ (.tail _ (.head _))
  have nh := hp _ (.tail _ (.tail _ (.head _)))
  clear hp
  have hv := allL_vld _ ht
  simp only [push_cast, ↓branch_true, ↓branch_false, Nat.reduceBEq, Nat.reduceAdd, Nat.reduceMul, Nat.reduceSub, Int.reduceToNat, reduceCtorEq, branch_decide, branch_not, branch_beq, branch_bne]
  refine ⟨fun _ => ?_, fun q1 => ⟨fun _ => ?_, fun q2 => ⟨fun _ => ?_, fun q3 => ?_⟩⟩⟩
  iterate 3
    rotate_left
  rotate_right
  rotate_right
  rotate_right
  · refine ⟨_, [], [], ?_, rfl, ?_, rfl⟩
    · simp only [push_cast, ↓branch_true, ↓branch_false, Nat.reduceBEq, Nat.reduceAdd, Nat.reduceMul, Nat.reduceSub, Int.reduceToNat, reduceCtorEq, branch_decide, branch_not, branch_beq, branch_bne]
    · simp only [push_cast, ↓branch_true, ↓branch_false, Nat.reduceBEq, Nat.reduceAdd, Nat.reduceMul, Nat.reduceSub, Int.reduceToNat, reduceCtorEq, branch_decide, branch_not, branch_beq, branch_bne]
  · refine ⟨_, [], [], ?_, rfl, ?_, rfl⟩
    · simp only [push_cast, ↓branch_true, ↓branch_false, Nat.reduceBEq, Nat.reduceAdd, Nat.reduceMul, Nat.reduceSub, Int.reduceToNat, reduceCtorEq, branch_decide, branch_not, branch_beq, branch_bne]
    · simp only [push_cast, ↓branch_true, ↓branch_false, Nat.reduceBEq, Nat.reduceAdd, Nat.reduceMul, Nat.reduceSub, Int.reduceToNat, reduceCtorEq, branch_decide, branch_not, branch_beq, branch_bne]
  · refine ⟨_, [], [], ?_, rfl, ?_, rfl⟩
    · simp only [push_cast, ↓branch_true, ↓branch_false, Nat.reduceBEq, Nat.reduceAdd, Nat.reduceMul, Nat.reduceSub, Int.reduceToNat, reduceCtorEq, branch_decide, branch_not, branch_beq, branch_bne]
    · simp only [push_cast, ↓branch_true, ↓branch_false, Nat.reduceBEq, Nat.reduceAdd, Nat.reduceMul, Nat.reduceSub, Int.reduceToNat, reduceCtorEq, branch_decide, branch_not, branch_beq, branch_bne]
  replace q1 : l0 ≤ h0 := by omega
  replace q2 : l1 ≤ h1 := by omega
  replace q3 : l2 ≤ h2 := by omega
  have hb : boxOK l0 l1 l2 h0 h1 h2 = true := decide_eq_true ⟨q1, q2, q3⟩
  obtain ⟨ia, ib, ic⟩ := nearP (show neB a b c = true from na)
  obtain ⟨il0, il1, il2⟩ := nearP (show neB l0 l1 l2 = true from nl)
  obtain ⟨ih0, ih1, ih2⟩ := nearP (show neB h0 h1 h2 = true from nh)
  have w1 : ∀ n : Int, -4000000 ≤ n → n ≤ 4000000 → wrap64 n = n := fun n h1 h2 => IntWalk.wrap64_in _ (by omega)
  unfold inn at ia ib ic il0 il1 il2 ih0 ih1 ih2
  have r0 := prt_in (d := h0 - l0) (by omega) hu0
  have r1 := prt_in (d := h1 - l1) (by omega) hu1
  have r2 := prt_in (d := h2 - l2) (by omega) hu2
  have Q0 := part_pu (h0 - l0) u0 (by omega) (by omega) hu0
  have Q1 := part_pu (h1 - l1) u1 (by omega) (by omega) hu1
  have Q2 := part_pu (h2 - l2) u2 (by omega) (by omega) hu2
  generalize prt (h0 - l0) u0 = t0 at *
  generalize prt (h1 - l1) u1 = t1 at *
  generalize prt (h2 - l2) u2 = t2 at *
  have e0 : IntKind.i64.wrap (l0 + t0) = l0 + t0 := by rw [IntKind.wrap_i64]; omega
  have e1 : IntKind.i64.wrap (l1 + t1) = l1 + t1 := by rw [IntKind.wrap_i64]; omega
  have e2 : IntKind.i64.wrap (l2 + t2) = l2 + t2 := by rw [IntKind.wrap_i64]; omega
  have nP : neP ⟨l0 + t0, l1 + t1, l2 + t2⟩ = true := nearI (p := l0 + t0) (q := l1 + t1) (r := l2 + t2) (by unfold inn; omega) (by unfold inn; omega) (by unfold inn; omega)
  obtain ⟨gp, gin⟩ := geo (mat_pat _ ht) (a := a) (b := b) (c := c) ia ib ic (lo := ⟨l0, l1, l2⟩) (hi := ⟨h0, h1, h2⟩) il0 il1 il2 ih0 ih1 ih2 q1 q2 q3
  have xl := (cx_ap ht nl).1
  have xh := (cx_ap ht nh).1
  have xp := (cx_ap ht nP).1
  have gP := gin ⟨l0 + t0, l1 + t1, l2 + t2⟩ (by simp only; omega) (by simp only; omega) (by simp only; omega) (by simp only; omega) (by simp only; omega) (by simp only; omega)
  have gL := gin ⟨l0, l1, l2⟩ (Int.le_refl _) q1 (Int.le_refl _) q2 (Int.le_refl _) q3
  have gH := gin ⟨h0, h1, h2⟩ q1 (Int.le_refl _) q2 (Int.le_refl _) q3 (Int.le_refl _)
  have nap := (cx_ap ht nP).2
  have PA := apply_pu ht nP
  have HB := box_pu x y a b c l0 l1 l2 h0 h1 h2 hv hb (by unfold near3; rw [show neB a b c = true from na, show neB l0 l1 l2 = true from nl, show neB h0 h1 h2 = true from nh]; rfl)
  have HP := path_sp x y a b c [⟨l0 + t0, l1 + t1, l2 + t2⟩, ⟨l0, l1, l2⟩, ⟨h0, h1, h2⟩] 3 hv (by simp) na (by simp [List.all_cons, nP, show neP ⟨l0, l1, l2⟩ = true from nl, show neP ⟨h0, h1, h2⟩ = true from nh])
  have M1 := minus_pu h0 h1 h2 l0 l1 l2
  rw [w1 (h0 - l0) (by omega) (by omega), w1 (h1 - l1) (by omega) (by omega), w1 (h2 - l2) (by omega) (by omega)] at M1
  simp only [← xl, ← xh, ← xp] at gp gP gL gH PA nap
  obtain ⟨ik0, ik1, ik2⟩ := nearP (show neB (Cx0 x y (l0 + t0) (l1 + t1) (l2 + t2)) (Cx1 x y (l0 + t0) (l1 + t1) (l2 + t2)) (Cx2 x y (l0 + t0) (l1 + t1) (l2 + t2)) = true from nap)
  unfold inn at ik0 ik1 ik2
  unfold pl at HB
  simp only [List.map_cons, List.map_nil, plP, List.length_cons, List.length_nil, Nat.zero_add, Nat.reduceAdd] at HP
  generalize wrap64 (a + Cx0 x y l0 l1 l2) = L0 at *
  generalize wrap64 (b + Cx1 x y l0 l1 l2) = L1 at *
  generalize wrap64 (c + Cx2 x y l0 l1 l2) = L2 at *
  generalize wrap64 (a + Cx0 x y h0 h1 h2) = H0 at *
  generalize wrap64 (b + Cx1 x y h0 h1 h2) = H1 at *
  generalize wrap64 (c + Cx2 x y h0 h1 h2) = H2 at *
  generalize Cx0 x y (l0 + t0) (l1 + t1) (l2 + t2) = k0 at *
  generalize Cx1 x y (l0 + t0) (l1 + t1) (l2 + t2) = k1 at *
  generalize Cx2 x y (l0 + t0) (l1 + t1) (l2 + t2) = k2 at *
  have M3 := minus_pu (wrap64 (a + k0)) (wrap64 (b + k1)) (wrap64 (c + k2)) k0 k1 k2
  rw [w1 (a + k0) (by omega) (by omega), w1 (b + k1) (by omega) (by omega), w1 (c + k2) (by omega) (by omega), show wrap64 (a + k0 - k0) = a by rw [w1] <;> omega, show wrap64 (b + k1 - k1) = b by rw [w1] <;> omega, show wrap64 (c + k2 - k2) = c by rw [w1] <;> omega, ← w1 (a + k0) (by omega) (by omega), ← w1 (b + k1) (by omega) (by omega), ← w1 (c + k2) (by omega) (by omega)] at M3
  generalize wrap64 (a + k0) = P0 at *
  generalize wrap64 (b + k1) = P1 at *
  generalize wrap64 (c + k2) = P2 at *
  generalize mn L0 H0 = m0 at *
  generalize mn L1 H1 = m1 at *
  generalize mn L2 H2 = m2 at *
  generalize mx L0 H0 = n0 at *
  generalize mx L1 H1 = n1 at *
  generalize mx L2 H2 = n2 at *
  have M2 := minus_pu n0 n1 n2 m0 m1 m2
  generalize wrap64 (n0 - m0) = c0 at *
  generalize wrap64 (n1 - m1) = c1 at *
  generalize wrap64 (n2 - m2) = c2 at *
  obtain ⟨O, hO⟩ : ∃ O : List Pt, O = [⟨P0, P1, P2⟩, ⟨L0, L1, L2⟩, ⟨H0, H1, H2⟩] := ⟨_, rfl⟩
  have hE : ∀ k, k < 3 → (m0 ≤ (ix O k).x ∧ (ix O k).x ≤ n0) ∧ (m1 ≤ (ix O k).y ∧ (ix O k).y ≤ n1) ∧ (m2 ≤ (ix O k).z ∧ (ix O k).z ≤ n2) := fun k hk => by
    rcases (by omega : k = 0 ∨ k = 1 ∨ k = 2) with rfl | rfl | rfl
    · subst hO; exact gP
    · subst hO; exact gL
    · subst hO; exact gH
  have hO0 : (ix O 0).x = P0 ∧ (ix O 0).y = P1 ∧ (ix O 0).z = P2 := by subst hO; exact ⟨rfl, rfl, rfl⟩
  have hOl : O.length = 3 := by rw [hO]; rfl
  rw [← hO] at HP
  generalize h0 - l0 = d0 at *
  generalize h1 - l1 = d1 at *
  generalize h2 - l2 = d2 at *
  clear hO gP gL gH hr xl xh xp nap ik0 ik1 ik2 nP r0 r1 r2 w1 ia ib ic il0 il1 il2 ih0 ih1 ih2 gin na nl nh hv hb ht hu0 hu1 hu2 q1 q2 q3
  refine sp_call (HB) rfl [] rfl (by simp only [push_cast, ↓branch_true, ↓branch_false, Nat.reduceBEq, Nat.reduceAdd, Nat.reduceMul, Nat.reduceSub, Int.reduceToNat, reduceCtorEq, branch_decide, branch_not, branch_beq, branch_bne]) (by simp only [push_cast, ↓branch_true, ↓branch_false, Nat.reduceBEq, Nat.reduceAdd, Nat.reduceMul, Nat.reduceSub, Int.reduceToNat, reduceCtorEq, branch_decide, branch_not, branch_beq, branch_bne]) ?_
  simp only [push_cast, ↓branch_true, ↓branch_false, Nat.reduceBEq, Nat.reduceAdd, Nat.reduceMul, Nat.reduceSub, Int.reduceToNat, reduceCtorEq, branch_decide, branch_not, branch_beq, branch_bne]
  refine sp_call (M1) rfl [] rfl (by simp only [push_cast, ↓branch_true, ↓branch_false, Nat.reduceBEq, Nat.reduceAdd, Nat.reduceMul, Nat.reduceSub, Int.reduceToNat, reduceCtorEq, branch_decide, branch_not, branch_beq, branch_bne]) (by simp only [push_cast, ↓branch_true, ↓branch_false, Nat.reduceBEq, Nat.reduceAdd, Nat.reduceMul, Nat.reduceSub, Int.reduceToNat, reduceCtorEq, branch_decide, branch_not, branch_beq, branch_bne]) ?_
  simp only [push_cast, ↓branch_true, ↓branch_false, Nat.reduceBEq, Nat.reduceAdd, Nat.reduceMul, Nat.reduceSub, Int.reduceToNat, reduceCtorEq, branch_decide, branch_not, branch_beq, branch_bne]
  refine ⟨[(17, .p 5 0 0), (15, .p 4 0 0), (14, .v (.int .i64 0)), (13, .p 3 0 0), (8, .p 2 0 0), (7, .p 1 0 0), (6, .p 0 0 0)], [⟨23, false, .st [.v (.int .i64 x), .v (.int .i64 y)]⟩, ⟨37, false, .st [.v (.int .i64 a), .v (.int .i64 b), .v (.int .i64 c)]⟩, ⟨50, true, .st [.v (.int .i64 l0), .v (.int .i64 l1), .v (.int .i64 l2), .v (.int .i64 h0), .v (.int .i64 h1), .v (.int .i64 h2)]⟩, ⟨50, false, .st [.v (.int .i64 m0), .v (.int .i64 m1), .v (.int .i64 m2), .v (.int .i64 n0), .v (.int .i64 n1), .v (.int .i64 n2)]⟩, ⟨37, true, .st [.v (.int .i64 d0), .v (.int .i64 d1), .v (.int .i64 d2)]⟩, ⟨37, false, .st [.v (.int .i64 (l0 + t0)), .v (.int .i64 (l1 + t1)), .v (.int .i64 (l2 + t2))]⟩], ?_, ?_⟩
  · repeat' (first
      | (with_reducible apply And.intro)
      | (refine sp_call (args := [.v (.int .i64 d0), .v (.int .u16 u0)]) Q0 rfl [] rfl (by (simp only [push_cast, ↓branch_true, ↓branch_false, Nat.reduceBEq, Nat.reduceAdd, Nat.reduceMul, Nat.reduceSub, Int.reduceToNat, reduceCtorEq, branch_decide, branch_not, branch_beq, branch_bne])) (by (simp only [push_cast, ↓branch_true, ↓branch_false, Nat.reduceBEq, Nat.reduceAdd, Nat.reduceMul, Nat.reduceSub, Int.reduceToNat, reduceCtorEq, branch_decide, branch_not, branch_beq, branch_bne])) ?_; (simp only [push_cast, ↓branch_true, ↓branch_false, Nat.reduceBEq, Nat.reduceAdd, Nat.reduceMul, Nat.reduceSub, Int.reduceToNat, reduceCtorEq, branch_decide, branch_not, branch_beq, branch_bne]))
      | (refine sp_call (args := [.v (.int .i64 d1), .v (.int .u16 u1)]) Q1 rfl [] rfl (by (simp only [push_cast, ↓branch_true, ↓branch_false, Nat.reduceBEq, Nat.reduceAdd, Nat.reduceMul, Nat.reduceSub, Int.reduceToNat, reduceCtorEq, branch_decide, branch_not, branch_beq, branch_bne])) (by (simp only [push_cast, ↓branch_true, ↓branch_false, Nat.reduceBEq, Nat.reduceAdd, Nat.reduceMul, Nat.reduceSub, Int.reduceToNat, reduceCtorEq, branch_decide, branch_not, branch_beq, branch_bne])) ?_; (simp only [push_cast, ↓branch_true, ↓branch_false, Nat.reduceBEq, Nat.reduceAdd, Nat.reduceMul, Nat.reduceSub, Int.reduceToNat, reduceCtorEq, branch_decide, branch_not, branch_beq, branch_bne]))
      | (refine sp_call (args := [.v (.int .i64 d2), .v (.int .u16 u2)]) Q2 rfl [] rfl (by (simp only [push_cast, ↓branch_true, ↓branch_false, Nat.reduceBEq, Nat.reduceAdd, Nat.reduceMul, Nat.reduceSub, Int.reduceToNat, reduceCtorEq, branch_decide, branch_not, branch_beq, branch_bne])) (by (simp only [push_cast, ↓branch_true, ↓branch_false, Nat.reduceBEq, Nat.reduceAdd, Nat.reduceMul, Nat.reduceSub, Int.reduceToNat, reduceCtorEq, branch_decide, branch_not, branch_beq, branch_bne])) ?_; (simp only [push_cast, ↓branch_true, ↓branch_false, Nat.reduceBEq, Nat.reduceAdd, Nat.reduceMul, Nat.reduceSub, Int.reduceToNat, reduceCtorEq, branch_decide, branch_not, branch_beq, branch_bne])))
    all_goals
      refine Mt.wk (rl := [0, 1, 2, 4, 5, 6]) ⟨by kernel_rfl, ?_, ?_⟩
      · (simp only [push_cast, ↓branch_true, ↓branch_false, Nat.reduceBEq, Nat.reduceAdd, Nat.reduceMul, Nat.reduceSub, Int.reduceToNat, reduceCtorEq, branch_decide, branch_not, branch_beq, branch_bne])
        try trivial
      · (simp only [push_cast, ↓branch_true, ↓branch_false, Nat.reduceBEq, Nat.reduceAdd, Nat.reduceMul, Nat.reduceSub, Int.reduceToNat, reduceCtorEq, branch_decide, branch_not, branch_beq, branch_bne])
        try simp only [e0, e1, e2, and_self]
  simp only [push_cast, ↓branch_true, ↓branch_false, Nat.reduceBEq, Nat.reduceAdd, Nat.reduceMul, Nat.reduceSub, Int.reduceToNat, reduceCtorEq, branch_decide, branch_not, branch_beq, branch_bne, jnK]
  repeat (with_reducible refine And.intro (by omega) ?_)
  refine sp_at HP [6] rfl ?_ ?_ ?_
  · simp only [push_cast, ↓branch_true, ↓branch_false, Nat.reduceBEq, Nat.reduceAdd, Nat.reduceMul, Nat.reduceSub, Int.reduceToNat, reduceCtorEq, branch_decide, branch_not, branch_beq, branch_bne]
    try trivial
  · simp only [push_cast, ↓branch_true, ↓branch_false, Nat.reduceBEq, Nat.reduceAdd, Nat.reduceMul, Nat.reduceSub, Int.reduceToNat, reduceCtorEq, branch_decide, branch_not, branch_beq, branch_bne]
    intro i hi k hk
    obtain rfl : i = 0 := by omega
    have hk : k < 3 := hk
    rcases (by omega : k = 0 ∨ k = 1 ∨ k = 2) with rfl | rfl | rfl
    · simp only [push_cast, ↓branch_true, ↓branch_false, Nat.reduceBEq, Nat.reduceAdd, Nat.reduceMul, Nat.reduceSub, Int.reduceToNat, reduceCtorEq, branch_decide, branch_not, branch_beq, branch_bne]
      try trivial
    · simp only [push_cast, ↓branch_true, ↓branch_false, Nat.reduceBEq, Nat.reduceAdd, Nat.reduceMul, Nat.reduceSub, Int.reduceToNat, reduceCtorEq, branch_decide, branch_not, branch_beq, branch_bne]
      try trivial
    · simp only [push_cast, ↓branch_true, ↓branch_false, Nat.reduceBEq, Nat.reduceAdd, Nat.reduceMul, Nat.reduceSub, Int.reduceToNat, reduceCtorEq, branch_decide, branch_not, branch_beq, branch_bne]
      try trivial
  rintro _ _ ⟨oc, hoc, rfl, rfl⟩
  simp only [push_cast, ↓branch_true, ↓branch_false, Nat.reduceBEq, Nat.reduceAdd, Nat.reduceMul, Nat.reduceSub, Int.reduceToNat, reduceCtorEq, branch_decide, branch_not, branch_beq, branch_bne, hOl]
  refine fun _ _ => ⟨fun _ => ?_, fun h => absurd rfl h⟩
  refine tr_loop mixed (by kernel_rfl) (fun (k : Nat) => [(130, .v (.int .i64 k)), (129, .v (.int .i64 3)), (128, .s 6 0 0 3 oc 3), (18, .s 6 0 0 3 oc 3), (17, .p 5 0 0), (15, .p 4 0 0), (14, .v (.int .i64 0)), (13, .p 3 0 0), (8, .p 2 0 0), (7, .p 1 0 0), (6, .p 0 0 0)])
    (fun _ => [⟨23, false, .st [.v (.int .i64 x), .v (.int .i64 y)]⟩, ⟨37, false, .st [.v (.int .i64 a), .v (.int .i64 b), .v (.int .i64 c)]⟩, ⟨50, true, .st [.v (.int .i64 l0), .v (.int .i64 l1), .v (.int .i64 l2), .v (.int .i64 h0), .v (.int .i64 h1), .v (.int .i64 h2)]⟩, ⟨50, false, .st [.v (.int .i64 m0), .v (.int .i64 m1), .v (.int .i64 m2), .v (.int .i64 n0), .v (.int .i64 n1), .v (.int .i64 n2)]⟩, ⟨37, true, .st [.v (.int .i64 d0), .v (.int .i64 d1), .v (.int .i64 d2)]⟩, ⟨37, false, .st [.v (.int .i64 (l0 + t0)), .v (.int .i64 (l1 + t1)), .v (.int .i64 (l2 + t2))]⟩, ⟨37, false, .row 3 1 (fun _ => 3) (fun _ => oc) (fun _ k => [.v (.int .i64 (ix O k).x), .v (.int .i64 (ix O k).y), .v (.int .i64 (ix O k).z)])⟩])
    (fun k => k ≤ 3) (fun k => 3 - k) 0 (Nat.zero_le _) (Mt.wk (rl := [0, 1, 2, 3, 4, 5, 7]) ⟨by kernel_rfl, ?_, ?_⟩) ?_
  · simp only [push_cast, ↓branch_true, ↓branch_false, Nat.reduceBEq, Nat.reduceAdd, Nat.reduceMul, Nat.reduceSub, Int.reduceToNat, reduceCtorEq, branch_decide, branch_not, branch_beq, branch_bne]
    try trivial
  · simp only [push_cast, ↓branch_true, ↓branch_false, Nat.reduceBEq, Nat.reduceAdd, Nat.reduceMul, Nat.reduceSub, Int.reduceToNat, reduceCtorEq, branch_decide, branch_not, branch_beq, branch_bne]
    try trivial
  intro k hk
  simp only [push_cast, ↓branch_true, ↓branch_false, Nat.reduceBEq, Nat.reduceAdd, Nat.reduceMul, Nat.reduceSub, Int.reduceToNat, reduceCtorEq, branch_decide, branch_not, branch_beq, branch_bne]
  refine ⟨fun h => ?_, fun h => ?_⟩
  · obtain ⟨⟨b00, b01⟩, ⟨b10, b11⟩, b20, b21⟩ := hE k (by omega)
    repeat (with_reducible refine And.intro (by omega) ?_)
    intro _
    iterate 5 refine ⟨fun h => absurd h (by omega), fun _ => ?_⟩
    refine lpK_normal (k + 1) [0, 1, 2, 3, 4, 5, 6] (by omega) (by omega) (by kernel_rfl) ?_ ?_
    · simp only [push_cast, ↓branch_true, ↓branch_false, Nat.reduceBEq, Nat.reduceAdd, Nat.reduceMul, Nat.reduceSub, Int.reduceToNat, reduceCtorEq, branch_decide, branch_not, branch_beq, branch_bne]
      rw [show IntKind.i64.wrap ((k : Int) + 1) = (k : Int) + 1 by rw [IntKind.wrap_i64]; omega]
    · simp only [push_cast, ↓branch_true, ↓branch_false, Nat.reduceBEq, Nat.reduceAdd, Nat.reduceMul, Nat.reduceSub, Int.reduceToNat, reduceCtorEq, branch_decide, branch_not, branch_beq, branch_bne]
      try trivial
  · obtain rfl : k = 3 := by omega
    obtain ⟨rfl, rfl, rfl⟩ := hO0
    refine sp_call (M2) rfl [] rfl (by simp only [push_cast, ↓branch_true, ↓branch_false, Nat.reduceBEq, Nat.reduceAdd, Nat.reduceMul, Nat.reduceSub, Int.reduceToNat, reduceCtorEq, branch_decide, branch_not, branch_beq, branch_bne]) (by simp only [push_cast, ↓branch_true, ↓branch_false, Nat.reduceBEq, Nat.reduceAdd, Nat.reduceMul, Nat.reduceSub, Int.reduceToNat, reduceCtorEq, branch_decide, branch_not, branch_beq, branch_bne]) ?_
    simp only [push_cast, ↓branch_true, ↓branch_false, Nat.reduceBEq, Nat.reduceAdd, Nat.reduceMul, Nat.reduceSub, Int.reduceToNat, reduceCtorEq, branch_decide, branch_not, branch_beq, branch_bne]
    refine ⟨[(23, .s 4 0 0 3 3 1), (24, .s 5 0 0 3 3 1), (18, .s 3 0 0 3 oc 3), (17, .p 2 0 0), (7, .p 1 0 0), (6, .p 0 0 0)], [⟨23, false, .st [.v (.int .i64 x), .v (.int .i64 y)]⟩, ⟨37, false, .st [.v (.int .i64 a), .v (.int .i64 b), .v (.int .i64 c)]⟩, ⟨37, false, .st [.v (.int .i64 (l0 + t0)), .v (.int .i64 (l1 + t1)), .v (.int .i64 (l2 + t2))]⟩, ⟨37, false, .row 3 1 (fun _ => 3) (fun _ => oc) (fun _ k => [.v (.int .i64 (ix O k).x), .v (.int .i64 (ix O k).y), .v (.int .i64 (ix O k).z)])⟩, rIO [c0, c1, c2] 3, rIO [d0, d1, d2] 3], ?_, ?_⟩
    · repeat' (with_reducible apply And.intro)
      all_goals first
        | omega
        | (refine Mt.wk (rl := [0, 1, 5, 6, 8, 9]) ⟨by kernel_rfl, ?_, ?_⟩
           · (simp only [push_cast, ↓branch_true, ↓branch_false, Nat.reduceBEq, Nat.reduceAdd, Nat.reduceMul, Nat.reduceSub, Int.reduceToNat, reduceCtorEq, branch_decide, branch_not, branch_beq, branch_bne])
             try trivial
           · (simp only [push_cast, ↓branch_true, ↓branch_false, Nat.reduceBEq, Nat.reduceAdd, Nat.reduceMul, Nat.reduceSub, Int.reduceToNat, reduceCtorEq, branch_decide, branch_not, branch_beq, branch_bne])
             exact ⟨fun i hi k hk => mtl3 _ _ _ _ hk, fun i hi k hk => mtl3 _ _ _ _ hk⟩
           )
        | (refine Mt.wk (rl := [0, 1, 5, 6, 9, 8]) ⟨by kernel_rfl, ?_, ?_⟩
           · (simp only [push_cast, ↓branch_true, ↓branch_false, Nat.reduceBEq, Nat.reduceAdd, Nat.reduceMul, Nat.reduceSub, Int.reduceToNat, reduceCtorEq, branch_decide, branch_not, branch_beq, branch_bne])
             try trivial
           · (simp only [push_cast, ↓branch_true, ↓branch_false, Nat.reduceBEq, Nat.reduceAdd, Nat.reduceMul, Nat.reduceSub, Int.reduceToNat, reduceCtorEq, branch_decide, branch_not, branch_beq, branch_bne])
             exact ⟨fun i hi k hk => mtl3 _ _ _ _ hk, fun i hi k hk => mtl3 _ _ _ _ hk⟩
           )
    simp only [push_cast, ↓branch_true, ↓branch_false, Nat.reduceBEq, Nat.reduceAdd, Nat.reduceMul, Nat.reduceSub, Int.reduceToNat, reduceCtorEq, branch_decide, branch_not, branch_beq, branch_bne, jnK]
    refine sp_at (sort_sp c0 c1 c2) [4] rfl ?_ ?_ ?_
    · simp only [push_cast, ↓branch_true, ↓branch_false, Nat.reduceBEq, Nat.reduceAdd, Nat.reduceMul, Nat.reduceSub, Int.reduceToNat, reduceCtorEq, branch_decide, branch_not, branch_beq, branch_bne]
      try trivial
    · simp only [push_cast, ↓branch_true, ↓branch_false, Nat.reduceBEq, Nat.reduceAdd, Nat.reduceMul, Nat.reduceSub, Int.reduceToNat, reduceCtorEq, branch_decide, branch_not, branch_beq, branch_bne]
      try trivial
    rintro _ _ ⟨rfl, x1, y1, z1, p1, o1, o1', rfl⟩
    simp only [push_cast, ↓branch_true, ↓branch_false, Nat.reduceBEq, Nat.reduceAdd, Nat.reduceMul, Nat.reduceSub, Int.reduceToNat, reduceCtorEq, branch_decide, branch_not, branch_beq, branch_bne]
    refine sp_at (sort_sp d0 d1 d2) [5] rfl ?_ ?_ ?_
    · simp only [push_cast, ↓branch_true, ↓branch_false, Nat.reduceBEq, Nat.reduceAdd, Nat.reduceMul, Nat.reduceSub, Int.reduceToNat, reduceCtorEq, branch_decide, branch_not, branch_beq, branch_bne]
      try trivial
    · simp only [push_cast, ↓branch_true, ↓branch_false, Nat.reduceBEq, Nat.reduceAdd, Nat.reduceMul, Nat.reduceSub, Int.reduceToNat, reduceCtorEq, branch_decide, branch_not, branch_beq, branch_bne]
      try trivial
    rintro _ _ ⟨rfl, x2, y2, z2, p2, o2, o2', rfl⟩
    simp only [push_cast, ↓branch_true, ↓branch_false, Nat.reduceBEq, Nat.reduceAdd, Nat.reduceMul, Nat.reduceSub, Int.reduceToNat, reduceCtorEq, branch_decide, branch_not, branch_beq, branch_bne]
    obtain ⟨rfl, rfl, rfl⟩ := sort_same ((p1.trans gp).trans p2.symm) o1 o1' o2 o2'
    refine sp_call (PA) rfl [] rfl (by simp only [push_cast, ↓branch_true, ↓branch_false, Nat.reduceBEq, Nat.reduceAdd, Nat.reduceMul, Nat.reduceSub, Int.reduceToNat, reduceCtorEq, branch_decide, branch_not, branch_beq, branch_bne]) (by simp only [push_cast, ↓branch_true, ↓branch_false, Nat.reduceBEq, Nat.reduceAdd, Nat.reduceMul, Nat.reduceSub, Int.reduceToNat, reduceCtorEq, branch_decide, branch_not, branch_beq, branch_bne]) ?_
    simp only [push_cast, ↓branch_true, ↓branch_false, Nat.reduceBEq, Nat.reduceAdd, Nat.reduceMul, Nat.reduceSub, Int.reduceToNat, reduceCtorEq, branch_decide, branch_not, branch_beq, branch_bne]
    refine ⟨[(12, .v (.bool true))], [], ?_, ?_⟩
    · refine sp_call (equal_pu [x1, y1, z1] [x1, y1, z1] 3 3 (by simp) (by simp)) rfl [4, 5] rfl ?_ ?_ ?_
      · simp only [push_cast, ↓branch_true, ↓branch_false, Nat.reduceBEq, Nat.reduceAdd, Nat.reduceMul, Nat.reduceSub, Int.reduceToNat, reduceCtorEq, branch_decide, branch_not, branch_beq, branch_bne]
        try trivial
      · simp only [push_cast, ↓branch_true, ↓branch_false, Nat.reduceBEq, Nat.reduceAdd, Nat.reduceMul, Nat.reduceSub, Int.reduceToNat, reduceCtorEq, branch_decide, branch_not, branch_beq, branch_bne]
        try trivial
      simp only [push_cast, ↓branch_true, ↓branch_false, Nat.reduceBEq, Nat.reduceAdd, Nat.reduceMul, Nat.reduceSub, Int.reduceToNat, reduceCtorEq, branch_decide, branch_not, branch_beq, branch_bne]
      refine fun _ => ?_
      repeat' (first
        | (with_reducible apply And.intro)
        | omega
        | (refine sp_call (args := [.a [.v (.int .i64 (ix O 0).x), .v (.int .i64 (ix O 0).y), .v (.int .i64 (ix O 0).z)], .a [.v (.int .i64 k0), .v (.int .i64 k1), .v (.int .i64 k2)]]) M3 rfl [] rfl (by (simp only [push_cast, ↓branch_true, ↓branch_false, Nat.reduceBEq, Nat.reduceAdd, Nat.reduceMul, Nat.reduceSub, Int.reduceToNat, reduceCtorEq, branch_decide, branch_not, branch_beq, branch_bne])) (by (simp only [push_cast, ↓branch_true, ↓branch_false, Nat.reduceBEq, Nat.reduceAdd, Nat.reduceMul, Nat.reduceSub, Int.reduceToNat, reduceCtorEq, branch_decide, branch_not, branch_beq, branch_bne])) ?_; (simp only [push_cast, ↓branch_true, ↓branch_false, Nat.reduceBEq, Nat.reduceAdd, Nat.reduceMul, Nat.reduceSub, Int.reduceToNat, reduceCtorEq, branch_decide, branch_not, branch_beq, branch_bne])))
      all_goals first
        | exact agg37 a b c
        | (refine Mt.wk (rl := []) ⟨by kernel_rfl, ?_, ?_⟩
           · (simp only [push_cast, ↓branch_true, ↓branch_false, Nat.reduceBEq, Nat.reduceAdd, Nat.reduceMul, Nat.reduceSub, Int.reduceToNat, reduceCtorEq, branch_decide, branch_not, branch_beq, branch_bne])
             try trivial
           · (simp only [push_cast, ↓branch_true, ↓branch_false, Nat.reduceBEq, Nat.reduceAdd, Nat.reduceMul, Nat.reduceSub, Int.reduceToNat, reduceCtorEq, branch_decide, branch_not, branch_beq, branch_bne])
             try trivial
           )
    simp only [push_cast, ↓branch_true, ↓branch_false, Nat.reduceBEq, Nat.reduceAdd, Nat.reduceMul, Nat.reduceSub, Int.reduceToNat, reduceCtorEq, branch_decide, branch_not, branch_beq, branch_bne, jnK]
    refine ⟨_, [], [], ?_, rfl, ?_, rfl⟩
    · simp only [push_cast, ↓branch_true, ↓branch_false, Nat.reduceBEq, Nat.reduceAdd, Nat.reduceMul, Nat.reduceSub, Int.reduceToNat, reduceCtorEq, branch_decide, branch_not, branch_beq, branch_bne]
    · simp only [push_cast, ↓branch_true, ↓branch_false, Nat.reduceBEq, Nat.reduceAdd, Nat.reduceMul, Nat.reduceSub, Int.reduceToNat, reduceCtorEq, branch_decide, branch_not, branch_beq, branch_bne]
end Go.Proofs.Ytjpnijnbfjgnfaa.X
