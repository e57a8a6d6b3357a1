/- Contracts: prices that prove a bound, of the program and of the reference. -/
import Derived.Test.YtolioflblegneaaGreatWA
import Derived.Test.YtolioflblegneaaGreatA9
set_option maxRecDepth 100000
set_option linter.unusedSimpArgs false
set_option linter.unusedVariables false
namespace Go.Proofs.YtolioflblegneaaGreat.Pat
open Go.RowKit
/-- What prices cost. -/
def costT (l : List Pc) (pr : List Int) : Nat → Int
  | 0 => 0
  | k + 1 => costT l pr k + (ix l k).cnt * ix pr k
theorem price_at {pr : List Int} (h : pr.any badP = false) {k : Nat} (hk : k < pr.length) : 0 ≤ ix pr k ∧ ix pr k ≤ 1073741824 := by
  have h1 := List.any_eq_false.1 h _ (ix_mem hk)
  unfold badP at h1
  simp at h1
  omega
theorem cost_range {l : List Pc} {pr : List Int} (ho : orderB l = true) (h : pr.any badP = false) (he : pr.length = l.length) : ∀ k, k ≤ l.length → 0 ≤ costT l pr k ∧ costT l pr k ≤ 1073741824000000 * k
  | 0, _ => by simp [costT]
  | k + 1, hk => by
    have ih := cost_range ho h he k (by omega)
    have h2 := order_at ho (k := k) (by omega)
    have h3 := price_at h (k := k) (by omega)
    have hm := mul_le (show 0 ≤ (ix l k).cnt by omega) h2.2.2.2 h3.1 h3.2
    rw [costT]
    omega
def provE (lim : Int) (l : List Pc) (pr : List Int) (sc : Int) : Int :=
  if givE lim l ≠ 0 then givE lim l else if pr.length ≠ l.length then 3 else if (sc < 1 ∨ 1073741824 < sc) ∨ pr.any badP = true then 2 else if 10 < l.length then 6 else if sc < (bestS lim l pr).2 then 13 else 0
def provV (lim : Int) (l : List Pc) (pr : List Int) (sc : Int) : Int := if provE lim l pr sc = 0 then upR (costT l pr l.length) sc else 0
theorem badP2_pu (n : Int) : Pu Tryz.prog 94 [.v (.int .i64 n)] [] (.v (.bool (badP n))) := by
  refine pu_of_ex true [] mixed Tryz.call94 Tryz.func94 rfl Tryz.ntmps94 Tryz.results94 (by decide +kernel) rfl rfl rfl ?_
  refine sxq ?_
  try with_reducible exact trivial
  unfold badP
  exact ⟨fun h => by rw [decide_eq_true h, Bool.true_or], fun h => by rw [decide_eq_false h, Bool.false_or]⟩
set_option maxHeartbeats 2000000 in
theorem bproves_sp (lim : Int) (l : List Pc) (c : Nat) (pr : List Int) (cp : Nat) (sc : Int) (hl : l.length ≤ 9223372036854775807) (hl2 : pr.length ≤ 9223372036854775807) : Sp Tryz.prog 53 [.v (.int .i64 lim), .s 0 0 0 l.length c 2, .s 1 0 0 pr.length cp 1, .v (.int .i64 sc)] [rPc l, rInt 3 pr]
    (fun r H => r = .t [.v (.int .i64 (provV lim l pr sc)), .v (.int .i64 (provE lim l pr sc))] ∧ H = [rPc l, rInt 3 pr]) := by
  unfold provV
  refine sp_weak ?_
  refine sp_of_ex true [] mixed Tryz.call53 Tryz.func53 rfl Tryz.ntmps53 Tryz.results53 (by decide +kernel) rfl ?_
  refine sxq ?_
  try with_reducible exact trivial
  refine sp_c (bgiven_pu lim l c hl) rfl [0] ?_
  refine sxq ?_
  try with_reducible exact trivial
  have bad : ∀ (e : Int) (H1 : List Ob), provE lim l pr sc = e → e ≠ 0 → obsM [0, 1] H1 [0, 1] [rPc l, rInt 3 pr] → ∃ r H2 rl, mt rl r (SV.t [.v (.int .i64 0), .v (.int .i64 e)]) ∧ (keepB 0 rl 2 && nodupB (liveL rl H2) && Nat.beq rl.length H2.length) = true ∧ obsM rl H1 rl H2 ∧
      r = SV.t [.v (.int .i64 (if provE lim l pr sc = 0 then upR (costT l pr l.length) sc else 0)), .v (.int .i64 (provE lim l pr sc))] ∧ H2 = [rPc l, rInt 3 pr] := fun e H1 he h0 ho => by
    refine ⟨_, _, [0, 1], ?_, by kernel_rfl, ho, rfl, rfl⟩
    rw [he, if_neg h0]
    refine sxq ?_
    try with_reducible exact trivial
  by_cases hg : givE lim l = 0
  rotate_left
  · have e : provE lim l pr sc = givE lim l := if_pos hg
    exact ⟨fun h => absurd h hg, fun _ => bad _ [rPc l, rInt 3 pr] e hg (by (simp only [push_cast, ↓branch_true, ↓branch_false, Nat.reduceBEq, Nat.reduceAdd, Nat.reduceMul, Nat.reduceSub, Int.reduceToNat, reduceCtorEq, Int.reduceAdd, Int.reduceEq, Int.reduceLE, Int.reduceLT, Nat.reduceLT, Nat.reduceLeDiff]))⟩
  obtain ⟨ho, h1, h2, h3⟩ := givE_0 hg
  have e0 : provE lim l pr sc = if pr.length ≠ l.length then 3 else if (sc < 1 ∨ 1073741824 < sc) ∨ pr.any badP = true then 2 else if 10 < l.length then 6 else if sc < (bestS lim l pr).2 then 13 else 0 := if_neg (by omega)
  rw [hg]
  refine sxq ?_
  try with_reducible exact trivial
  refine ⟨fun c1 => ⟨fun c2 => ?_, fun c2 => ⟨fun c3 => ?_, fun c3 => ?_⟩⟩, fun c1 => ?_⟩
  · exact bad 2 [rPc l, rInt 3 pr] (by rw [e0, if_neg (by omega), if_pos (.inl (.inl c2))]) (by decide) (by (simp only [push_cast, ↓branch_true, ↓branch_false, Nat.reduceBEq, Nat.reduceAdd, Nat.reduceMul, Nat.reduceSub, Int.reduceToNat, reduceCtorEq, Int.reduceAdd, Int.reduceEq, Int.reduceLE, Int.reduceLT, Nat.reduceLT, Nat.reduceLeDiff]))
  · exact bad 2 [rPc l, rInt 3 pr] (by rw [e0, if_neg (by omega), if_pos (.inl (.inr c3))]) (by decide) (by (simp only [push_cast, ↓branch_true, ↓branch_false, Nat.reduceBEq, Nat.reduceAdd, Nat.reduceMul, Nat.reduceSub, Int.reduceToNat, reduceCtorEq, Int.reduceAdd, Int.reduceEq, Int.reduceLE, Int.reduceLT, Nat.reduceLT, Nat.reduceLeDiff]))
  · refine sp_call (containsI_pu pr cp 94 [] [] [] badP rfl hl2 fun x _ => pu_at (badP2_pu x) rfl [] rfl (by (simp only [push_cast, ↓branch_true, ↓branch_false, Nat.reduceBEq, Nat.reduceAdd, Nat.reduceMul, Nat.reduceSub, Int.reduceToNat, reduceCtorEq, Int.reduceAdd, Int.reduceEq, Int.reduceLE, Int.reduceLT, Nat.reduceLT, Nat.reduceLeDiff])) (by (simp only [push_cast, ↓branch_true, ↓branch_false, Nat.reduceBEq, Nat.reduceAdd, Nat.reduceMul, Nat.reduceSub, Int.reduceToNat, reduceCtorEq, Int.reduceAdd, Int.reduceEq, Int.reduceLE, Int.reduceLT, Nat.reduceLT, Nat.reduceLeDiff]))) rfl [1] rfl ?_ ?_ ?_
    · refine sxq ?_
      try with_reducible exact trivial
    · refine sxq ?_
      try with_reducible exact trivial
    cases hb : pr.any badP with
    | true =>
      refine sxq ?_
      try with_reducible exact trivial
      exact bad 2 [rPc l, rInt 3 pr] (by rw [e0, if_neg (by omega), if_pos (.inr hb)]) (by decide) (by (simp only [push_cast, ↓branch_true, ↓branch_false, Nat.reduceBEq, Nat.reduceAdd, Nat.reduceMul, Nat.reduceSub, Int.reduceToNat, reduceCtorEq, Int.reduceAdd, Int.reduceEq, Int.reduceLE, Int.reduceLT, Nat.reduceLT, Nat.reduceLeDiff]))
    | false =>
    refine sxq ?_
    try with_reducible exact trivial
    refine ⟨fun c4 => ?_, fun c4 => ?_⟩
    · exact bad 6 [rPc l, rInt 3 pr] (by rw [e0, if_neg (by omega), if_neg (fun h => h.elim (fun h => by omega) fun h => by rw [hb] at h; cases h), if_pos (by omega)]) (by decide) (by (simp only [push_cast, ↓branch_true, ↓branch_false, Nat.reduceBEq, Nat.reduceAdd, Nat.reduceMul, Nat.reduceSub, Int.reduceToNat, reduceCtorEq, Int.reduceAdd, Int.reduceEq, Int.reduceLE, Int.reduceLT, Nat.reduceLT, Nat.reduceLeDiff]))
    have e1 : provE lim l pr sc = if sc < (bestS lim l pr).2 then 13 else 0 := by
      rw [e0, if_neg (by omega), if_neg (fun h => h.elim (fun h => by omega) fun h => by rw [hb] at h; cases h), if_neg (by omega)]
    have hbe : bestE lim l pr = 0 := by
      unfold bestE
      have : givenE lim l pr.length = 0 := by
        unfold givenE
        rw [if_neg (by rw [ho]; decide), if_neg (by omega), if_pos (by omega)]
      rw [if_neg (by omega), if_neg (by rw [hb]; decide), if_neg (by omega)]
    refine sp_at (bestX_sp lim l c pr cp hl hl2) [0, 1] (by kernel_rfl) ?_ ?_ ?_
    · refine sxq ?_
      try with_reducible exact trivial
    · refine sxq ?_
      try with_reducible exact trivial
    rintro _ _ ⟨nb, bi, bl, bc, caps, bf, rfl, _, hbr, rfl⟩
    have hbr := hbr hbe
    rw [hbe]
    have hcr := cost_range ho hb (by omega) l.length (Nat.le_refl _)
    refine sxq ?_
    try with_reducible exact trivial
    refine ⟨fun c5 => bad 13 [rPc l, rInt 3 pr, oFam l.length nb caps bf] (by rw [e1, if_pos c5]) (by decide) (by (simp only [push_cast, ↓branch_true, ↓branch_false, Nat.reduceBEq, Nat.reduceAdd, Nat.reduceMul, Nat.reduceSub, Int.reduceToNat, reduceCtorEq, Int.reduceAdd, Int.reduceEq, Int.reduceLE, Int.reduceLT, Nat.reduceLT, Nat.reduceLeDiff])), fun c5 => ?_⟩
    rw [if_neg c5] at e1
    refine tr_loop mixed (by kernel_rfl) (fun (k : Nat) => [(60, .v (.int .i64 k)), (59, .v (.int .i64 l.length)), (58, .s 0 0 0 l.length c 2), (14, .v (.int .i64 (costT l pr k))), (2, .s 1 0 0 pr.length cp 1), (3, .v (.int .i64 sc))])
      (fun _ => [rPc l, rInt 3 pr]) (fun k => k ≤ l.length) (fun k => l.length - k) 0 (Nat.zero_le _) (Mt.wk (rl := [0, 1]) ⟨by kernel_rfl, ?_, ?_⟩) ?_
    · refine sxq ?_
      try with_reducible exact trivial
      rfl
    · refine sxq ?_
      try with_reducible exact trivial
    intro k hk
    have hs : costT l pr (k + 1) = costT l pr k + (ix l k).cnt * ix pr k := rfl
    have ck := cost_range ho hb (by omega) k hk
    refine sxq ?_
    try with_reducible exact trivial
    refine ⟨fun c6 => ?_, fun c6 => ?_⟩
    · have hkl : k < l.length := by omega
      have h2 := order_at ho hkl
      have h3 := price_at hb (k := k) (by omega)
      have hm := mul_le (show 0 ≤ (ix l k).cnt by omega) h2.2.2.2 h3.1 h3.2
      repeat (with_reducible refine And.intro (by omega) ?_)
      refine lpK_normal (k + 1) [0, 1] (by omega) (by omega) (by kernel_rfl) ?_ ?_
      · simp only [push_cast, ↓branch_true, ↓branch_false, Nat.reduceBEq, Nat.reduceAdd, Nat.reduceMul, Nat.reduceSub, Int.reduceToNat, reduceCtorEq, Int.reduceAdd, Int.reduceEq, Int.reduceLE, Int.reduceLT, Nat.reduceLT, Nat.reduceLeDiff, hs]
      · refine sxq ?_
        try with_reducible exact trivial
    · obtain rfl : k = l.length := by omega
      refine sp_c (bup_pu (costT l pr l.length) sc (by omega) (by omega) (by omega) (by omega)) rfl [] ?_
      refine sxq ?_
      try with_reducible exact trivial
      refine ⟨_, _, [0, 1], ?_, by kernel_rfl, ?_, rfl, rfl⟩
      · rw [e1, if_pos rfl]
        refine sxq ?_
        try with_reducible exact trivial
      · refine sxq ?_
        try with_reducible exact trivial
  · exact bad 3 [rPc l, rInt 3 pr] (by rw [e0, if_pos (by omega)]) (by decide) (by (simp only [push_cast, ↓branch_true, ↓branch_false, Nat.reduceBEq, Nat.reduceAdd, Nat.reduceMul, Nat.reduceSub, Int.reduceToNat, reduceCtorEq, Int.reduceAdd, Int.reduceEq, Int.reduceLE, Int.reduceLT, Nat.reduceLT, Nat.reduceLeDiff]))
end Go.Proofs.YtolioflblegneaaGreat.Pat
