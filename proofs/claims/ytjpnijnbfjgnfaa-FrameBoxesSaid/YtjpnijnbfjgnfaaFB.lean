/- FrameBoxes by the executor: Path, Sort of three numbers, Equal. -/
import Derived.Test.YtjpnijnbfjgnfaaFA
set_option maxRecDepth 100000
set_option linter.unusedSimpArgs false
set_option linter.unusedVariables false
set_option linter.unusedSimpArgs false
set_option linter.unusedVariables false
namespace Go.Proofs.Ytjpnijnbfjgnfaa.X
open Go.RowKit
def rIO (l : List Int) (cap : Nat) : Ob := ⟨3, false, .row 1 1 (fun _ => l.length) (fun _ => cap) (fun _ k => [.v (.int .i64 (ix l k))])⟩
def rR (l : List Int) : Ob := ⟨3, true, .row 1 1 (fun _ => l.length) (fun _ => 0) (fun _ k => [.v (.int .i64 (ix l k))])⟩
def rPO (l : List Pt) (cap : Nat) : Ob := ⟨37, false, .row 3 1 (fun _ => l.length) (fun _ => cap) (fun _ k => [.v (.int .i64 (ix l k).x), .v (.int .i64 (ix l k).y), .v (.int .i64 (ix l k).z)])⟩
attribute [push_cast] rIO rR rPO
theorem sort_sp (a b c : Int) : Sp Try.prog 33 [.s 0 0 0 3 3 1] [rIO [a, b, c] 3] (fun r H => r = .t [] ∧ ∃ x y z, [x, y, z].Perm [a, b, c] ∧ x ≤ y ∧ y ≤ z ∧ H = [rIO [x, y, z] 3]) := by
  refine ⟨Try.call33, fun β w vals hI ha => ?_⟩
  have hob := hI.ob 0 _ rfl
  unfold ObOk rIO at hob
  simp only [Bool.false_eq_true, if_false] at hob
  rcases hob 0 (by omega) with ⟨hz, _⟩ | ⟨g, cur, h1, h2, h3, h4, h5, h6⟩
  · simp at hz
  simp only [OkL, Ok] at ha
  obtain ⟨u, us, rfl, ⟨A, rfl, _, hA⟩, rfl⟩ := ha
  obtain ⟨g', b', hb, rfl⟩ := hA (by omega)
  rw [h1] at hb
  obtain ⟨rfl, rfl⟩ : g = g' ∧ 0 = b' := by simpa using hb
  have hcell : ∀ k, k < 3 → cur[k]? = some (.int .i64 (ix [a, b, c] k)) := fun k hk => by
    obtain ⟨_, q⟩ := h6 k (by simpa using hk)
    obtain ⟨u, q1, q2⟩ := q 0 _ rfl
    simp only [Ok] at q2
    subst q2
    rw [show k * 1 + 0 = k by omega] at q1
    exact q1
  have hcur : cur = R3 a b c := by
    have hs : cur.size = 3 := by simpa using h3
    refine Array.ext_getElem? fun k => ?_
    by_cases hk : k < 3
    · rw [hcell k hk]
      rcases (by omega : k = 0 ∨ k = 1 ∨ k = 2) with rfl | rfl | rfl <;> rfl
    · rw [Array.getElem?_eq_none (by omega), Array.getElem?_eq_none (by simp; omega)]
  subst hcur
  have hlt : g < w.heap.size := (Array.getElem?_eq_some_iff.1 h2).1
  refine (sort_3 a b c g w h2).mono ?_
  rintro e w' ⟨rfl, x, y, z, hB, hp, hxy, hyz, hO⟩
  let w1 : World := { w with heap := w.heap.set g (.cells (R3 x y z) 3 (0, 0)) hlt }
  have p1 : w1.heap[g]? = some (.cells (R3 x y z) 3 (0, 0)) := by simp [w1]
  have p2 : ∀ k, k ≠ g → w1.heap[k]? = w.heap[k]? := fun k hk => by simp [w1, Array.getElem?_set_ne, hk.symm]
  have hob2 : ObOk β w1 0 (rIO [x, y, z] 3) := by
    unfold ObOk rIO
    simp only [Bool.false_eq_true, if_false]
    intro i hi
    obtain rfl : i = 0 := by omega
    refine .inr ⟨g, _, h1, p1, rfl, by simp, h5, fun k hk => ⟨rfl, fun c x0 hx => ?_⟩⟩
    match c, hx with
    | 0, hx =>
      obtain rfl : SV.v (.int .i64 (ix [x, y, z] k)) = x0 := by simpa using hx
      refine ⟨.int .i64 (ix [x, y, z] k), ?_, by simp only [Ok]⟩
      have hk : k < 3 := hk
      rcases (by omega : k = 0 ∨ k = 1 ∨ k = 2) with rfl | rfl | rfl <;> rfl
    | c + 1, hx => simp at hx
  obtain ⟨q1, q2⟩ := inv_set (o := rIO [a, b, c] 3) (ob' := rIO [x, y, z] 3) (j := 0) (i := 0) (b := 0) hI rfl ⟨Nat.zero_lt_one, rfl, (show 0 < 3 by omega)⟩ h1 (w' := w1) rfl rfl rfl (by simp [w1]) p2 hob2
    (fun i hi => ⟨hi.1, rfl, hi.2.2⟩) (fun i hi => ⟨hi.1, (fun h => by cases h), hi.2.2⟩) (fun i hi => hi)
  have hbl : Below w1.heap.size w1 w' := ⟨hO.os, hO.tape, hO.output, by have := hO.size; simpa [w1] using this, fun k hk => by
    by_cases e : k = g
    · subst e; rw [p1]; exact hB
    · rw [p2 k e]; exact hO.block k (by simpa [w1] using hk) e⟩
  exact ⟨.t [], .tuple #[], β, _, rfl, ⟨rfl, x, y, z, hp, hxy, hyz, rfl⟩, by simp only [Ok]; exact ⟨#[], rfl, by simp [OkL]⟩, q1.below hbl, (q2 _).trans (Fr.below hbl)⟩
theorem equal_pu (a b : List Int) (c c2 : Nat) (ha : a.length ≤ 1000000) (hb : b.length ≤ 1000000) : Pu Try.prog 34 [.s 0 0 0 a.length c 1, .s 1 0 0 b.length c2 1] [rR a, rR b] (.v (.bool (decide (a = b)))) := by
  refine pu_of_ex true [] mixed Try.call34 Try.func34 rfl Try.ntmps34 Try.results34 (by decide +kernel) rfl rfl rfl ?_
  simp only [push_cast, ↓branch_true, ↓branch_false, Nat.reduceBEq, Nat.reduceAdd, Nat.reduceMul, Nat.reduceSub, Int.reduceToNat, reduceCtorEq, branch_decide, branch_not, branch_beq, branch_bne]
  refine ⟨fun h0 => ?_, fun h0 => ?_⟩
  rotate_right
  · rw [decide_eq_false fun e => h0 (by rw [e])]
  refine tr_loop0 mixed (by kernel_rfl) (fun (k : Nat) => [(13, .v (.int .i64 k)), (12, .v (.int .i64 a.length)), (0, .s 0 0 0 a.length c 1), (1, .s 1 0 0 b.length c2 1)]) (fun k => k ≤ a.length ∧ ∀ j, j < k → ix a j = ix b j) (fun k => a.length - k) 0 ⟨Nat.zero_le _, fun j h => by omega⟩ ?_ ?_
  · simp only [push_cast, ↓branch_true, ↓branch_false, Nat.reduceBEq, Nat.reduceAdd, Nat.reduceMul, Nat.reduceSub, Int.reduceToNat, reduceCtorEq, branch_decide, branch_not, branch_beq, branch_bne]
    try rfl
  rintro k ⟨h1, h2⟩
  simp only [push_cast, ↓branch_true, ↓branch_false, Nat.reduceBEq, Nat.reduceAdd, Nat.reduceMul, Nat.reduceSub, Int.reduceToNat, reduceCtorEq, branch_decide, branch_not, branch_beq, branch_bne]
  refine ⟨fun h => ?_, fun h => ?_⟩
  rotate_left
  · obtain rfl : k = a.length := by omega
    have e : a = b := List.ext_getElem (by omega) fun q p1 p2 => by
      have := h2 q p1
      rwa [ix_eq p1, ix_eq p2] at this
    rw [decide_eq_true e]
  · repeat (with_reducible refine And.intro (by omega) ?_)
    refine ⟨fun h5 => ?_, fun h5 => ?_⟩
    · repeat (with_reducible refine And.intro (by omega) ?_)
      refine lp0_normal (k + 1) ⟨by omega, fun j hj => by
        rcases Nat.lt_or_eq_of_le (Nat.le_of_lt_succ hj) with h3 | h3
        · exact h2 j h3
        · subst h3; exact h5⟩ (by omega) ?_
      simp only [push_cast, ↓branch_true, ↓branch_false, Nat.reduceBEq, Nat.reduceAdd, Nat.reduceMul, Nat.reduceSub, Int.reduceToNat, reduceCtorEq, branch_decide, branch_not, branch_beq, branch_bne]
    · rw [decide_eq_false fun e => h5 (by rw [e])]
set_option maxHeartbeats 1000000 in
theorem path_sp (x y a b c : Int) (l : List Pt) (cc : Nat) (hv : vldB x y = true) (hm : l.length ≤ 1000) (hn : neB a b c = true) (hl : l.all neP = true) : Sp Try.prog 29 [s2 x y, s3 a b c, .s 0 0 0 l.length cc 3] [rPt l]
    (fun r H => ∃ oc, l.length ≤ oc ∧ r = .t [.s 1 0 0 l.length oc 3, .v (.int .i64 0)] ∧ H = [rPt l, rPO (l.map (plP x y a b c)) oc]) := by
  have hax : axB x = true ∧ axB y = true := by
    unfold vldB at hv
    simp only [Bool.and_eq_true] at hv
    exact ⟨hv.1, hv.2.1⟩
  refine sp_weak ?_
  refine sp_of_ex true [] mixed Try.call29 Try.func29 rfl Try.ntmps29 Try.results29 (by decide +kernel) rfl ?_
  simp only [push_cast, ↓branch_true, ↓branch_false, Nat.reduceBEq, Nat.reduceAdd, Nat.reduceMul, Nat.reduceSub, Int.reduceToNat, reduceCtorEq, branch_decide, branch_not, branch_beq, branch_bne]
  refine sp_call (valid_pu x y) rfl [] rfl (by simp only [push_cast, ↓branch_true, ↓branch_false, Nat.reduceBEq, Nat.reduceAdd, Nat.reduceMul, Nat.reduceSub, Int.reduceToNat, reduceCtorEq, branch_decide, branch_not, branch_beq, branch_bne]) (by simp only [push_cast, ↓branch_true, ↓branch_false, Nat.reduceBEq, Nat.reduceAdd, Nat.reduceMul, Nat.reduceSub, Int.reduceToNat, reduceCtorEq, branch_decide, branch_not, branch_beq, branch_bne]) ?_
  simp only [push_cast, ↓branch_true, ↓branch_false, Nat.reduceBEq, Nat.reduceAdd, Nat.reduceMul, Nat.reduceSub, Int.reduceToNat, reduceCtorEq, branch_decide, branch_not, branch_beq, branch_bne]
  rw [hv]
  simp only [push_cast, ↓branch_true, ↓branch_false, Nat.reduceBEq, Nat.reduceAdd, Nat.reduceMul, Nat.reduceSub, Int.reduceToNat, reduceCtorEq, branch_decide, branch_not, branch_beq, branch_bne]
  refine ⟨fun h0 => absurd h0 (by omega), fun _ => ?_⟩
  repeat (with_reducible refine And.intro (by omega) ?_)
  refine sp_call (near_pu [⟨a, b, c⟩] 1 (by simp)) rfl [3] rfl ?_ ?_ ?_
  · simp only [push_cast, ↓branch_true, ↓branch_false, Nat.reduceBEq, Nat.reduceAdd, Nat.reduceMul, Nat.reduceSub, Int.reduceToNat, reduceCtorEq, branch_decide, branch_not, branch_beq, branch_bne]
    try trivial
  · simp only [push_cast, ↓branch_true, ↓branch_false, Nat.reduceBEq, Nat.reduceAdd, Nat.reduceMul, Nat.reduceSub, Int.reduceToNat, reduceCtorEq, branch_decide, branch_not, branch_beq, branch_bne]
    intro i hi k hk
    obtain rfl : k = 0 := by omega
    simp only [push_cast, ↓branch_true, ↓branch_false, Nat.reduceBEq, Nat.reduceAdd, Nat.reduceMul, Nat.reduceSub, Int.reduceToNat, reduceCtorEq, branch_decide, branch_not, branch_beq, branch_bne]
    try trivial
  simp only [List.all_cons, List.all_nil, show neP ⟨a, b, c⟩ = true from hn, Bool.and_self]
  simp only [push_cast, ↓branch_true, ↓branch_false, Nat.reduceBEq, Nat.reduceAdd, Nat.reduceMul, Nat.reduceSub, Int.reduceToNat, reduceCtorEq, branch_decide, branch_not, branch_beq, branch_bne]
  refine sp_call (near_pu l cc (by omega)) rfl [0] rfl (by simp only [push_cast, ↓branch_true, ↓branch_false, Nat.reduceBEq, Nat.reduceAdd, Nat.reduceMul, Nat.reduceSub, Int.reduceToNat, reduceCtorEq, branch_decide, branch_not, branch_beq, branch_bne]) (by simp only [push_cast, ↓branch_true, ↓branch_false, Nat.reduceBEq, Nat.reduceAdd, Nat.reduceMul, Nat.reduceSub, Int.reduceToNat, reduceCtorEq, branch_decide, branch_not, branch_beq, branch_bne]) ?_
  simp only [push_cast, ↓branch_true, ↓branch_false, Nat.reduceBEq, Nat.reduceAdd, Nat.reduceMul, Nat.reduceSub, Int.reduceToNat, reduceCtorEq, branch_decide, branch_not, branch_beq, branch_bne]
  rw [hl]
  simp only [push_cast, ↓branch_true, ↓branch_false, Nat.reduceBEq, Nat.reduceAdd, Nat.reduceMul, Nat.reduceSub, Int.reduceToNat, reduceCtorEq, branch_decide, branch_not, branch_beq, branch_bne]
  refine tr_loop mixed (by kernel_rfl) (fun (x : Nat × Nat) => [(31, .v (.int .i64 x.1)), (30, .v (.int .i64 l.length)), (29, .s 0 0 0 l.length cc 3), (8, .s 3 0 0 x.1 x.2 3), (3, .p 1 0 0), (4, .p 2 0 0)])
    (fun z => [rPt l, ⟨23, false, .st [.v (.int .i64 x), .v (.int .i64 y)]⟩, ⟨37, false, .st [.v (.int .i64 a), .v (.int .i64 b), .v (.int .i64 c)]⟩, ⟨37, false, .row 3 1 (fun _ => z.1) (fun _ => z.2) (fun _ k => [.v (.int .i64 (plP x y a b c (ix l k)).x), .v (.int .i64 (plP x y a b c (ix l k)).y), .v (.int .i64 (plP x y a b c (ix l k)).z)])⟩])
    (fun z => z.1 ≤ l.length ∧ z.1 ≤ z.2) (fun z => l.length - z.1) (0, 0) ⟨Nat.zero_le _, Nat.le_refl _⟩ (Mt.wk (rl := [0, 1, 2, 4]) ⟨by kernel_rfl, ?_, ?_⟩) ?_
  · simp only [push_cast, ↓branch_true, ↓branch_false, Nat.reduceBEq, Nat.reduceAdd, Nat.reduceMul, Nat.reduceSub, Int.reduceToNat, reduceCtorEq, branch_decide, branch_not, branch_beq, branch_bne]
    try trivial
  · simp only [push_cast, ↓branch_true, ↓branch_false, Nat.reduceBEq, Nat.reduceAdd, Nat.reduceMul, Nat.reduceSub, Int.reduceToNat, reduceCtorEq, branch_decide, branch_not, branch_beq, branch_bne]
    try trivial
  rintro ⟨k, cap⟩ ⟨g1, g2⟩
  simp only at g1 g2
  simp only [push_cast, ↓branch_true, ↓branch_false, Nat.reduceBEq, Nat.reduceAdd, Nat.reduceMul, Nat.reduceSub, Int.reduceToNat, reduceCtorEq, branch_decide, branch_not, branch_beq, branch_bne]
  refine ⟨fun h => ?_, fun h => ?_⟩
  · repeat (with_reducible refine And.intro (by omega) ?_)
    refine sp_call (placed_pu x y a b c (ix l k).x (ix l k).y (ix l k).z hax.1 hax.2) rfl [] rfl (by simp only [push_cast, ↓branch_true, ↓branch_false, Nat.reduceBEq, Nat.reduceAdd, Nat.reduceMul, Nat.reduceSub, Int.reduceToNat, reduceCtorEq, branch_decide, branch_not, branch_beq, branch_bne]) (by simp only [push_cast, ↓branch_true, ↓branch_false, Nat.reduceBEq, Nat.reduceAdd, Nat.reduceMul, Nat.reduceSub, Int.reduceToNat, reduceCtorEq, branch_decide, branch_not, branch_beq, branch_bne]) ?_
    simp only [push_cast, ↓branch_true, ↓branch_false, Nat.reduceBEq, Nat.reduceAdd, Nat.reduceMul, Nat.reduceSub, Int.reduceToNat, reduceCtorEq, branch_decide, branch_not, branch_beq, branch_bne]
    refine ⟨by omega, by omega, .inr ?_⟩
    repeat (with_reducible refine And.intro (by omega) ?_)
    intro cap2 hcap2
    repeat (with_reducible refine And.intro (by omega) ?_)
    refine lpK_normal (k + 1, cap2) [0, 1, 2, 6] ⟨by simp only; omega, hcap2⟩ (by simp only; omega) (by kernel_rfl) ?_ ?_
    · simp only [push_cast, ↓branch_true, ↓branch_false, Nat.reduceBEq, Nat.reduceAdd, Nat.reduceMul, Nat.reduceSub, Int.reduceToNat, reduceCtorEq, branch_decide, branch_not, branch_beq, branch_bne]
      try trivial
    · simp only [push_cast, ↓branch_true, ↓branch_false, Nat.reduceBEq, Nat.reduceAdd, Nat.reduceMul, Nat.reduceSub, Int.reduceToNat, reduceCtorEq, branch_decide, branch_not, branch_beq, branch_bne]
      intro i hi j hj
      have hj : j < k + 1 := hj
      by_cases e : j < k
      · simp [e, mtL]
      · obtain rfl : j = k := by omega
        simp [mtL, plP]
  · obtain rfl : k = l.length := by omega
    refine ⟨_, _, [0, 3], ?_, ?_, ?_, cap, ?_, rfl, rfl⟩
    · simp only [push_cast, ↓branch_true, ↓branch_false, Nat.reduceBEq, Nat.reduceAdd, Nat.reduceMul, Nat.reduceSub, Int.reduceToNat, reduceCtorEq, branch_decide, branch_not, branch_beq, branch_bne]
      try trivial
    · kernel_rfl
    · simp only [push_cast, ↓branch_true, ↓branch_false, Nat.reduceBEq, Nat.reduceAdd, Nat.reduceMul, Nat.reduceSub, Int.reduceToNat, reduceCtorEq, branch_decide, branch_not, branch_beq, branch_bne]
      refine fun i hi => ⟨by simp, fun k hk => ?_⟩
      rw [ix_eq hk, List.getElem_map, ← ix_eq (by simpa using hk)]
      exact ⟨rfl, rfl, rfl⟩
    · exact g2
end Go.Proofs.Ytjpnijnbfjgnfaa.X
