/- SubsetsMost: the walk. -/
import Derived.Test.YtapbhppfecfobaaDoorAJ
import Derived.Test.YtapbhppfecfobaaDoorAB
set_option maxRecDepth 100000
set_option linter.unusedSimpArgs false
set_option linter.unusedVariables false
namespace Go.Proofs.YtapbhppfecfobaaDoor
open Go.RowKit
theorem ix_setG_self {α : Type} [Inhabited α] {l : List α} {f : Nat} (h : f < l.length) (x : α) : ix (l.set f x) f = x := by
  rw [ix_eq (by simpa using h)]; simp
theorem ix_setG_ne {α : Type} [Inhabited α] {l : List α} {f q : Nat} (h : q ≠ f) (x : α) : ix (l.set f x) q = ix l q := by
  unfold ix
  rw [List.getD_eq_getElem?_getD, List.getD_eq_getElem?_getD, List.getElem?_set_ne (Ne.symm h)]
/-- A map from ints to ints. -/
def gM (g : Int → Option Int) : Value → Option Value
  | .int _ n => (g n).map (Value.int .i64)
  | _ => none
theorem gM_get (g : Int → Option Int) (q : IntKind) (n : Int) : (gM g (.int q n)).getD (.int .i64 0) = .int .i64 ((g n).getD 0) := by
  simp only [gM]; cases g n <;> rfl
theorem gM_some (g : Int → Option Int) (q : IntKind) (n : Int) : (gM g (.int q n)).isSome = (g n).isSome := by
  simp only [gM]; cases g n <;> rfl
theorem gM_n (g : Int → Option Int) (q : IntKind) (n : Int) (m : Nat) : upN m (gM g (.int q n)) = bif (g n).isSome then m else m + 1 := by
  simp only [gM]; cases g n <;> rfl
attribute [push_cast] gM_get gM_some gM_n
theorem gM_no {g : Int → Option Int} (h : ∀ x, g x = none) (d : TypeDesc) : eqG d (gM g) noG := fun k _ => by
  unfold gM noG; split
  · rw [h]; rfl
  · rfl
theorem gM_up {g g' : Int → Option Int} {q q' : IntKind} {a v : Int} (h : ∀ x, g' x = if x = a then some v else g x) : eqG (.int q) (gM g') (upG (gM g) (.int q' a) (.int .i64 v)) := fun k hk => by
  cases k <;> simp only [MapKept.IsKey] at hk
  rename_i k n
  simp only [gM, upG, kq, h]
  by_cases e : n = a
  · subst e; simp
  · have hb : (n == a) = false := by simpa using e
    rw [if_neg e, hb]; rfl
structure MState where
  k : Nat
  out : List (List Int)
  oc : Nat
  cp : Nat → Nat
  g : Int → Option Int
  n : Nat
structure MOk (len : Nat) (x : MState) : Prop where
  k : x.k ≤ len
  le : x.out.length ≤ x.k
  oc : x.out.length ≤ x.oc
  row : ∀ p ∈ x.out, p.length ≤ x.k
  cp : ∀ q, x.out.length ≤ q → x.cp q = 0
  g : ∀ c j, x.g c = some j → 0 ≤ j ∧ j < x.out.length
  n : x.n ≤ x.k
set_option maxHeartbeats 4000000 in
theorem lmost_sp (l co : List Int) (c c2 : Nat) (hl : l.length ≤ 9223372036854775807) (hco : co.length ≤ 9223372036854775807) (hcr : ∀ x ∈ co, 0 ≤ x ∧ x ≤ 255) : Sp Tryd.prog 7 [.s 0 0 0 l.length c 1, .s 1 0 0 co.length c2 1] [rR l, ⟨5, true, .row 1 1 (fun _ => co.length) (fun _ => 0) (fun _ k => [.v (.int .u8 (ix co k))])⟩] (fun r _ => r = .v (.bool true)) := by
  have hbig := big_eq
  refine sp_of_ex true [] mixed Tryd.call7 Tryd.func7 rfl Tryd.ntmps7 Tryd.results7 (by decide +kernel) rfl ?_
  simp only [push_cast, ↓branch_true, ↓branch_false, Nat.reduceBEq, Nat.reduceAdd, Nat.reduceMul, Nat.reduceSub, Int.reduceToNat, reduceCtorEq, branch_decide, branch_not, branch_beq, branch_bne]
  refine sp_at awake_sp [] rfl ?_ ?_ ?_
  · simp only [push_cast, ↓branch_true, ↓branch_false, Nat.reduceBEq, Nat.reduceAdd, Nat.reduceMul, Nat.reduceSub, Int.reduceToNat, reduceCtorEq, branch_decide, branch_not, branch_beq, branch_bne]
  · simp only [push_cast, ↓branch_true, ↓branch_false, Nat.reduceBEq, Nat.reduceAdd, Nat.reduceMul, Nat.reduceSub, Int.reduceToNat, reduceCtorEq, branch_decide, branch_not, branch_beq, branch_bne]
  rintro _ _ ⟨rfl, rfl⟩
  simp only [push_cast, ↓branch_true, ↓branch_false, Nat.reduceBEq, Nat.reduceAdd, Nat.reduceMul, Nat.reduceSub, Int.reduceToNat, reduceCtorEq, branch_decide, branch_not, branch_beq, branch_bne]
  intro h8
  refine sp_call (rgiven_pu l c hl) rfl [0] rfl (by simp only [push_cast, ↓branch_true, ↓branch_false, Nat.reduceBEq, Nat.reduceAdd, Nat.reduceMul, Nat.reduceSub, Int.reduceToNat, reduceCtorEq, branch_decide, branch_not, branch_beq, branch_bne]) (by simp only [push_cast, ↓branch_true, ↓branch_false, Nat.reduceBEq, Nat.reduceAdd, Nat.reduceMul, Nat.reduceSub, Int.reduceToNat, reduceCtorEq, branch_decide, branch_not, branch_beq, branch_bne]) ?_
  simp only [push_cast, ↓branch_true, ↓branch_false, Nat.reduceBEq, Nat.reduceAdd, Nat.reduceMul, Nat.reduceSub, Int.reduceToNat, reduceCtorEq, branch_decide, branch_not, branch_beq, branch_bne]
  intro hg h20
  obtain ⟨h1, h2⟩ := given_0 hg
  have hpv := partsE_val hg
  have hps := parts_small l
  refine sp_at (Parts_sp l c (by omega)) [0] rfl ?_ ?_ ?_
  · simp only [push_cast, ↓branch_true, ↓branch_false, Nat.reduceBEq, Nat.reduceAdd, Nat.reduceMul, Nat.reduceSub, Int.reduceToNat, reduceCtorEq, branch_decide, branch_not, branch_beq, branch_bne]
  · simp only [push_cast, ↓branch_true, ↓branch_false, Nat.reduceBEq, Nat.reduceAdd, Nat.reduceMul, Nat.reduceSub, Int.reduceToNat, reduceCtorEq, branch_decide, branch_not, branch_beq, branch_bne]
  rintro _ _ ⟨o1, c1, ho1, rfl, rfl⟩
  simp only [push_cast, ↓branch_true, ↓branch_false, Nat.reduceBEq, Nat.reduceAdd, Nat.reduceMul, Nat.reduceSub, Int.reduceToNat, reduceCtorEq, branch_decide, branch_not, branch_beq, branch_bne]
  refine sp_call (total_pu l c h1 h2) rfl [0] rfl (by simp only [push_cast, ↓branch_true, ↓branch_false, Nat.reduceBEq, Nat.reduceAdd, Nat.reduceMul, Nat.reduceSub, Int.reduceToNat, reduceCtorEq, branch_decide, branch_not, branch_beq, branch_bne]) (by simp only [push_cast, ↓branch_true, ↓branch_false, Nat.reduceBEq, Nat.reduceAdd, Nat.reduceMul, Nat.reduceSub, Int.reduceToNat, reduceCtorEq, branch_decide, branch_not, branch_beq, branch_bne]) ?_
  simp only [push_cast, ↓branch_true, ↓branch_false, Nat.reduceBEq, Nat.reduceAdd, Nat.reduceMul, Nat.reduceSub, Int.reduceToNat, reduceCtorEq, branch_decide, branch_not, branch_beq, branch_bne]
  refine ⟨fun hz => ?_, fun hz => ?_⟩
  rotate_right
  · have h18 : partsE l = 18 := by rw [hpv, if_neg hz]
    have h0 : partsL l = [] := if_pos (by rw [h18]; decide)
    rw [h18, h0]
    exact ⟨fun _ => rfl, fun h => absurd rfl h⟩
  have hE : partsE l = 0 := by rw [hpv, if_pos hz]
  have hright := parts_right hE
  have hchk := chkD_yes hright
  have hchR : chkR l (partsL l) = true := by rw [chkR, if_neg (by simp [hg])]; exact hchk
  refine sp_call (check_pu l (partsL l) c o1 (big + 2) c1 (by omega) (by omega) (by omega) (fun i _ => by have := hps.2 i; omega)) rfl [0, 2, 3] rfl ?_ ?_ ?_
  · simp only [push_cast, ↓branch_true, ↓branch_false, Nat.reduceBEq, Nat.reduceAdd, Nat.reduceMul, Nat.reduceSub, Int.reduceToNat, reduceCtorEq, branch_decide, branch_not, branch_beq, branch_bne]
  · simp only [push_cast, ↓branch_true, ↓branch_false, Nat.reduceBEq, Nat.reduceAdd, Nat.reduceMul, Nat.reduceSub, Int.reduceToNat, reduceCtorEq, branch_decide, branch_not, branch_beq, branch_bne]
  rw [hchR, hg, hE]
  simp only [push_cast, ↓branch_true, ↓branch_false, Nat.reduceBEq, Nat.reduceAdd, Nat.reduceMul, Nat.reduceSub, Int.reduceToNat, reduceCtorEq, branch_decide, branch_not, branch_beq, branch_bne]
  intro _ _
  obtain ⟨_, hz3, hA⟩ := parts_len hE
  have hPok : PartsOk l (allN l) (partsL l) := by
    rw [show partsL l = partS l (allN l) by rw [partsL, if_neg (by simp [hE])]]
    exact parts_ok hA hz3
  have hpw := pow_pos1 l
  have hzp : ∀ i, i < (partsL l).length → givE (valL l (ix (partsL l) i)) = 0 ∧ findE (valL l (ix (partsL l) i)) 0 1 = 0 ∧ (findL (valL l (ix (partsL l) i)) 0 1).length = (valL l (ix (partsL l) i)).length := fun i hi => by
    obtain ⟨b, e, b1, b2, b3, b4, b5⟩ := hPok.part _ (ix_mem hi)
    have := b3.le
    have hbl := bL_le (l := l) (b := b) (by omega) (by omega)
    rw [bL_len] at hbl
    rw [e]
    exact zero_part h2 b2 b1 (by omega) b4 b5
  have hat : ∀ i k, i < (partsL l).length → k < (ix (partsL l) i).length → 0 ≤ ix (ix (partsL l) i) k ∧ ix (ix (partsL l) i) k < l.length := fun i k hi hk => (okC_at hright.1 hi hk).1
  have hmostP : ((partsL l).length : Int) = most l (allN l) := (parts_len hE).1
  generalize hP : partsL l = P at *
  refine tr_loop mixed (by kernel_rfl) (fun (i : Nat) => [(72, .v (.int .i64 i)), (71, .v (.int .i64 P.length)), (70, .s 2 0 0 P.length o1 1), (5, .s 2 0 0 P.length o1 1), (0, .s 0 0 0 l.length c 1), (1, .s 1 0 0 co.length c2 1)])
    (fun _ => [rR l, ⟨5, true, .row 1 1 (fun _ => co.length) (fun _ => 0) (fun _ k => [.v (.int .u8 (ix co k))])⟩, oOut 3 P c1 o1, oFa P c1]) (fun i => i ≤ P.length) (fun i => P.length - i) 0 (Nat.zero_le _) (Mt.wk (rl := [0, 1, 2, 3]) ⟨by kernel_rfl, ?_, ?_⟩) ?_
  · simp only [push_cast, ↓branch_true, ↓branch_false, Nat.reduceBEq, Nat.reduceAdd, Nat.reduceMul, Nat.reduceSub, Int.reduceToNat, reduceCtorEq, branch_decide, branch_not, branch_beq, branch_bne]
    try rfl
  · simp only [push_cast, ↓branch_true, ↓branch_false, Nat.reduceBEq, Nat.reduceAdd, Nat.reduceMul, Nat.reduceSub, Int.reduceToNat, reduceCtorEq, branch_decide, branch_not, branch_beq, branch_bne]
  intro i hi0
  simp only [push_cast, ↓branch_true, ↓branch_false, Nat.reduceBEq, Nat.reduceAdd, Nat.reduceMul, Nat.reduceSub, Int.reduceToNat, reduceCtorEq, branch_decide, branch_not, branch_beq, branch_bne]
  refine ⟨fun h => ?_, fun h => ?_⟩
  · have hi : i < P.length := by omega
    obtain ⟨zg, zE, zL⟩ := hzp i hi
    have hpl := hps.2 i
    have hvl : (valL l (ix P i)).length = (ix P i).length := by unfold valL; rw [List.length_map]
    have hvx : ∀ k, k < (ix P i).length → ix (valL l (ix P i)) k = ix l (ix (ix P i) k).toNat := fun k hk => by
      unfold valL
      rw [ix_eq (by simpa using hk), List.getElem_map, ix_eq hk]
    repeat (with_reducible refine And.intro (by omega) ?_)
    generalize hV : valL l (ix P i) = V at *
    refine tr_loop mixed (by kernel_rfl) (fun (y : Nat × Nat) => [(78, .v (.int .i64 y.1)), (77, .v (.int .i64 (ix P i).length)), (76, .s 3 i 0 (ix P i).length (c1 i) 1), (11, .s 4 0 0 y.1 y.2 1), (72, .v (.int .i64 i)), (71, .v (.int .i64 P.length)), (70, .s 2 0 0 P.length o1 1), (5, .s 2 0 0 P.length o1 1), (0, .s 0 0 0 l.length c 1), (1, .s 1 0 0 co.length c2 1)])
      (fun y => [rR l, ⟨5, true, .row 1 1 (fun _ => co.length) (fun _ => 0) (fun _ k => [.v (.int .u8 (ix co k))])⟩, oOut 3 P c1 o1, oFa P c1, rIO (V.take y.1) y.2]) (fun y => y.1 ≤ (ix P i).length ∧ y.1 ≤ y.2) (fun y => (ix P i).length - y.1) (0, 0) ⟨Nat.zero_le _, Nat.le_refl _⟩ (Mt.wk (rl := [0, 1, 2, 3, 1000]) ⟨by kernel_rfl, ?_, ?_⟩) ?_
    · simp only [push_cast, ↓branch_true, ↓branch_false, Nat.reduceBEq, Nat.reduceAdd, Nat.reduceMul, Nat.reduceSub, Int.reduceToNat, reduceCtorEq, branch_decide, branch_not, branch_beq, branch_bne]
      try rfl
    · simp only [push_cast, ↓branch_true, ↓branch_false, Nat.reduceBEq, Nat.reduceAdd, Nat.reduceMul, Nat.reduceSub, Int.reduceToNat, reduceCtorEq, branch_decide, branch_not, branch_beq, branch_bne]
      omega
    rintro ⟨k, oc⟩ ⟨k1, k2⟩
    simp only at k1 k2
    have hlt : (V.take k).length = k := by simp; omega
    simp only [push_cast, ↓branch_true, ↓branch_false, Nat.reduceBEq, Nat.reduceAdd, Nat.reduceMul, Nat.reduceSub, Int.reduceToNat, reduceCtorEq, branch_decide, branch_not, branch_beq, branch_bne, hlt]
    refine ⟨fun h3 => ?_, fun h3 => ?_⟩
    · have hk : k < (ix P i).length := by omega
      obtain ⟨a1, a2⟩ := hat i k hi hk
      have hX := take_snoc (l := V) (k := k) (by omega)
      rw [hvx k hk] at hX
      generalize hx : V.take k = X at *
      repeat (with_reducible refine And.intro (by omega) ?_)
      intro _
      refine ⟨fun h => absurd h (by omega), fun _ => ?_⟩
      repeat (with_reducible refine And.intro (by omega) ?_)
      refine Or.inr ?_
      repeat (with_reducible refine And.intro (by omega) ?_)
      intro cap hcap
      repeat (with_reducible refine And.intro (by omega) ?_)
      refine lpK_normal (k + 1, cap) [0, 1, 2, 3, 6] ⟨by simp only; omega, by simp only; omega⟩ (by simp only; omega) (by kernel_rfl) ?_ ?_
      · simp only [push_cast, ↓branch_true, ↓branch_false, Nat.reduceBEq, Nat.reduceAdd, Nat.reduceMul, Nat.reduceSub, Int.reduceToNat, reduceCtorEq, branch_decide, branch_not, branch_beq, branch_bne]
        try omega
      · simp only [push_cast, ↓branch_true, ↓branch_false, Nat.reduceBEq, Nat.reduceAdd, Nat.reduceMul, Nat.reduceSub, Int.reduceToNat, reduceCtorEq, branch_decide, branch_not, branch_beq, branch_bne, hX, List.length_append, hlt]
        intro i1 hi1 q hq
        by_cases e : q < k
        · have hb2 : decide (q < k) = true := by simpa using e
          rw [ix_app_ne (by omega), hb2]
          simp only [push_cast, ↓branch_true, ↓branch_false, Nat.reduceBEq, Nat.reduceAdd, Nat.reduceMul, Nat.reduceSub, Int.reduceToNat, reduceCtorEq, branch_decide, branch_not, branch_beq, branch_bne]
        · obtain rfl : q = k := by omega
          have hb2 : decide (q < q) = false := by simp
          have hl2 := ix_app_last X (ix l (ix (ix P i) q).toNat)
          rw [hlt] at hl2
          rw [hl2, hb2]
          simp only [push_cast, ↓branch_true, ↓branch_false, Nat.reduceBEq, Nat.reduceAdd, Nat.reduceMul, Nat.reduceSub, Int.reduceToNat, reduceCtorEq, branch_decide, branch_not, branch_beq, branch_bne]
    · obtain rfl : k = (ix P i).length := by omega
      have hfull : V.take (ix P i).length = V := by rw [← hvl, List.take_length]
      rw [hfull]
      refine sp_at (Zero_sp V oc (by omega)) [4] rfl ?_ ?_ ?_
      · simp only [push_cast, ↓branch_true, ↓branch_false, Nat.reduceBEq, Nat.reduceAdd, Nat.reduceMul, Nat.reduceSub, Int.reduceToNat, reduceCtorEq, branch_decide, branch_not, branch_beq, branch_bne]
        exact hvl
      · simp only [push_cast, ↓branch_true, ↓branch_false, Nat.reduceBEq, Nat.reduceAdd, Nat.reduceMul, Nat.reduceSub, Int.reduceToNat, reduceCtorEq, branch_decide, branch_not, branch_beq, branch_bne]
        exact fun _ _ => by omega
      rintro _ _ ⟨cap, hcap, rfl, rfl⟩
      rw [zE]
      simp only [push_cast, ↓branch_true, ↓branch_false, Nat.reduceBEq, Nat.reduceAdd, Nat.reduceMul, Nat.reduceSub, Int.reduceToNat, reduceCtorEq, branch_decide, branch_not, branch_beq, branch_bne]
      intro _
      refine ⟨fun _ => ?_, fun h => absurd (by omega) h⟩
      repeat (with_reducible refine And.intro (by omega) ?_)
      refine lpK_normal (i + 1) [0, 1, 2, 3] hi (show P.length - (i + 1) < P.length - i by omega) (by kernel_rfl) ?_ ?_
      · simp only [push_cast, ↓branch_true, ↓branch_false, Nat.reduceBEq, Nat.reduceAdd, Nat.reduceMul, Nat.reduceSub, Int.reduceToNat, reduceCtorEq, branch_decide, branch_not, branch_beq, branch_bne]
      · simp only [push_cast, ↓branch_true, ↓branch_false, Nat.reduceBEq, Nat.reduceAdd, Nat.reduceMul, Nat.reduceSub, Int.reduceToNat, reduceCtorEq, branch_decide, branch_not, branch_beq, branch_bne]
  refine tr_loop mixed (by kernel_rfl) (fun (x : MState) => [(116, .v (.int .i64 x.k)), (115, .v (.int .i64 l.length)), (114, .s 0 0 0 l.length c 1), (17, .m 4), (16, .s 5 0 0 x.out.length x.oc 1), (5, .s 2 0 0 P.length o1 1), (0, .s 0 0 0 l.length c 1), (1, .s 1 0 0 co.length c2 1)])
    (fun x => [rR l, ⟨5, true, .row 1 1 (fun _ => co.length) (fun _ => 0) (fun _ k => [.v (.int .u8 (ix co k))])⟩, oOut 3 P c1 o1, oFa P c1, ⟨53, false, .mp (.int .u8) x.n (gM x.g)⟩, oOut 6 x.out x.cp x.oc, oFa x.out x.cp])
    (MOk l.length) (fun x => l.length - x.k) ⟨0, [], 0, fun _ => 0, fun _ => none, 0⟩ ⟨Nat.zero_le _, Nat.zero_le _, Nat.le_refl _, fun p hp => by simp at hp, fun _ _ => rfl, fun c j h => by simp at h, Nat.le_refl _⟩ (Mt.wk (rl := [0, 1, 2, 3, 4, 1000, 1001]) ⟨by kernel_rfl, ?_, ?_⟩) ?_
  · simp only [push_cast, ↓branch_true, ↓branch_false, Nat.reduceBEq, Nat.reduceAdd, Nat.reduceMul, Nat.reduceSub, Int.reduceToNat, reduceCtorEq, branch_decide, branch_not, branch_beq, branch_bne]
    try rfl
  · simp only [push_cast, ↓branch_true, ↓branch_false, Nat.reduceBEq, Nat.reduceAdd, Nat.reduceMul, Nat.reduceSub, Int.reduceToNat, reduceCtorEq, branch_decide, branch_not, branch_beq, branch_bne]
    exact ⟨gM_no (fun _ => rfl) _, by omega, by omega, Or.inr fun _ => rfl⟩
  rintro ⟨k, out, oc, cp, g, n⟩ ⟨q1, q2, q3, q4, q5, q6, q7⟩
  simp only at q1 q2 q3 q4 q5 q6 q7
  simp only [push_cast, ↓branch_true, ↓branch_false, Nat.reduceBEq, Nat.reduceAdd, Nat.reduceMul, Nat.reduceSub, Int.reduceToNat, reduceCtorEq, branch_decide, branch_not, branch_beq, branch_bne]
  refine ⟨fun h => ?_, fun h => ?_⟩
  · repeat (with_reducible refine And.intro (by omega) ?_)
    have hk : k < l.length := by omega
    have hcv : ∀ i : Nat, i < co.length → 0 ≤ ix co i ∧ ix co i ≤ 255 := fun i hi => hcr _ (ix_mem hi)
    refine ⟨fun hc0 => ?_, fun hc0 => ?_⟩
    · have hcp : 0 < co.length := by omega
      have t1 : 0 ≤ (k : Int).tmod (co.length : Int) := Int.tmod_nonneg _ (by omega)
      have t2 : (k : Int).tmod (co.length : Int) < co.length := Int.tmod_lt_of_pos _ (by omega)
      generalize (k : Int).tmod (co.length : Int) = tm at *
      refine ⟨by omega, t1, t2, by omega, by omega, by decide, ?_⟩
      generalize (ix co tm.toNat).tmod 8 = cc at *
      cases hgc : g cc with
      | some j =>
        obtain ⟨j0, j1⟩ := q6 _ j hgc
        obtain ⟨f, rfl⟩ : ∃ f : Nat, j = (f : Int) := ⟨j.toNat, by omega⟩
        have hf : f < out.length := by omega
        have hrf := q4 _ (ix_mem hf)
        simp only [push_cast, ↓branch_true, ↓branch_false, Nat.reduceBEq, Nat.reduceAdd, Nat.reduceMul, Nat.reduceSub, Int.reduceToNat, reduceCtorEq, branch_decide, branch_not, branch_beq, branch_bne, Option.isSome_some, Option.getD_some]
        repeat (with_reducible refine And.intro (by omega) ?_)
        refine Or.inr (Or.inr ?_)
        repeat (with_reducible refine And.intro (by omega) ?_)
        intro cap hcap
        repeat (with_reducible refine And.intro (by omega) ?_)
        refine lpK_wk (⟨k + 1, out.set f (ix out f ++ [(k : Int)]), oc, fun q => bif q == f then cap else cp q, g, n⟩ : MState) ⟨hk, by simp only [List.length_set]; omega, by simp only [List.length_set]; omega, fun p hp => ?_, fun q hq => ?_, fun c j h => by simp only [List.length_set]; exact q6 c j h, by simp only; omega⟩ (show l.length - (k + 1) < l.length - k by omega)
          ((swk_place 6 f 9 (by omega) (by omega) (by omega) ?_).trans (Mt.wk (rl := [0, 1, 2, 3, 4, 5, 6]) ⟨by kernel_rfl, ?_, ?_⟩))
        · show p.length ≤ k + 1
          rcases List.mem_or_eq_of_mem_set hp with e | e
          · have := q4 p e
            omega
          · rw [e]; simp; omega
        · simp only [List.length_set] at hq ⊢
          have : (q == f) = false := by simp; omega
          rw [this]
          exact q5 q hq
        · simp only [push_cast, ↓branch_true, ↓branch_false, Nat.reduceBEq, Nat.reduceAdd, Nat.reduceMul, Nat.reduceSub, Int.reduceToNat, reduceCtorEq, branch_decide, branch_not, branch_beq, branch_bne]
          omega
        · simp only [push_cast, ↓branch_true, ↓branch_false, Nat.reduceBEq, Nat.reduceAdd, Nat.reduceMul, Nat.reduceSub, Int.reduceToNat, reduceCtorEq, branch_decide, branch_not, branch_beq, branch_bne, List.length_set]
          show mt _ (SV.m 4) (SV.m 4)
          simp only [push_cast, ↓branch_true, ↓branch_false, Nat.reduceBEq, Nat.reduceAdd, Nat.reduceMul, Nat.reduceSub, Int.reduceToNat, reduceCtorEq, branch_decide, branch_not, branch_beq, branch_bne]
        · simp only [push_cast, ↓branch_true, ↓branch_false, Nat.reduceBEq, Nat.reduceAdd, Nat.reduceMul, Nat.reduceSub, Int.reduceToNat, reduceCtorEq, branch_decide, branch_not, branch_beq, branch_bne, List.length_set]
          refine ⟨fun i1 hi1 q hq => ?_, fun q hq => ?_⟩
          · obtain rfl : i1 = 0 := by omega
            by_cases eq : q = f
            · subst eq
              simp only [push_cast, ↓branch_true, ↓branch_false, Nat.reduceBEq, Nat.reduceAdd, Nat.reduceMul, Nat.reduceSub, Int.reduceToNat, reduceCtorEq, branch_decide, branch_not, branch_beq, branch_bne, ix_setG_self hf, List.length_append]
            · have hb : (q == f) = false := by simpa using eq
              simp only [push_cast, ↓branch_true, ↓branch_false, Nat.reduceBEq, Nat.reduceAdd, Nat.reduceMul, Nat.reduceSub, Int.reduceToNat, reduceCtorEq, branch_decide, branch_not, branch_beq, branch_bne, ix_setG_ne eq, hb]
          · by_cases eq : q = f
            · subst eq
              simp only [push_cast, ↓branch_true, ↓branch_false, Nat.reduceBEq, Nat.reduceAdd, Nat.reduceMul, Nat.reduceSub, Int.reduceToNat, reduceCtorEq, branch_decide, branch_not, branch_beq, branch_bne, ix_setG_self hf, List.length_append]
              intro k' hk'
              by_cases e : k' < (ix out q).length
              · have hb2 : decide (k' < (ix out q).length) = true := by simpa using e
                rw [ix_app_ne (by omega), hb2]
                simp only [push_cast, ↓branch_true, ↓branch_false, Nat.reduceBEq, Nat.reduceAdd, Nat.reduceMul, Nat.reduceSub, Int.reduceToNat, reduceCtorEq, branch_decide, branch_not, branch_beq, branch_bne]
              · obtain rfl : k' = (ix out q).length := by omega
                have hb2 : decide ((ix out q).length < (ix out q).length) = false := by simp
                rw [ix_app_last, hb2]
                simp only [push_cast, ↓branch_true, ↓branch_false, Nat.reduceBEq, Nat.reduceAdd, Nat.reduceMul, Nat.reduceSub, Int.reduceToNat, reduceCtorEq, branch_decide, branch_not, branch_beq, branch_bne]
            · have hb : (q == f) = false := by simpa using eq
              simp only [push_cast, ↓branch_true, ↓branch_false, Nat.reduceBEq, Nat.reduceAdd, Nat.reduceMul, Nat.reduceSub, Int.reduceToNat, reduceCtorEq, branch_decide, branch_not, branch_beq, branch_bne, ix_setG_ne eq, hb]
      | none =>
        simp only [push_cast, ↓branch_true, ↓branch_false, Nat.reduceBEq, Nat.reduceAdd, Nat.reduceMul, Nat.reduceSub, Int.reduceToNat, reduceCtorEq, branch_decide, branch_not, branch_beq, branch_bne, Option.isSome_none]
        repeat (with_reducible refine And.intro (by omega) ?_)
        refine Or.inr ?_
        repeat (with_reducible refine And.intro (by omega) ?_)
        intro oc2 hoc2
        have hd : decide (out.length < out.length) = false := by simp
        simp only [push_cast, ↓branch_true, ↓branch_false, Nat.reduceBEq, Nat.reduceAdd, Nat.reduceMul, Nat.reduceSub, Int.reduceToNat, reduceCtorEq, branch_decide, branch_not, branch_beq, branch_bne, hd]
        repeat (with_reducible refine And.intro (by omega) ?_)
        intro cap hcap
        repeat (with_reducible refine And.intro (by omega) ?_)
        refine lpK_wk (⟨k + 1, out ++ [[(k : Int)]], oc2, fun q => bif q == out.length then cap else cp q, fun x => if x = cc then some (out.length : Int) else g x, n + 1⟩ : MState) ⟨hk, by simp only [List.length_append, List.length_singleton]; omega, by simp only [List.length_append, List.length_singleton]; omega, fun p hp => ?_, fun q hq => ?_, fun c j h => ?_, by simp only; omega⟩ (show l.length - (k + 1) < l.length - k by omega)
          ((swk_place 6 out.length 10 (by omega) (by omega) (by omega) ?_).trans (Mt.wk (rl := [0, 1, 2, 3, 4, 8, 6]) ⟨by kernel_rfl, ?_, ?_⟩))
        · show p.length ≤ k + 1
          rcases List.mem_append.1 hp with e | e
          · have := q4 p e
            omega
          · obtain rfl : p = [(k : Int)] := by simpa using e
            simp
        · simp only [List.length_append, List.length_singleton] at hq ⊢
          have : (q == out.length) = false := by simp; omega
          rw [this]
          exact q5 q (by omega)
        · simp only [List.length_append, List.length_singleton] at h ⊢
          split at h
          · obtain rfl : (out.length : Int) = j := by simpa using h
            omega
          · have := q6 c j h
            omega
        · simp only [push_cast, ↓branch_true, ↓branch_false, Nat.reduceBEq, Nat.reduceAdd, Nat.reduceMul, Nat.reduceSub, Int.reduceToNat, reduceCtorEq, branch_decide, branch_not, branch_beq, branch_bne]
          omega
        · simp only [push_cast, ↓branch_true, ↓branch_false, Nat.reduceBEq, Nat.reduceAdd, Nat.reduceMul, Nat.reduceSub, Int.reduceToNat, reduceCtorEq, branch_decide, branch_not, branch_beq, branch_bne, List.length_append]
          show mt _ (SV.m 4) (SV.m 4)
          simp only [push_cast, ↓branch_true, ↓branch_false, Nat.reduceBEq, Nat.reduceAdd, Nat.reduceMul, Nat.reduceSub, Int.reduceToNat, reduceCtorEq, branch_decide, branch_not, branch_beq, branch_bne]
        · simp only [push_cast, ↓branch_true, ↓branch_false, Nat.reduceBEq, Nat.reduceAdd, Nat.reduceMul, Nat.reduceSub, Int.reduceToNat, reduceCtorEq, branch_decide, branch_not, branch_beq, branch_bne, List.length_append]
          refine ⟨gM_up fun x => rfl, fun i1 hi1 q hq => ?_, fun q hq => ?_⟩
          · obtain rfl : i1 = 0 := by omega
            by_cases eq : q = out.length
            · subst eq
              simp only [push_cast, ↓branch_true, ↓branch_false, Nat.reduceBEq, Nat.reduceAdd, Nat.reduceMul, Nat.reduceSub, Int.reduceToNat, reduceCtorEq, branch_decide, branch_not, branch_beq, branch_bne, ix_app_last]
            · have hb : (q == out.length) = false := by simpa using eq
              have hb2 : decide (q < out.length) = true := by simp; omega
              simp only [push_cast, ↓branch_true, ↓branch_false, Nat.reduceBEq, Nat.reduceAdd, Nat.reduceMul, Nat.reduceSub, Int.reduceToNat, reduceCtorEq, branch_decide, branch_not, branch_beq, branch_bne, ix_app_ne eq, hb, hb2]
          · by_cases eq : q = out.length
            · subst eq
              simp only [push_cast, ↓branch_true, ↓branch_false, Nat.reduceBEq, Nat.reduceAdd, Nat.reduceMul, Nat.reduceSub, Int.reduceToNat, reduceCtorEq, branch_decide, branch_not, branch_beq, branch_bne, ix_app_last]
              intro k' hk'
              obtain rfl : k' = 0 := by omega
              show mtL _ [SV.v (.int .i64 k)] (plL 6 out.length 10 [SV.v (.int .i64 k)])
              simp only [push_cast, ↓branch_true, ↓branch_false, Nat.reduceBEq, Nat.reduceAdd, Nat.reduceMul, Nat.reduceSub, Int.reduceToNat, reduceCtorEq, branch_decide, branch_not, branch_beq, branch_bne]
            · have hb : (q == out.length) = false := by simpa using eq
              simp only [push_cast, ↓branch_true, ↓branch_false, Nat.reduceBEq, Nat.reduceAdd, Nat.reduceMul, Nat.reduceSub, Int.reduceToNat, reduceCtorEq, branch_decide, branch_not, branch_beq, branch_bne, ix_app_ne eq, hb]
    · skip
      cases hgc : g (k : Int) with
      | some j =>
        obtain ⟨j0, j1⟩ := q6 _ j hgc
        obtain ⟨f, rfl⟩ : ∃ f : Nat, j = (f : Int) := ⟨j.toNat, by omega⟩
        have hf : f < out.length := by omega
        have hrf := q4 _ (ix_mem hf)
        simp only [push_cast, ↓branch_true, ↓branch_false, Nat.reduceBEq, Nat.reduceAdd, Nat.reduceMul, Nat.reduceSub, Int.reduceToNat, reduceCtorEq, branch_decide, branch_not, branch_beq, branch_bne, Option.isSome_some, Option.getD_some]
        repeat (with_reducible refine And.intro (by omega) ?_)
        refine Or.inr (Or.inr ?_)
        repeat (with_reducible refine And.intro (by omega) ?_)
        intro cap hcap
        repeat (with_reducible refine And.intro (by omega) ?_)
        refine lpK_wk (⟨k + 1, out.set f (ix out f ++ [(k : Int)]), oc, fun q => bif q == f then cap else cp q, g, n⟩ : MState) ⟨hk, by simp only [List.length_set]; omega, by simp only [List.length_set]; omega, fun p hp => ?_, fun q hq => ?_, fun c j h => by simp only [List.length_set]; exact q6 c j h, by simp only; omega⟩ (show l.length - (k + 1) < l.length - k by omega)
          ((swk_place 6 f 9 (by omega) (by omega) (by omega) ?_).trans (Mt.wk (rl := [0, 1, 2, 3, 4, 5, 6]) ⟨by kernel_rfl, ?_, ?_⟩))
        · show p.length ≤ k + 1
          rcases List.mem_or_eq_of_mem_set hp with e | e
          · have := q4 p e
            omega
          · rw [e]; simp; omega
        · simp only [List.length_set] at hq ⊢
          have : (q == f) = false := by simp; omega
          rw [this]
          exact q5 q hq
        · simp only [push_cast, ↓branch_true, ↓branch_false, Nat.reduceBEq, Nat.reduceAdd, Nat.reduceMul, Nat.reduceSub, Int.reduceToNat, reduceCtorEq, branch_decide, branch_not, branch_beq, branch_bne]
          omega
        · simp only [push_cast, ↓branch_true, ↓branch_false, Nat.reduceBEq, Nat.reduceAdd, Nat.reduceMul, Nat.reduceSub, Int.reduceToNat, reduceCtorEq, branch_decide, branch_not, branch_beq, branch_bne, List.length_set]
          show mt _ (SV.m 4) (SV.m 4)
          simp only [push_cast, ↓branch_true, ↓branch_false, Nat.reduceBEq, Nat.reduceAdd, Nat.reduceMul, Nat.reduceSub, Int.reduceToNat, reduceCtorEq, branch_decide, branch_not, branch_beq, branch_bne]
        · simp only [push_cast, ↓branch_true, ↓branch_false, Nat.reduceBEq, Nat.reduceAdd, Nat.reduceMul, Nat.reduceSub, Int.reduceToNat, reduceCtorEq, branch_decide, branch_not, branch_beq, branch_bne, List.length_set]
          refine ⟨fun i1 hi1 q hq => ?_, fun q hq => ?_⟩
          · obtain rfl : i1 = 0 := by omega
            by_cases eq : q = f
            · subst eq
              simp only [push_cast, ↓branch_true, ↓branch_false, Nat.reduceBEq, Nat.reduceAdd, Nat.reduceMul, Nat.reduceSub, Int.reduceToNat, reduceCtorEq, branch_decide, branch_not, branch_beq, branch_bne, ix_setG_self hf, List.length_append]
            · have hb : (q == f) = false := by simpa using eq
              simp only [push_cast, ↓branch_true, ↓branch_false, Nat.reduceBEq, Nat.reduceAdd, Nat.reduceMul, Nat.reduceSub, Int.reduceToNat, reduceCtorEq, branch_decide, branch_not, branch_beq, branch_bne, ix_setG_ne eq, hb]
          · by_cases eq : q = f
            · subst eq
              simp only [push_cast, ↓branch_true, ↓branch_false, Nat.reduceBEq, Nat.reduceAdd, Nat.reduceMul, Nat.reduceSub, Int.reduceToNat, reduceCtorEq, branch_decide, branch_not, branch_beq, branch_bne, ix_setG_self hf, List.length_append]
              intro k' hk'
              by_cases e : k' < (ix out q).length
              · have hb2 : decide (k' < (ix out q).length) = true := by simpa using e
                rw [ix_app_ne (by omega), hb2]
                simp only [push_cast, ↓branch_true, ↓branch_false, Nat.reduceBEq, Nat.reduceAdd, Nat.reduceMul, Nat.reduceSub, Int.reduceToNat, reduceCtorEq, branch_decide, branch_not, branch_beq, branch_bne]
              · obtain rfl : k' = (ix out q).length := by omega
                have hb2 : decide ((ix out q).length < (ix out q).length) = false := by simp
                rw [ix_app_last, hb2]
                simp only [push_cast, ↓branch_true, ↓branch_false, Nat.reduceBEq, Nat.reduceAdd, Nat.reduceMul, Nat.reduceSub, Int.reduceToNat, reduceCtorEq, branch_decide, branch_not, branch_beq, branch_bne]
            · have hb : (q == f) = false := by simpa using eq
              simp only [push_cast, ↓branch_true, ↓branch_false, Nat.reduceBEq, Nat.reduceAdd, Nat.reduceMul, Nat.reduceSub, Int.reduceToNat, reduceCtorEq, branch_decide, branch_not, branch_beq, branch_bne, ix_setG_ne eq, hb]
      | none =>
        simp only [push_cast, ↓branch_true, ↓branch_false, Nat.reduceBEq, Nat.reduceAdd, Nat.reduceMul, Nat.reduceSub, Int.reduceToNat, reduceCtorEq, branch_decide, branch_not, branch_beq, branch_bne, Option.isSome_none]
        repeat (with_reducible refine And.intro (by omega) ?_)
        refine Or.inr ?_
        repeat (with_reducible refine And.intro (by omega) ?_)
        intro oc2 hoc2
        have hd : decide (out.length < out.length) = false := by simp
        simp only [push_cast, ↓branch_true, ↓branch_false, Nat.reduceBEq, Nat.reduceAdd, Nat.reduceMul, Nat.reduceSub, Int.reduceToNat, reduceCtorEq, branch_decide, branch_not, branch_beq, branch_bne, hd]
        repeat (with_reducible refine And.intro (by omega) ?_)
        intro cap hcap
        repeat (with_reducible refine And.intro (by omega) ?_)
        refine lpK_wk (⟨k + 1, out ++ [[(k : Int)]], oc2, fun q => bif q == out.length then cap else cp q, fun x => if x = (k : Int) then some (out.length : Int) else g x, n + 1⟩ : MState) ⟨hk, by simp only [List.length_append, List.length_singleton]; omega, by simp only [List.length_append, List.length_singleton]; omega, fun p hp => ?_, fun q hq => ?_, fun c j h => ?_, by simp only; omega⟩ (show l.length - (k + 1) < l.length - k by omega)
          ((swk_place 6 out.length 10 (by omega) (by omega) (by omega) ?_).trans (Mt.wk (rl := [0, 1, 2, 3, 4, 8, 6]) ⟨by kernel_rfl, ?_, ?_⟩))
        · show p.length ≤ k + 1
          rcases List.mem_append.1 hp with e | e
          · have := q4 p e
            omega
          · obtain rfl : p = [(k : Int)] := by simpa using e
            simp
        · simp only [List.length_append, List.length_singleton] at hq ⊢
          have : (q == out.length) = false := by simp; omega
          rw [this]
          exact q5 q (by omega)
        · simp only [List.length_append, List.length_singleton] at h ⊢
          split at h
          · obtain rfl : (out.length : Int) = j := by simpa using h
            omega
          · have := q6 c j h
            omega
        · simp only [push_cast, ↓branch_true, ↓branch_false, Nat.reduceBEq, Nat.reduceAdd, Nat.reduceMul, Nat.reduceSub, Int.reduceToNat, reduceCtorEq, branch_decide, branch_not, branch_beq, branch_bne]
          omega
        · simp only [push_cast, ↓branch_true, ↓branch_false, Nat.reduceBEq, Nat.reduceAdd, Nat.reduceMul, Nat.reduceSub, Int.reduceToNat, reduceCtorEq, branch_decide, branch_not, branch_beq, branch_bne, List.length_append]
          show mt _ (SV.m 4) (SV.m 4)
          simp only [push_cast, ↓branch_true, ↓branch_false, Nat.reduceBEq, Nat.reduceAdd, Nat.reduceMul, Nat.reduceSub, Int.reduceToNat, reduceCtorEq, branch_decide, branch_not, branch_beq, branch_bne]
        · simp only [push_cast, ↓branch_true, ↓branch_false, Nat.reduceBEq, Nat.reduceAdd, Nat.reduceMul, Nat.reduceSub, Int.reduceToNat, reduceCtorEq, branch_decide, branch_not, branch_beq, branch_bne, List.length_append]
          refine ⟨gM_up fun x => rfl, fun i1 hi1 q hq => ?_, fun q hq => ?_⟩
          · obtain rfl : i1 = 0 := by omega
            by_cases eq : q = out.length
            · subst eq
              simp only [push_cast, ↓branch_true, ↓branch_false, Nat.reduceBEq, Nat.reduceAdd, Nat.reduceMul, Nat.reduceSub, Int.reduceToNat, reduceCtorEq, branch_decide, branch_not, branch_beq, branch_bne, ix_app_last]
            · have hb : (q == out.length) = false := by simpa using eq
              have hb2 : decide (q < out.length) = true := by simp; omega
              simp only [push_cast, ↓branch_true, ↓branch_false, Nat.reduceBEq, Nat.reduceAdd, Nat.reduceMul, Nat.reduceSub, Int.reduceToNat, reduceCtorEq, branch_decide, branch_not, branch_beq, branch_bne, ix_app_ne eq, hb, hb2]
          · by_cases eq : q = out.length
            · subst eq
              simp only [push_cast, ↓branch_true, ↓branch_false, Nat.reduceBEq, Nat.reduceAdd, Nat.reduceMul, Nat.reduceSub, Int.reduceToNat, reduceCtorEq, branch_decide, branch_not, branch_beq, branch_bne, ix_app_last]
              intro k' hk'
              obtain rfl : k' = 0 := by omega
              show mtL _ [SV.v (.int .i64 k)] (plL 6 out.length 10 [SV.v (.int .i64 k)])
              simp only [push_cast, ↓branch_true, ↓branch_false, Nat.reduceBEq, Nat.reduceAdd, Nat.reduceMul, Nat.reduceSub, Int.reduceToNat, reduceCtorEq, branch_decide, branch_not, branch_beq, branch_bne]
            · have hb : (q == out.length) = false := by simpa using eq
              simp only [push_cast, ↓branch_true, ↓branch_false, Nat.reduceBEq, Nat.reduceAdd, Nat.reduceMul, Nat.reduceSub, Int.reduceToNat, reduceCtorEq, branch_decide, branch_not, branch_beq, branch_bne, ix_app_ne eq, hb]
  · have hrow : ∀ j, j < out.length → (ix out j).length ≤ 1000 := fun j hj => by
      have := q4 _ (ix_mem hj)
      omega
    refine sp_call (check_pu l out c oc (big + 2) cp (by omega) (by omega) (by omega) hrow) rfl [0, 5, 6] rfl ?_ ?_ ?_
    · simp only [push_cast, ↓branch_true, ↓branch_false, Nat.reduceBEq, Nat.reduceAdd, Nat.reduceMul, Nat.reduceSub, Int.reduceToNat, reduceCtorEq, branch_decide, branch_not, branch_beq, branch_bne]
    · simp only [push_cast, ↓branch_true, ↓branch_false, Nat.reduceBEq, Nat.reduceAdd, Nat.reduceMul, Nat.reduceSub, Int.reduceToNat, reduceCtorEq, branch_decide, branch_not, branch_beq, branch_bne]
    have hR : chkR l out = chkD l out := if_neg (by simp [hg])
    rw [hR, hg]
    have hle : chkD l out = true → out.length ≤ P.length := fun h => by
      have h3 : chkB l out := by
        unfold chkD at h
        exact @of_decide_eq_true _ (Classical.propDecidable _) h
      have := right_le h1 hz h3
      omega
    cases hD : chkD l out with
    | true =>
      have := hle hD
      simp only [push_cast, ↓branch_true, ↓branch_false, Nat.reduceBEq, Nat.reduceAdd, Nat.reduceMul, Nat.reduceSub, Int.reduceToNat, reduceCtorEq, branch_decide, branch_not, branch_beq, branch_bne]
      rw [decide_eq_true (by omega)]
    | false =>
      simp only [push_cast, ↓branch_true, ↓branch_false, Nat.reduceBEq, Nat.reduceAdd, Nat.reduceMul, Nat.reduceSub, Int.reduceToNat, reduceCtorEq, branch_decide, branch_not, branch_beq, branch_bne]
end Go.Proofs.YtapbhppfecfobaaDoor
