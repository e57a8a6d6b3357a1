/- Contract: the law about an order by sizes. -/
import Derived.Test.YtgbldceimdjblaaBF
import Derived.Test.YtgbldceimdjblaaBE
set_option maxRecDepth 100000
set_option linter.unusedSimpArgs false
set_option linter.unusedVariables false
namespace Go.Proofs.Ytgbldceimdjblaa
open Go.RowKit
/-- A variable that holds bars. -/
def rBoxB (j : Nat) (n c : Nat) : Ob := ⟨48, true, .st [.s j 0 0 n c 5]⟩
attribute [push_cast] rBoxB
theorem bySize_pu (l : List Br) (c : Nat) (x y : Int) (hx : 0 ≤ x ∧ x < l.length) (hy : 0 ≤ y ∧ y < l.length) : Pu Try.prog 35 [.v (.int .i64 x), .v (.int .i64 y), .p 0 0 0] [rBoxB 1 l.length c, rBr 2 l, rDm l] (.v (.int .i64 (cmpI (ix l x.toNat).size (ix l y.toNat).size))) := by
  refine pu_of_ex true [] mixed Try.call35 Try.func35 rfl Try.ntmps35 Try.results35 (by decide +kernel) rfl rfl rfl ?_
  simp only [push_cast, ↓branch_true, ↓branch_false, Nat.reduceBEq, Nat.reduceAdd, Nat.reduceMul, Nat.reduceSub, Int.reduceToNat, reduceCtorEq, branch_decide, branch_not, branch_beq, branch_bne]
  repeat (with_reducible refine And.intro (by omega) ?_)
  refine qc_call (cmpI_pu (ix l x.toNat).size (ix l y.toNat).size) rfl [] rfl (by simp only [push_cast, ↓branch_true, ↓branch_false, Nat.reduceBEq, Nat.reduceAdd, Nat.reduceMul, Nat.reduceSub, Int.reduceToNat, reduceCtorEq, branch_decide, branch_not, branch_beq, branch_bne]) (by simp only [push_cast, ↓branch_true, ↓branch_false, Nat.reduceBEq, Nat.reduceAdd, Nat.reduceMul, Nat.reduceSub, Int.reduceToNat, reduceCtorEq, branch_decide, branch_not, branch_beq, branch_bne]) ?_
  simp only [push_cast, ↓branch_true, ↓branch_false, Nat.reduceBEq, Nat.reduceAdd, Nat.reduceMul, Nat.reduceSub, Int.reduceToNat, reduceCtorEq, branch_decide, branch_not, branch_beq, branch_bne]
def VB (l : List Br) (x : Int) : Prop := 0 ≤ x ∧ x < l.length
theorem bySize_cmp (l : List Br) (c n cap : Nat) : Cmp 35 [] [.p 1 0 0] n cap [rBoxB 2 l.length c, rBr 3 l, rDm l] (VB l) (fun x y => cmpI (ix l x.toNat).size (ix l y.toNat).size) := fun f x y hx hy =>
  pu_at (bySize_pu l c x y hx hy) rfl [1, 2, 3] rfl (by (simp only [push_cast, ↓branch_true, ↓branch_false, Nat.reduceBEq, Nat.reduceAdd, Nat.reduceMul, Nat.reduceSub, Int.reduceToNat, reduceCtorEq, branch_decide, branch_not, branch_beq, branch_bne])) (by (simp only [push_cast, ↓branch_true, ↓branch_false, Nat.reduceBEq, Nat.reduceAdd, Nat.reduceMul, Nat.reduceSub, Int.reduceToNat, reduceCtorEq, branch_decide, branch_not, branch_beq, branch_bne]))
theorem knS {l : List Br} (h : l.length ≤ 100) : Kn (VB l) (fun y x => y < x) (fun x y => cmpI (ix l x.toNat).size (ix l y.toNat).size) (Ks l) := ⟨fun x y hx hy hO => by
  obtain ⟨x1, x2⟩ := hx
  obtain ⟨y1, y2⟩ := hy
  simp only [cmpI_neg, Ks]
  omega⟩
theorem allI_len (n : Nat) : (allI n).length = n := by simp [allI]
theorem allI_ix {n k : Nat} (h : k < n) : ix (allI n) k = (k : Int) := by
  rw [ix_eq (by rw [allI_len]; exact h)]
  simp [allI]
theorem sortS_sp (l : List Br) (c cap : Nat) (h : l.length ≤ 100) (hc : l.length ≤ cap) :
    Sp Try.prog 34 [.s 0 0 0 (allI l.length).length cap 1, .f (.func 35) [] [.p 1 0 0]] [rOwn 3 (allI l.length).length cap (fun k => ix (allI l.length) k), rBoxB 2 l.length c, rBr 3 l, rDm l] (fun r H' => ∃ f', r = .t [] ∧ H' = [rOwn 3 (allI l.length).length cap f', rBoxB 2 l.length c, rBr 3 l, rDm l] ∧ ∀ k, k < (allI l.length).length → f' k = ix (sortS l) k) := by
  refine sp_mono (sort_sp 35 [] [.p 1 0 0] _ cap [rBoxB 2 l.length c, rBr 3 l, rDm l] (VB l) _ _ (Ks l) _ (bySize_cmp l c _ cap) (knS h) (fun k _ hk => mem_allI.mp (ix_mem hk)) (fun p q h1 h2 => ?_) rfl (by rw [allI_len]; exact hc) (by rw [allI_len]; omega)) ?_
  · rw [allI_len] at h2
    rw [allI_ix (by omega), allI_ix h2]
    omega
  rintro r H' ⟨f', rfl, rfl, hi⟩
  refine ⟨f', rfl, rfl, sorted_of hi fun x hx y hy e => ?_⟩
  have h1 := mem_allI.mp hx
  have h2 := mem_allI.mp hy
  simp only [Ks] at e
  omega
theorem can_more {b : Br} {s t : Int} (h : canB b s t = true) : canB b (s + 1) (t + 1) = true := by
  simp only [canB, Bool.and_eq_true, decide_eq_true_eq] at h ⊢
  exact ⟨⟨h.1.1, by omega⟩, by omega⟩
theorem can_size {b : Br} {s t : Int} (h : canB b s t = true) : b.size ≤ s := by
  simp only [canB, Bool.and_eq_true, decide_eq_true_eq] at h
  exact h.1.2
theorem sorted_sp (l : List Br) (o : List Int) (wh bn : Int) (c co : Nat) (hoc : o.length ≤ co) (hl : l.length ≤ 9223372036854775807) (ho : o.length ≤ 9223372036854775807) (hd : OkDm l) (hw : 0 ≤ wh ∧ wh ≤ 255) (hbn : 0 ≤ bn ∧ bn ≤ 255) :
    Sp Try.prog 9 [.s 0 0 0 l.length c 5, .s 2 0 0 o.length co 1, .v (.int .u8 wh), .v (.int .u8 bn)] [rBr 1 l, rDm l, rInt 3 o] trueK := by
  refine sp_of_ex true [] mixed Try.call9 Try.func9 rfl Try.ntmps9 Try.results9 (by decide +kernel) rfl ?_
  simp only [push_cast, ↓branch_true, ↓branch_false, Nat.reduceBEq, Nat.reduceAdd, Nat.reduceMul, Nat.reduceSub, Int.reduceToNat, reduceCtorEq, branch_decide, branch_not, branch_beq, branch_bne]
  refine sp_at awake_sp [] rfl ?_ ?_ ?_
  · simp only [push_cast, ↓branch_true, ↓branch_false, Nat.reduceBEq, Nat.reduceAdd, Nat.reduceMul, Nat.reduceSub, Int.reduceToNat, reduceCtorEq, branch_decide, branch_not, branch_beq, branch_bne]
  · simp only [push_cast, ↓branch_true, ↓branch_false, Nat.reduceBEq, Nat.reduceAdd, Nat.reduceMul, Nat.reduceSub, Int.reduceToNat, reduceCtorEq, branch_decide, branch_not, branch_beq, branch_bne]
  rintro r0 H1 ⟨rfl, rfl⟩
  simp only [push_cast, ↓branch_true, ↓branch_false, Nat.reduceBEq, Nat.reduceAdd, Nat.reduceMul, Nat.reduceSub, Int.reduceToNat, reduceCtorEq, branch_decide, branch_not, branch_beq, branch_bne]
  refine ⟨fun _ => rfl, fun h20 => ?_⟩
  refine sp_call (containsBr_pu l c 25 [] [] [] wideB rfl (by omega) fun k hk => wideM_pu l k hk) rfl [0, 1] rfl ?_ ?_ ?_
  · simp only [push_cast, ↓branch_true, ↓branch_false, Nat.reduceBEq, Nat.reduceAdd, Nat.reduceMul, Nat.reduceSub, Int.reduceToNat, reduceCtorEq, branch_decide, branch_not, branch_beq, branch_bne]
  · simp only [push_cast, ↓branch_true, ↓branch_false, Nat.reduceBEq, Nat.reduceAdd, Nat.reduceMul, Nat.reduceSub, Int.reduceToNat, reduceCtorEq, branch_decide, branch_not, branch_beq, branch_bne]
  simp only [push_cast, ↓branch_true, ↓branch_false, Nat.reduceBEq, Nat.reduceAdd, Nat.reduceMul, Nat.reduceSub, Int.reduceToNat, reduceCtorEq, branch_decide, branch_not, branch_beq, branch_bne]
  cases hwl : l.any wideB
  case true =>
    simp only [push_cast, ↓branch_true, ↓branch_false, Nat.reduceBEq, Nat.reduceAdd, Nat.reduceMul, Nat.reduceSub, Int.reduceToNat, reduceCtorEq, branch_decide, branch_not, branch_beq, branch_bne]
    rfl
  simp only [push_cast, ↓branch_true, ↓branch_false, Nat.reduceBEq, Nat.reduceAdd, Nat.reduceMul, Nat.reduceSub, Int.reduceToNat, reduceCtorEq, branch_decide, branch_not, branch_beq, branch_bne]
  refine sp_call (sched_pu l c hl hd) rfl [0, 1] rfl ?_ ?_ ?_
  · simp only [push_cast, ↓branch_true, ↓branch_false, Nat.reduceBEq, Nat.reduceAdd, Nat.reduceMul, Nat.reduceSub, Int.reduceToNat, reduceCtorEq, branch_decide, branch_not, branch_beq, branch_bne]
  · simp only [push_cast, ↓branch_true, ↓branch_false, Nat.reduceBEq, Nat.reduceAdd, Nat.reduceMul, Nat.reduceSub, Int.reduceToNat, reduceCtorEq, branch_decide, branch_not, branch_beq, branch_bne]
  simp only [push_cast, ↓branch_true, ↓branch_false, Nat.reduceBEq, Nat.reduceAdd, Nat.reduceMul, Nat.reduceSub, Int.reduceToNat, reduceCtorEq, branch_decide, branch_not, branch_beq, branch_bne]
  cases hs : schedB l
  case false =>
    simp only [push_cast, ↓branch_true, ↓branch_false, Nat.reduceBEq, Nat.reduceAdd, Nat.reduceMul, Nat.reduceSub, Int.reduceToNat, reduceCtorEq, branch_decide, branch_not, branch_beq, branch_bne]
    rfl
  simp only [push_cast, ↓branch_true, ↓branch_false, Nat.reduceBEq, Nat.reduceAdd, Nat.reduceMul, Nat.reduceSub, Int.reduceToNat, reduceCtorEq, branch_decide, branch_not, branch_beq, branch_bne]
  refine ⟨fun _ => rfl, fun h100 => ?_⟩
  have h60 := schedB_len hs
  refine tr_loop mixed (by kernel_rfl) (fun (x : Nat × Nat × List Int × Nat) => [(42, .v (.int .i64 x.1)), (41, .v (.int .i64 l.length)), (40, .s 0 0 0 l.length c 5), (9, .s 4 0 0 (allI x.1).length x.2.1 1), (10, .s 5 0 0 x.2.2.1.length x.2.2.2 1), (4, .p 3 0 0), (1, .s 2 0 0 o.length co 1), (2, .v (.int .u8 wh)), (3, .v (.int .u8 bn))])
    (fun x => [rBr 1 l, rDm l, rInt 3 o, ⟨48, false, .st [.s 0 0 0 l.length c 5]⟩, rOwn 3 (allI x.1).length x.2.1 (fun k => ix (allI x.1) k), rOwn 3 x.2.2.1.length x.2.2.2 (fun k => ix x.2.2.1 k)])
    (fun x => x.1 ≤ l.length ∧ x.1 ≤ x.2.1 ∧ x.2.2.1.length ≤ x.2.2.2 ∧ (x.2.2.1.length : Int) = nd (szA l x.1) ∧ ∀ v, v ∈ x.2.2.1 ↔ v ∈ szA l x.1) (fun x => l.length - x.1) (0, 0, [], 0) ⟨Nat.zero_le _, Nat.le_refl _, Nat.le_refl _, rfl, fun v => Iff.rfl⟩ (Mt.wk (rl := [0, 1, 2, 3, 4, 5]) ⟨by kernel_rfl, ?_, ?_⟩) ?_
  · simp only [push_cast, ↓branch_true, ↓branch_false, Nat.reduceBEq, Nat.reduceAdd, Nat.reduceMul, Nat.reduceSub, Int.reduceToNat, reduceCtorEq, branch_decide, branch_not, branch_beq, branch_bne]
    exact rfl
  · simp only [push_cast, ↓branch_true, ↓branch_false, Nat.reduceBEq, Nat.reduceAdd, Nat.reduceMul, Nat.reduceSub, Int.reduceToNat, reduceCtorEq, branch_decide, branch_not, branch_beq, branch_bne]
    exact ⟨rfl, by omega⟩
  rintro ⟨k, c1, sz, c2⟩ ⟨h1, h2, h3, h4, h5⟩
  simp only at h1 h2 h3 h4 h5
  simp only [push_cast, ↓branch_true, ↓branch_false, Nat.reduceBEq, Nat.reduceAdd, Nat.reduceMul, Nat.reduceSub, Int.reduceToNat, reduceCtorEq, branch_decide, branch_not, branch_beq, branch_bne]
  refine ⟨fun h => ?_, fun h => ?_⟩
  · have hk : k < l.length := by omega
    have hal := allI_len k
    have eA : allI (k + 1) = allI k ++ [(k : Int)] := by simp [allI, List.range_succ]
    have hvk : vBar (ix l k) = true := by
      have := schedB_at hs hk
      simp only [okBr, Bool.and_eq_true] at this
      exact this.1
    have hc1 := canM_pu l k wh bn hk hd
    have hc2 := canM_pu l k (wh + 1) (bn + 1) hk hd
    rw [hvk] at hc1 hc2
    simp only [if_true] at hc1 hc2
    have hsz : sz.length ≤ k := by
      have := (nd_pos (szA l k)).2.1
      simp only [szA, List.length_map, List.length_range] at this h4
      omega
    have hin : (sz.any fun y => decide ((ix l k).size = y)) = decide ((ix l k).size ∈ szA l k) := by
      rw [Bool.eq_iff_iff, List.any_eq_true, decide_eq_true_eq, ← h5]
      exact ⟨fun ⟨y, y1, y2⟩ => by (rw [decide_eq_true_eq] at y2; rw [y2]; exact y1), fun hm => ⟨_, hm, by simp⟩⟩
    repeat (with_reducible refine And.intro (by omega) ?_)
    refine .inr ?_
    repeat (with_reducible refine And.intro (by omega) ?_)
    intro cap1 hcap1
    refine sp_call (containsV_pu sz (ix l k).size c2 (by omega)) rfl [5] rfl ?_ ?_ ?_
    · simp only [push_cast, ↓branch_true, ↓branch_false, Nat.reduceBEq, Nat.reduceAdd, Nat.reduceMul, Nat.reduceSub, Int.reduceToNat, reduceCtorEq, branch_decide, branch_not, branch_beq, branch_bne]
    · simp only [push_cast, ↓branch_true, ↓branch_false, Nat.reduceBEq, Nat.reduceAdd, Nat.reduceMul, Nat.reduceSub, Int.reduceToNat, reduceCtorEq, branch_decide, branch_not, branch_beq, branch_bne]
    simp only [push_cast, ↓branch_true, ↓branch_false, Nat.reduceBEq, Nat.reduceAdd, Nat.reduceMul, Nat.reduceSub, Int.reduceToNat, reduceCtorEq, branch_decide, branch_not, branch_beq, branch_bne]
    rw [hin]
    by_cases hm : (ix l k).size ∈ szA l k
    · simp only [hm, decide_true]
      simp only [push_cast, ↓branch_true, ↓branch_false, Nat.reduceBEq, Nat.reduceAdd, Nat.reduceMul, Nat.reduceSub, Int.reduceToNat, reduceCtorEq, branch_decide, branch_not, branch_beq, branch_bne]
      repeat (with_reducible refine And.intro (by omega) ?_)
      refine sp_call hc1 rfl [0, 1] rfl ?_ ?_ ?_
      · simp only [push_cast, ↓branch_true, ↓branch_false, Nat.reduceBEq, Nat.reduceAdd, Nat.reduceMul, Nat.reduceSub, Int.reduceToNat, reduceCtorEq, branch_decide, branch_not, branch_beq, branch_bne]
      · simp only [push_cast, ↓branch_true, ↓branch_false, Nat.reduceBEq, Nat.reduceAdd, Nat.reduceMul, Nat.reduceSub, Int.reduceToNat, reduceCtorEq, branch_decide, branch_not, branch_beq, branch_bne]
      simp only [push_cast, ↓branch_true, ↓branch_false, Nat.reduceBEq, Nat.reduceAdd, Nat.reduceMul, Nat.reduceSub, Int.reduceToNat, reduceCtorEq, branch_decide, branch_not, branch_beq, branch_bne]
      repeat (with_reducible refine And.intro (by omega) ?_)
      refine sp_call hc2 rfl [0, 1] rfl ?_ ?_ ?_
      · simp only [push_cast, ↓branch_true, ↓branch_false, Nat.reduceBEq, Nat.reduceAdd, Nat.reduceMul, Nat.reduceSub, Int.reduceToNat, reduceCtorEq, branch_decide, branch_not, branch_beq, branch_bne]
      · simp only [push_cast, ↓branch_true, ↓branch_false, Nat.reduceBEq, Nat.reduceAdd, Nat.reduceMul, Nat.reduceSub, Int.reduceToNat, reduceCtorEq, branch_decide, branch_not, branch_beq, branch_bne]
      simp only [push_cast, ↓branch_true, ↓branch_false, Nat.reduceBEq, Nat.reduceAdd, Nat.reduceMul, Nat.reduceSub, Int.reduceToNat, reduceCtorEq, branch_decide, branch_not, branch_beq, branch_bne]
      intro _ _
      cases hcan : canB (ix l k) wh bn
      · simp only [push_cast, ↓branch_true, ↓branch_false, Nat.reduceBEq, Nat.reduceAdd, Nat.reduceMul, Nat.reduceSub, Int.reduceToNat, reduceCtorEq, branch_decide, branch_not, branch_beq, branch_bne]
        repeat (with_reducible refine And.intro (by omega) ?_)
        refine lpK_normal (k + 1, cap1, sz, c2) [0, 1, 2, 3, 8, 5] ?_ ?_ (by kernel_rfl) ?_ ?_
        · exact ⟨by simp only; omega, by simp only; omega, h3, by simp only [szA_succ, nd_snoc]; rw [if_pos hm]; exact h4, fun v => by (simp only [szA_succ, List.mem_append, List.mem_singleton]; rw [h5 v]; exact ⟨fun h => .inl h, fun h => h.elim id fun e => e ▸ hm⟩)⟩
        · simp only; omega
        · simp only [push_cast, ↓branch_true, ↓branch_false, Nat.reduceBEq, Nat.reduceAdd, Nat.reduceMul, Nat.reduceSub, Int.reduceToNat, reduceCtorEq, branch_decide, branch_not, branch_beq, branch_bne]
          rw [eA]
          simp
        · simp only [push_cast, ↓branch_true, ↓branch_false, Nat.reduceBEq, Nat.reduceAdd, Nat.reduceMul, Nat.reduceSub, Int.reduceToNat, reduceCtorEq, branch_decide, branch_not, branch_beq, branch_bne]
          exact fun i hi => app_up eA i _
      · have hmore := can_more hcan
        have hsz2 := can_size hcan
        rw [hmore]
        simp only [push_cast, ↓branch_true, ↓branch_false, Nat.reduceBEq, Nat.reduceAdd, Nat.reduceMul, Nat.reduceSub, Int.reduceToNat, reduceCtorEq, branch_decide, branch_not, branch_beq, branch_bne]
        repeat (with_reducible refine And.intro (by omega) ?_)
        intro _
        repeat (with_reducible refine And.intro (by omega) ?_)
        refine lpK_normal (k + 1, cap1, sz, c2) [0, 1, 2, 3, 8, 5] ?_ ?_ (by kernel_rfl) ?_ ?_
        · exact ⟨by simp only; omega, by simp only; omega, h3, by simp only [szA_succ, nd_snoc]; rw [if_pos hm]; exact h4, fun v => by (simp only [szA_succ, List.mem_append, List.mem_singleton]; rw [h5 v]; exact ⟨fun h => .inl h, fun h => h.elim id fun e => e ▸ hm⟩)⟩
        · simp only; omega
        · simp only [push_cast, ↓branch_true, ↓branch_false, Nat.reduceBEq, Nat.reduceAdd, Nat.reduceMul, Nat.reduceSub, Int.reduceToNat, reduceCtorEq, branch_decide, branch_not, branch_beq, branch_bne]
          rw [eA]
          simp
        · simp only [push_cast, ↓branch_true, ↓branch_false, Nat.reduceBEq, Nat.reduceAdd, Nat.reduceMul, Nat.reduceSub, Int.reduceToNat, reduceCtorEq, branch_decide, branch_not, branch_beq, branch_bne]
          exact fun i hi => app_up eA i _
    · simp only [hm, decide_false]
      simp only [push_cast, ↓branch_true, ↓branch_false, Nat.reduceBEq, Nat.reduceAdd, Nat.reduceMul, Nat.reduceSub, Int.reduceToNat, reduceCtorEq, branch_decide, branch_not, branch_beq, branch_bne]
      repeat (with_reducible refine And.intro (by omega) ?_)
      refine .inr ?_
      repeat (with_reducible refine And.intro (by omega) ?_)
      intro cap2 hcap2
      repeat (with_reducible refine And.intro (by omega) ?_)
      refine sp_call hc1 rfl [0, 1] rfl ?_ ?_ ?_
      · simp only [push_cast, ↓branch_true, ↓branch_false, Nat.reduceBEq, Nat.reduceAdd, Nat.reduceMul, Nat.reduceSub, Int.reduceToNat, reduceCtorEq, branch_decide, branch_not, branch_beq, branch_bne]
      · simp only [push_cast, ↓branch_true, ↓branch_false, Nat.reduceBEq, Nat.reduceAdd, Nat.reduceMul, Nat.reduceSub, Int.reduceToNat, reduceCtorEq, branch_decide, branch_not, branch_beq, branch_bne]
      simp only [push_cast, ↓branch_true, ↓branch_false, Nat.reduceBEq, Nat.reduceAdd, Nat.reduceMul, Nat.reduceSub, Int.reduceToNat, reduceCtorEq, branch_decide, branch_not, branch_beq, branch_bne]
      repeat (with_reducible refine And.intro (by omega) ?_)
      refine sp_call hc2 rfl [0, 1] rfl ?_ ?_ ?_
      · simp only [push_cast, ↓branch_true, ↓branch_false, Nat.reduceBEq, Nat.reduceAdd, Nat.reduceMul, Nat.reduceSub, Int.reduceToNat, reduceCtorEq, branch_decide, branch_not, branch_beq, branch_bne]
      · simp only [push_cast, ↓branch_true, ↓branch_false, Nat.reduceBEq, Nat.reduceAdd, Nat.reduceMul, Nat.reduceSub, Int.reduceToNat, reduceCtorEq, branch_decide, branch_not, branch_beq, branch_bne]
      simp only [push_cast, ↓branch_true, ↓branch_false, Nat.reduceBEq, Nat.reduceAdd, Nat.reduceMul, Nat.reduceSub, Int.reduceToNat, reduceCtorEq, branch_decide, branch_not, branch_beq, branch_bne]
      intro _ _
      cases hcan : canB (ix l k) wh bn
      · simp only [push_cast, ↓branch_true, ↓branch_false, Nat.reduceBEq, Nat.reduceAdd, Nat.reduceMul, Nat.reduceSub, Int.reduceToNat, reduceCtorEq, branch_decide, branch_not, branch_beq, branch_bne]
        repeat (with_reducible refine And.intro (by omega) ?_)
        refine lpK_normal (k + 1, cap1, sz ++ [(ix l k).size], cap2) [0, 1, 2, 3, 8, 10] ?_ ?_ (by kernel_rfl) ?_ ?_
        · exact ⟨by simp only; omega, by simp only; omega, by simp only [List.length_append, List.length_cons, List.length_nil]; omega, by simp only [szA_succ, nd_snoc, List.length_append, List.length_cons, List.length_nil]; rw [if_neg hm]; omega, fun v => by (simp only [szA_succ, List.mem_append, List.mem_singleton]; rw [h5 v])⟩
        · simp only; omega
        · simp only [push_cast, ↓branch_true, ↓branch_false, Nat.reduceBEq, Nat.reduceAdd, Nat.reduceMul, Nat.reduceSub, Int.reduceToNat, reduceCtorEq, branch_decide, branch_not, branch_beq, branch_bne]
          rw [eA]
          simp
        · simp only [push_cast, ↓branch_true, ↓branch_false, Nat.reduceBEq, Nat.reduceAdd, Nat.reduceMul, Nat.reduceSub, Int.reduceToNat, reduceCtorEq, branch_decide, branch_not, branch_beq, branch_bne]
          exact ⟨fun i hi => app_up eA i _, fun i hi => app_up rfl i _⟩
      · have hmore := can_more hcan
        have hsz2 := can_size hcan
        rw [hmore]
        simp only [push_cast, ↓branch_true, ↓branch_false, Nat.reduceBEq, Nat.reduceAdd, Nat.reduceMul, Nat.reduceSub, Int.reduceToNat, reduceCtorEq, branch_decide, branch_not, branch_beq, branch_bne]
        repeat (with_reducible refine And.intro (by omega) ?_)
        intro _
        repeat (with_reducible refine And.intro (by omega) ?_)
        refine lpK_normal (k + 1, cap1, sz ++ [(ix l k).size], cap2) [0, 1, 2, 3, 8, 10] ?_ ?_ (by kernel_rfl) ?_ ?_
        · exact ⟨by simp only; omega, by simp only; omega, by simp only [List.length_append, List.length_cons, List.length_nil]; omega, by simp only [szA_succ, nd_snoc, List.length_append, List.length_cons, List.length_nil]; rw [if_neg hm]; omega, fun v => by (simp only [szA_succ, List.mem_append, List.mem_singleton]; rw [h5 v])⟩
        · simp only; omega
        · simp only [push_cast, ↓branch_true, ↓branch_false, Nat.reduceBEq, Nat.reduceAdd, Nat.reduceMul, Nat.reduceSub, Int.reduceToNat, reduceCtorEq, branch_decide, branch_not, branch_beq, branch_bne]
          rw [eA]
          simp
        · simp only [push_cast, ↓branch_true, ↓branch_false, Nat.reduceBEq, Nat.reduceAdd, Nat.reduceMul, Nat.reduceSub, Int.reduceToNat, reduceCtorEq, branch_decide, branch_not, branch_beq, branch_bne]
          exact ⟨fun i hi => app_up eA i _, fun i hi => app_up rfl i _⟩
  · obtain rfl : k = l.length := by omega
    have hsc := sortS_chg (l := l) (by omega)
    have hsl := sortS_len l
    have hso := ord_ok (sortS_perm l)
    have hse : sgivenE l (sortS l) = 0 := by rw [sgivenE, if_pos hs]; exact hso
    have hnp := nd_pos (szA l l.length)
    have hszl : sz.length ≤ l.length := by
      have := hnp.2.1
      simp only [szA, List.length_map, List.length_range] at this h4
      omega
    have hs1 := sortS_sp l c c1 (by omega) h2
    rw [allI_len] at hs1 ⊢
    refine sp_at hs1 [4, 3, 0, 1] rfl ?_ ?_ ?_
    · simp only [push_cast, ↓branch_true, ↓branch_false, Nat.reduceBEq, Nat.reduceAdd, Nat.reduceMul, Nat.reduceSub, Int.reduceToNat, reduceCtorEq, branch_decide, branch_not, branch_beq, branch_bne]
    · simp only [push_cast, ↓branch_true, ↓branch_false, Nat.reduceBEq, Nat.reduceAdd, Nat.reduceMul, Nat.reduceSub, Int.reduceToNat, reduceCtorEq, branch_decide, branch_not, branch_beq, branch_bne]
    rintro r0 H1 ⟨f1, rfl, rfl, hf1⟩
    simp only [push_cast, ↓branch_true, ↓branch_false, Nat.reduceBEq, Nat.reduceAdd, Nat.reduceMul, Nat.reduceSub, Int.reduceToNat, reduceCtorEq, branch_decide, branch_not, branch_beq, branch_bne]
    have hst := setups_pu l (sortS l) c c1 (by omega) hl (by omega) hd
    rw [hse, hsc, hsl] at hst
    simp only [if_true] at hst
    refine sp_call hst rfl [0, 1, 4] rfl ?_ ?_ ?_
    · simp only [push_cast, ↓branch_true, ↓branch_false, Nat.reduceBEq, Nat.reduceAdd, Nat.reduceMul, Nat.reduceSub, Int.reduceToNat, reduceCtorEq, branch_decide, branch_not, branch_beq, branch_bne]
    · simp only [push_cast, ↓branch_true, ↓branch_false, Nat.reduceBEq, Nat.reduceAdd, Nat.reduceMul, Nat.reduceSub, Int.reduceToNat, reduceCtorEq, branch_decide, branch_not, branch_beq, branch_bne]
      exact fun i hi => ⟨by omega, fun k hk => by rw [hf1 k (by omega)]⟩
    simp only [push_cast, ↓branch_true, ↓branch_false, Nat.reduceBEq, Nat.reduceAdd, Nat.reduceMul, Nat.reduceSub, Int.reduceToNat, reduceCtorEq, branch_decide, branch_not, branch_beq, branch_bne]
    intro _
    repeat (with_reducible refine And.intro (by omega) ?_)
    rw [← h4] at hsc ⊢
    refine ⟨fun _ => ?_, fun hx => absurd rfl hx⟩
    refine sp_call (setups_pu l o c co hoc hl (by omega) hd) rfl [0, 1, 2] rfl ?_ ?_ ?_
    · simp only [push_cast, ↓branch_true, ↓branch_false, Nat.reduceBEq, Nat.reduceAdd, Nat.reduceMul, Nat.reduceSub, Int.reduceToNat, reduceCtorEq, branch_decide, branch_not, branch_beq, branch_bne]
    · simp only [push_cast, ↓branch_true, ↓branch_false, Nat.reduceBEq, Nat.reduceAdd, Nat.reduceMul, Nat.reduceSub, Int.reduceToNat, reduceCtorEq, branch_decide, branch_not, branch_beq, branch_bne]
    simp only [push_cast, ↓branch_true, ↓branch_false, Nat.reduceBEq, Nat.reduceAdd, Nat.reduceMul, Nat.reduceSub, Int.reduceToNat, reduceCtorEq, branch_decide, branch_not, branch_beq, branch_bne]
    refine ⟨fun h0 => ?_, fun _ => rfl⟩
    have h0' := h0
    rw [sgivenE, if_pos hs] at h0'
    obtain ⟨o1, o2⟩ := ordE_0 h0'
    have hany := any_chg (order_perm o1 (fun j hj => ⟨(o2 j hj).1, (o2 j hj).2.1⟩) fun j i hj hi => (o2 j hj).2.2 i hi)
    rw [← h4] at hany
    rw [if_pos h0, decide_eq_true hany]
    rfl
end Go.Proofs.Ytgbldceimdjblaa
