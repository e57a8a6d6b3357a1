/- PatternBetter: the walk, and its plain facts. -/
import Derived.Test.YthnpnoclhmneoaaAB
set_option maxRecDepth 100000
set_option linter.unusedSimpArgs false
set_option linter.unusedVariables false
namespace Go.Proofs.Ythnpnoclhmneoaa
open Go.RowKit
theorem fold_same {pr : List Int} : ∀ {E : List (List Int)} {s : Bst}, E.foldl (pickB [] 0 pr) s = s ∨ s.2 < (E.foldl (pickB [] 0 pr) s).2
  | [], s => .inl rfl
  | q :: E, s => by
    rw [List.foldl_cons]
    have h := fold_max (pr := pr) (E := E) (s := pickB [] 0 pr s q)
    by_cases c : s.2 < 0 + priceL q pr
    · have e : pickB [] 0 pr s q = ([] ++ q, 0 + priceL q pr) := by unfold pickB; rw [if_pos c]
      right
      have h2 := h.2.1
      rw [e] at h2 ⊢
      exact Int.lt_of_lt_of_le c h2
    · have e : pickB [] 0 pr s q = s := by unfold pickB; rw [if_neg c]
      rw [e]
      exact fold_same
theorem fold_first {pr : List Int} : ∀ {E : List (List Int)} {s : Bst}, descL E → s.2 < (E.foldl (pickB [] 0 pr) s).2 → ∀ q ∈ E, priceL q pr = (E.foldl (pickB [] 0 pr) s).2 → q = (E.foldl (pickB [] 0 pr) s).1 ∨ cmpL q (E.foldl (pickB [] 0 pr) s).1 = -1
  | [], s, _, _, q, hq, _ => by simp at hq
  | q0 :: E, s, hd, hs, q, hq, hp => by
    obtain ⟨d1, d2⟩ := List.pairwise_cons.1 hd
    rw [List.foldl_cons] at hs hp ⊢
    by_cases c : s.2 < 0 + priceL q0 pr
    · have e : pickB [] 0 pr s q0 = (q0, priceL q0 pr) := by unfold pickB; rw [if_pos c]; simp
      rw [e] at hs hp ⊢
      rcases fold_same (pr := pr) (E := E) (s := (q0, priceL q0 pr)) with h | h
      · rw [h]
        rcases List.mem_cons.1 hq with rfl | hq
        · exact .inl rfl
        · exact .inr (d1 q hq)
      · rcases List.mem_cons.1 hq with rfl | hq
        · simp only at h; omega
        · exact fold_first d2 h q hq hp
    · have e : pickB [] 0 pr s q0 = s := by unfold pickB; rw [if_neg c]
      rw [e] at hs hp ⊢
      rcases List.mem_cons.1 hq with rfl | hq
      · omega
      · exact fold_first d2 hs q hq hp
theorem cmpL_self : ∀ (a : List Int), cmpL a a = 0
  | [] => rfl
  | x :: a => by simp [cmpL, cmpL_self a]
theorem best_first {length : Int} {l : List Pc} {pr : List Int} (h : bestE length l pr = 0) {q : List Int} (hq : Fit length l q) (hp : priceL q pr = (bestS length l pr).2) : cmpL q (bestS length l pr).1 ≤ 0 := by
  obtain ⟨h1, h2, h3⟩ := bestE_0 h
  obtain ⟨g1, g2, g3, g4⟩ := given_0 h1
  have hb := bestS_fold g1 (show 0 ≤ length by omega) (show pr.length = l.length by omega) (fun x hx => (h2 x hx).1) h
  have h0 := (priceL_bound (inB_vals g1 hq.2.1 hq.1) h2).1
  have hm := (mem_eachG (l := l) (left := length) (posL_of g1) (by omega)).2 hq
  have := fold_first (pr := pr) (s := ([], -1)) (each_desc (l := l) (left := length)) (by rw [← hb]; simp only; omega) q hm (by rw [← hb]; exact hp)
  rw [← hb] at this
  rcases this with h | h
  · rw [← h, cmpL_self]; omega
  · omega
theorem priceL_lens : ∀ {l : List Pc} {q : List Int}, priceL q (lensF l) = sumL l q
  | [], [] => rfl
  | [], _ :: _ => rfl
  | p :: l, [] => rfl
  | p :: l, n :: q => by
    have := priceL_lens (l := l) (q := q)
    simp only [lensF, List.map_cons, priceL, sumL] at this ⊢
    rw [this, Int.mul_comm]
theorem lens_ok {length : Int} {l : List Pc} (h : givenE length l l.length = 0) (hl : l.length ≤ 10) : bestE length l (lensF l) = 0 := by
  obtain ⟨g1, g2, g3, g4⟩ := given_0 h
  refine bestE_of (by rw [lensF_len]; exact h) (fun x hx => ?_) hl
  obtain ⟨p, hp, rfl⟩ := List.mem_map.1 hx
  have := order_pos g1 p hp
  omega
theorem BstOk.len {n nb bi bl bc : Nat} {caps : Nat → Nat} {bf : List (List Int)} {s : Bst} (h : BstOk n nb bi bl bc caps bf s) : bl = s.1.length := by
  rcases h.2 with ⟨h1, _, h3⟩ | ⟨_, h2, _, _, h5⟩
  · rw [h1, h3]; rfl
  · rw [h2, h5]
/-- The price function of the law. -/
theorem price29_pu (P : List (List Int)) (a : Nat) (pr : List Int) (c cp : Nat) (ha : a < P.length) (h : (ix P a).length = pr.length) (hl : (ix P a).length ≤ 200) (hq : ∀ x ∈ ix P a, 0 ≤ x ∧ x ≤ 1000000) (hp : ∀ x ∈ pr, 0 ≤ x ∧ x ≤ 1073741824) :
    Pu Try.prog 29 [.s 0 a 0 (ix P a).length c 1, .p 1 0 0] [rLL P, rBox 2 pr cp, rInt 3 pr] (.v (.int .i64 (priceL (ix P a) pr))) := by
  refine pu_of_ex true [] mixed Try.call29 Try.func29 rfl Try.ntmps29 Try.results29 (by decide +kernel) rfl rfl rfl ?_
  simp only [push_cast, ↓branch_true, ↓branch_false, Nat.reduceBEq, Nat.reduceAdd, Nat.reduceMul, Nat.reduceSub, Int.reduceToNat, reduceCtorEq, branch_decide, branch_not, branch_beq, branch_bne]
  refine tr_loop0 mixed (by kernel_rfl) (fun (x : Nat × Int) => [(9, .v (.int .i64 x.1)), (4, .v (.int .i64 x.2)), (8, .v (.int .i64 (ix P a).length)), (7, .s 0 a 0 (ix P a).length c 1), (1, .p 1 0 0)]) (fun x => x.1 ≤ (ix P a).length ∧ 0 ≤ x.2 ∧ x.2 + priceL ((ix P a).drop x.1) (pr.drop x.1) = priceL (ix P a) pr) (fun x => (ix P a).length - x.1) (0, 0) ⟨Nat.zero_le _, Int.le_refl _, by simp⟩ ?_ ?_
  · simp only [push_cast, ↓branch_true, ↓branch_false, Nat.reduceBEq, Nat.reduceAdd, Nat.reduceMul, Nat.reduceSub, Int.reduceToNat, reduceCtorEq, branch_decide, branch_not, branch_beq, branch_bne]
  rintro ⟨k, s⟩ ⟨r1, r0, r2⟩
  simp only at r1 r2 r0
  obtain ⟨b1, b2⟩ := priceL_bound hq hp
  simp only [push_cast, ↓branch_true, ↓branch_false, Nat.reduceBEq, Nat.reduceAdd, Nat.reduceMul, Nat.reduceSub, Int.reduceToNat, reduceCtorEq, branch_decide, branch_not, branch_beq, branch_bne]
  refine ⟨fun h1 => ?_, fun h1 => ?_⟩
  · have hk : k < (ix P a).length := by omega
    have hk2 : k < pr.length := by omega
    have q1 := hq _ (ix_mem hk)
    have p1 := hp _ (ix_mem hk2)
    have m1 := Int.mul_nonneg q1.1 p1.1
    have m2 : ix (ix P a) k * ix pr k ≤ 1000000 * 1073741824 := Int.mul_le_mul q1.2 p1.2 p1.1 (by omega)
    have hs := priceL_step hk hk2
    have hn := (priceL_bound (q := (ix P a).drop (k + 1)) (pr := pr.drop (k + 1)) (fun x hx => hq x (List.mem_of_mem_drop hx)) fun x hx => hp x (List.mem_of_mem_drop hx)).1
    repeat (with_reducible refine And.intro (by omega) ?_)
    refine lp0_normal (k + 1, s + ix (ix P a) k * ix pr k) ⟨by simp only; omega, by simp only; omega, by simp only; omega⟩ (by simp only; omega) ?_
    simp only [push_cast, ↓branch_true, ↓branch_false, Nat.reduceBEq, Nat.reduceAdd, Nat.reduceMul, Nat.reduceSub, Int.reduceToNat, reduceCtorEq, branch_decide, branch_not, branch_beq, branch_bne]
  · obtain rfl : k = (ix P a).length := by omega
    have : s = priceL (ix P a) pr := by
      rw [List.drop_length] at r2
      simp only [priceL] at r2
      omega
    rw [this]
theorem wasteB_pu {length : Int} {l : List Pc} {c nb bi bl bc : Nat} {caps : Nat → Nat} {bf : List (List Int)} {s : Bst} (hl : l.length ≤ 200) (h : BstOk l.length nb bi bl bc caps bf s) :
    Pu Try.prog 23 [.v (.int .i64 length), .s 0 0 0 l.length c 2, .s 1 bi 0 bl bc 1] [rPc l, rFam l.length nb bf] (wasteV length l s.1) := by
  obtain ⟨a0, h⟩ := h
  rcases h with ⟨rfl, rfl, h⟩ | ⟨a1, rfl, a2, a3, a4⟩
  · rw [h]
    refine pu_at (waste_pu length l [] c 0 (by omega)) rfl [0, 2] rfl ?_ ?_
    · simp only [push_cast, ↓branch_true, ↓branch_false, Nat.reduceBEq, Nat.reduceAdd, Nat.reduceMul, Nat.reduceSub, Int.reduceToNat, reduceCtorEq, branch_decide, branch_not, branch_beq, branch_bne]
    · simp only [push_cast, ↓branch_true, ↓branch_false, Nat.reduceBEq, Nat.reduceAdd, Nat.reduceMul, Nat.reduceSub, Int.reduceToNat, reduceCtorEq, branch_decide, branch_not, branch_beq, branch_bne]
  · have := wasteM_pu length l (onlyAt nb bi s.1) bi c bc (by rw [onlyAt_len]; exact a1) (by omega)
    rw [onlyAt_ix a1, if_pos rfl, a4] at this
    refine pu_at this rfl [0, 1] rfl ?_ ?_
    · simp only [push_cast, ↓branch_true, ↓branch_false, Nat.reduceBEq, Nat.reduceAdd, Nat.reduceMul, Nat.reduceSub, Int.reduceToNat, reduceCtorEq, branch_decide, branch_not, branch_beq, branch_bne]
    · simp only [push_cast, ↓branch_true, ↓branch_false, Nat.reduceBEq, Nat.reduceAdd, Nat.reduceMul, Nat.reduceSub, Int.reduceToNat, reduceCtorEq, branch_decide, branch_not, branch_beq, branch_bne]
      exact only_ob a3 a4
theorem validB_pu {length : Int} {l : List Pc} {c nb bi bl bc : Nat} {caps : Nat → Nat} {bf : List (List Int)} {s : Bst} (hl : l.length ≤ 200) (h : BstOk l.length nb bi bl bc caps bf s) :
    Pu Try.prog 22 [.v (.int .i64 length), .s 0 0 0 l.length c 2, .s 1 bi 0 bl bc 1] [rPc l, rFam l.length nb bf] (validV length l s.1) := by
  obtain ⟨a0, h⟩ := h
  rcases h with ⟨rfl, rfl, h⟩ | ⟨a1, rfl, a2, a3, a4⟩
  · rw [h]
    refine pu_at (valid_pu length l [] c 0 (by omega)) rfl [0, 2] rfl ?_ ?_
    · simp only [push_cast, ↓branch_true, ↓branch_false, Nat.reduceBEq, Nat.reduceAdd, Nat.reduceMul, Nat.reduceSub, Int.reduceToNat, reduceCtorEq, branch_decide, branch_not, branch_beq, branch_bne]
    · simp only [push_cast, ↓branch_true, ↓branch_false, Nat.reduceBEq, Nat.reduceAdd, Nat.reduceMul, Nat.reduceSub, Int.reduceToNat, reduceCtorEq, branch_decide, branch_not, branch_beq, branch_bne]
  · have := validM_pu length l (onlyAt nb bi s.1) bi c bc (by rw [onlyAt_len]; exact a1) (by omega)
    rw [onlyAt_ix a1, if_pos rfl, a4] at this
    refine pu_at this rfl [0, 1] rfl ?_ ?_
    · simp only [push_cast, ↓branch_true, ↓branch_false, Nat.reduceBEq, Nat.reduceAdd, Nat.reduceMul, Nat.reduceSub, Int.reduceToNat, reduceCtorEq, branch_decide, branch_not, branch_beq, branch_bne]
    · simp only [push_cast, ↓branch_true, ↓branch_false, Nat.reduceBEq, Nat.reduceAdd, Nat.reduceMul, Nat.reduceSub, Int.reduceToNat, reduceCtorEq, branch_decide, branch_not, branch_beq, branch_bne]
      exact only_ob a3 a4
theorem price29B_pu {n nb bi bl bc cp : Nat} {pr : List Int} {caps : Nat → Nat} {bf : List (List Int)} {s : Bst} (h : BstOk n nb bi bl bc caps bf s) (hs : s.1.length = pr.length) (hl : pr.length ≤ 200) (hq : ∀ x ∈ s.1, 0 ≤ x ∧ x ≤ 1000000) (hp : ∀ x ∈ pr, 0 ≤ x ∧ x ≤ 1073741824) :
    Pu Try.prog 29 [.s 0 bi 0 bl bc 1, .p 1 0 0] [rFam n nb bf, rBox 2 pr cp, rInt 3 pr] (.v (.int .i64 (priceL s.1 pr))) := by
  obtain ⟨a0, h⟩ := h
  rcases h with ⟨rfl, rfl, h⟩ | ⟨a1, rfl, a2, a3, a4⟩
  · rw [h] at hs hq ⊢
    have := price29_pu [[]] 0 pr 0 cp (by simp) hs (by simp [ix]) (fun x hx => by simp [ix] at hx) hp
    refine pu_at this rfl [3, 1, 2] rfl ?_ ?_
    · simp only [push_cast, ↓branch_true, ↓branch_false, Nat.reduceBEq, Nat.reduceAdd, Nat.reduceMul, Nat.reduceSub, Int.reduceToNat, reduceCtorEq, branch_decide, branch_not, branch_beq, branch_bne]
      rfl
    · simp only [push_cast, ↓branch_true, ↓branch_false, Nat.reduceBEq, Nat.reduceAdd, Nat.reduceMul, Nat.reduceSub, Int.reduceToNat, reduceCtorEq, branch_decide, branch_not, branch_beq, branch_bne]
      rfl
  · have := price29_pu (onlyAt nb bi s.1) bi pr bc cp (by rw [onlyAt_len]; exact a1) (by rw [onlyAt_ix a1, if_pos rfl]; exact hs) (by rw [onlyAt_ix a1, if_pos rfl]; omega) (by rw [onlyAt_ix a1, if_pos rfl]; exact hq) hp
    rw [onlyAt_ix a1, if_pos rfl, a4] at this
    refine pu_at this rfl [0, 1, 2] rfl ?_ ?_
    · simp only [push_cast, ↓branch_true, ↓branch_false, Nat.reduceBEq, Nat.reduceAdd, Nat.reduceMul, Nat.reduceSub, Int.reduceToNat, reduceCtorEq, branch_decide, branch_not, branch_beq, branch_bne]
    · simp only [push_cast, ↓branch_true, ↓branch_false, Nat.reduceBEq, Nat.reduceAdd, Nat.reduceMul, Nat.reduceSub, Int.reduceToNat, reduceCtorEq, branch_decide, branch_not, branch_beq, branch_bne]
      exact only_ob a3 a4
theorem compareB_pu {n nb bi bl bc cp : Nat} {p : List Int} {caps : Nat → Nat} {bf : List (List Int)} {s : Bst} (h : BstOk n nb bi bl bc caps bf s) (hn : n ≤ 200) (hp : p.length ≤ 200) :
    Pu Try.prog 30 [.s 0 0 0 p.length cp 1, .s 1 bi 0 bl bc 1] [rInt 3 p, rFam n nb bf] (.v (.int .i64 (cmpL p s.1))) := by
  obtain ⟨a0, h⟩ := h
  have e1 : ix [p] 0 = p := rfl
  rcases h with ⟨rfl, rfl, h⟩ | ⟨a1, rfl, a2, a3, a4⟩
  · have := compare_pu [p] [[]] 0 0 cp 0 (by simp) (by simp) (by rw [e1]; omega) (by decide)
    rw [h]
    refine pu_at this rfl [0, 2] rfl ?_ ?_
    · simp only [push_cast, ↓branch_true, ↓branch_false, Nat.reduceBEq, Nat.reduceAdd, Nat.reduceMul, Nat.reduceSub, Int.reduceToNat, reduceCtorEq, branch_decide, branch_not, branch_beq, branch_bne]
      exact ⟨rfl, rfl⟩
    · simp only [push_cast, ↓branch_true, ↓branch_false, Nat.reduceBEq, Nat.reduceAdd, Nat.reduceMul, Nat.reduceSub, Int.reduceToNat, reduceCtorEq, branch_decide, branch_not, branch_beq, branch_bne]
      exact ⟨fun i hi => by (obtain rfl : i = 0 := by omega); exact ⟨Nat.le_refl _, fun k hk => rfl⟩, rfl⟩
  · have := compare_pu [p] (onlyAt nb bi s.1) 0 bi cp bc (by simp) (by rw [onlyAt_len]; exact a1) (by rw [e1]; omega) (by rw [onlyAt_ix a1, if_pos rfl]; omega)
    rw [onlyAt_ix a1, if_pos rfl, a4, e1] at this
    refine pu_at this rfl [0, 1] rfl ?_ ?_
    · simp only [push_cast, ↓branch_true, ↓branch_false, Nat.reduceBEq, Nat.reduceAdd, Nat.reduceMul, Nat.reduceSub, Int.reduceToNat, reduceCtorEq, branch_decide, branch_not, branch_beq, branch_bne]
    · simp only [push_cast, ↓branch_true, ↓branch_false, Nat.reduceBEq, Nat.reduceAdd, Nat.reduceMul, Nat.reduceSub, Int.reduceToNat, reduceCtorEq, branch_decide, branch_not, branch_beq, branch_bne]
      exact ⟨fun i hi => by (obtain rfl : i = 0 := by omega); exact ⟨Nat.le_refl _, fun k hk => rfl⟩, only_ob a3 a4⟩
theorem better_sp7 (length : Int) (l : List Pc) (pr p : List Int) (c cp cq : Nat) (hl : l.length ≤ 9223372036854775807) (hl2 : pr.length ≤ 9223372036854775807) (hl3 : p.length ≤ 9223372036854775807) :
    Sp Try.prog 7 [.v (.int .i64 length), .s 0 0 0 l.length c 2, .s 1 0 0 pr.length cp 1, .s 2 0 0 p.length cq 1] [rPc l, rInt 3 pr, rInt 3 p] trueK := by
  refine sp_of_ex true [] mixed Try.call7 Try.func7 rfl Try.ntmps7 Try.results7 (by decide +kernel) rfl ?_
  simp only [push_cast, ↓branch_true, ↓branch_false, Nat.reduceBEq, Nat.reduceAdd, Nat.reduceMul, Nat.reduceSub, Int.reduceToNat, reduceCtorEq, branch_decide, branch_not, branch_beq, branch_bne]
  refine sp_at awake_sp [] rfl (by (simp only [push_cast, ↓branch_true, ↓branch_false, Nat.reduceBEq, Nat.reduceAdd, Nat.reduceMul, Nat.reduceSub, Int.reduceToNat, reduceCtorEq, branch_decide, branch_not, branch_beq, branch_bne])) (by (simp only [push_cast, ↓branch_true, ↓branch_false, Nat.reduceBEq, Nat.reduceAdd, Nat.reduceMul, Nat.reduceSub, Int.reduceToNat, reduceCtorEq, branch_decide, branch_not, branch_beq, branch_bne])) ?_
  rintro r0 H1 ⟨rfl, rfl⟩
  simp only [push_cast, ↓branch_true, ↓branch_false, Nat.reduceBEq, Nat.reduceAdd, Nat.reduceMul, Nat.reduceSub, Int.reduceToNat, reduceCtorEq, branch_decide, branch_not, branch_beq, branch_bne]
  refine sp_call (ready_pu length l c hl) rfl [0] rfl (by simp only [push_cast, ↓branch_true, ↓branch_false, Nat.reduceBEq, Nat.reduceAdd, Nat.reduceMul, Nat.reduceSub, Int.reduceToNat, reduceCtorEq, branch_decide, branch_not, branch_beq, branch_bne]) (by simp only [push_cast, ↓branch_true, ↓branch_false, Nat.reduceBEq, Nat.reduceAdd, Nat.reduceMul, Nat.reduceSub, Int.reduceToNat, reduceCtorEq, branch_decide, branch_not, branch_beq, branch_bne]) ?_
  simp only [push_cast, ↓branch_true, ↓branch_false, Nat.reduceBEq, Nat.reduceAdd, Nat.reduceMul, Nat.reduceSub, Int.reduceToNat, reduceCtorEq, branch_decide, branch_not, branch_beq, branch_bne]
  simp only [branch]
  refine ⟨fun hr => ?_, fun _ => rfl⟩
  obtain ⟨r1, r2, r3⟩ := ready_given hr
  obtain ⟨g1, g2, g3, g4⟩ := given_0 r3
  have hpos := posL_of g1
  refine ⟨fun _ => rfl, fun hp => ⟨fun _ => rfl, fun hpp => ?_⟩⟩
  refine sp_at (fullestX_sp length l c (by omega)) [0] rfl ?_ ?_ ?_
  · simp only [push_cast, ↓branch_true, ↓branch_false, Nat.reduceBEq, Nat.reduceAdd, Nat.reduceMul, Nat.reduceSub, Int.reduceToNat, reduceCtorEq, branch_decide, branch_not, branch_beq, branch_bne]
  · simp only [push_cast, ↓branch_true, ↓branch_false, Nat.reduceBEq, Nat.reduceAdd, Nat.reduceMul, Nat.reduceSub, Int.reduceToNat, reduceCtorEq, branch_decide, branch_not, branch_beq, branch_bne]
  rintro r0 H1 ⟨n1, i1, l1, c1, k1, h1, rfl, b1, rfl⟩
  simp only [push_cast, ↓branch_true, ↓branch_false, Nat.reduceBEq, Nat.reduceAdd, Nat.reduceMul, Nat.reduceSub, Int.reduceToNat, reduceCtorEq, branch_decide, branch_not, branch_beq, branch_bne]
  have z0 := lens_ok r3 (by omega)
  obtain ⟨f1, f2, f3⟩ := best_max z0
  have hfull : fullW length l = length - (bestS length l (lensF l)).2 := by unfold fullW; rw [if_pos z0]
  have hsum : (bestS length l (lensF l)).2 = sumL l (bestS length l (lensF l)).1 := by rw [f2, priceL_lens]
  have hwv : wasteV length l (bestS length l (lensF l)).1 = .t [.v (.int .i64 (fullW length l)), .v (.int .i64 0)] := by
    have h1 : givenE length l (bestS length l (lensF l)).1.length = 0 := by rw [f1.1]; exact r3
    have h2 := leftO_fits (fun q hq => (hpos q hq).1) f1.1 (show 0 ≤ length by omega)
    rw [if_pos ⟨f1.2.1, f1.2.2⟩] at h2
    simp [wasteV, h1, h2, hfull, hsum]
  have hw := wasteB_pu (length := length) (c := c) (by omega) b1
  rw [hwv] at hw
  refine sp_call hw rfl [0, 4] rfl ?_ ?_ ?_
  · simp only [push_cast, ↓branch_true, ↓branch_false, Nat.reduceBEq, Nat.reduceAdd, Nat.reduceMul, Nat.reduceSub, Int.reduceToNat, reduceCtorEq, branch_decide, branch_not, branch_beq, branch_bne]
  · simp only [push_cast, ↓branch_true, ↓branch_false, Nat.reduceBEq, Nat.reduceAdd, Nat.reduceMul, Nat.reduceSub, Int.reduceToNat, reduceCtorEq, branch_decide, branch_not, branch_beq, branch_bne]
  simp only [push_cast, ↓branch_true, ↓branch_false, Nat.reduceBEq, Nat.reduceAdd, Nat.reduceMul, Nat.reduceSub, Int.reduceToNat, reduceCtorEq, branch_decide, branch_not, branch_beq, branch_bne]
  refine tr_loop mixed (by kernel_rfl) (fun (x : Nat × Nat) => [(60, .v (.int .i64 x.1)), (14, .s 5 0 0 x.1 x.2 1), (59, .v (.int .i64 l.length)), (58, .s 0 0 0 l.length c 2), (0, .v (.int .i64 length)), (1, .s 0 0 0 l.length c 2), (3, .s 2 0 0 p.length cq 1), (6, .p 3 0 0), (9, .s 4 i1 0 l1 c1 1), (10, .v (.int .i64 (fullW length l))), (11, .v (.int .i64 (bestE length l (lensF l)))), (12, .v (.int .i64 (fullW length l))), (13, .v (.int .i64 0))])
    (fun x => [rPc l, rInt 3 pr, rInt 3 p, ⟨32, false, .st [.s 1 0 0 pr.length cp 1]⟩, oFam l.length n1 k1 h1, rOwn 3 x.1 x.2 (fun k => (ix l k).len)]) (fun x => x.1 ≤ l.length) (fun x => l.length - x.1) (0, 0) (Nat.zero_le _) (Mt.wk (rl := [0, 1, 2, 3, 4, 5]) ⟨by kernel_rfl, ?_, ?_⟩) ?_
  · simp only [push_cast, ↓branch_true, ↓branch_false, Nat.reduceBEq, Nat.reduceAdd, Nat.reduceMul, Nat.reduceSub, Int.reduceToNat, reduceCtorEq, branch_decide, branch_not, branch_beq, branch_bne]
  · simp only [push_cast, ↓branch_true, ↓branch_false, Nat.reduceBEq, Nat.reduceAdd, Nat.reduceMul, Nat.reduceSub, Int.reduceToNat, reduceCtorEq, branch_decide, branch_not, branch_beq, branch_bne]
  rintro ⟨k, oc⟩ hk
  simp only at hk
  simp only [push_cast, ↓branch_true, ↓branch_false, Nat.reduceBEq, Nat.reduceAdd, Nat.reduceMul, Nat.reduceSub, Int.reduceToNat, reduceCtorEq, branch_decide, branch_not, branch_beq, branch_bne]
  refine ⟨fun h => ?_, fun h => ?_⟩
  · repeat (with_reducible refine And.intro (by omega) ?_)
    refine .inr ?_
    repeat (with_reducible refine And.intro (by omega) ?_)
    intro cap2 hcap2
    repeat (with_reducible refine And.intro (by omega) ?_)
    refine lpK_normal (k + 1, cap2) [0, 1, 2, 3, 4, 8] (by simp only; omega) (by simp only; omega) (by kernel_rfl) ?_ ?_
    · simp only [push_cast, ↓branch_true, ↓branch_false, Nat.reduceBEq, Nat.reduceAdd, Nat.reduceMul, Nat.reduceSub, Int.reduceToNat, reduceCtorEq, branch_decide, branch_not, branch_beq, branch_bne]
    · simp only [push_cast, ↓branch_true, ↓branch_false, Nat.reduceBEq, Nat.reduceAdd, Nat.reduceMul, Nat.reduceSub, Int.reduceToNat, reduceCtorEq, branch_decide, branch_not, branch_beq, branch_bne]
      intro j hj
      intro i hi
      by_cases e : i < k
      · simp [e, mtL]
      · obtain rfl : i = k := by omega
        simp [mtL]
  · obtain rfl : k = l.length := by omega
    have h0 := bestX_sp length l c (lensF l) oc (by omega) (by rw [lensF_len]; omega)
    refine sp_at h0 [0, 5] rfl ?_ ?_ ?_
    · rw [lensF_len]
      simp only [push_cast, ↓branch_true, ↓branch_false, Nat.reduceBEq, Nat.reduceAdd, Nat.reduceMul, Nat.reduceSub, Int.reduceToNat, reduceCtorEq, branch_decide, branch_not, branch_beq, branch_bne]
    · simp only [push_cast, ↓branch_true, ↓branch_false, Nat.reduceBEq, Nat.reduceAdd, Nat.reduceMul, Nat.reduceSub, Int.reduceToNat, reduceCtorEq, branch_decide, branch_not, branch_beq, branch_bne]
      rw [lensF_len]
      exact fun j hj => ⟨Nat.le_refl _, fun i hi => by rw [lensF_ix hi]⟩
    rintro r0 H1 ⟨n2, i2, l2, c2, k2, h2, rfl, b2, _, rfl⟩
    rw [z0, hfull, hsum]
    have hs0 := sumL_nonneg (fun q hq => (hpos q hq).1) f1.2.1
    have hs1 := f1.2.2
    simp only [push_cast, ↓branch_true, ↓branch_false, Nat.reduceBEq, Nat.reduceAdd, Nat.reduceMul, Nat.reduceSub, Int.reduceToNat, reduceCtorEq, branch_decide, branch_not, branch_beq, branch_bne]
    intro _ _ _ _
    refine sp_call (equalBB_pu l.length n2 n1 i2 l2 c2 i1 l1 c1 k2 k1 h2 h1 _ _ (by omega) b2 b1) rfl [6, 4] rfl ?_ ?_ ?_
    · simp only [push_cast, ↓branch_true, ↓branch_false, Nat.reduceBEq, Nat.reduceAdd, Nat.reduceMul, Nat.reduceSub, Int.reduceToNat, reduceCtorEq, branch_decide, branch_not, branch_beq, branch_bne]
    · simp only [push_cast, ↓branch_true, ↓branch_false, Nat.reduceBEq, Nat.reduceAdd, Nat.reduceMul, Nat.reduceSub, Int.reduceToNat, reduceCtorEq, branch_decide, branch_not, branch_beq, branch_bne]
    simp only [push_cast, ↓branch_true, ↓branch_false, Nat.reduceBEq, Nat.reduceAdd, Nat.reduceMul, Nat.reduceSub, Int.reduceToNat, reduceCtorEq, branch_decide, branch_not, branch_beq, branch_bne]
    intro _
    repeat (with_reducible refine And.intro (by omega) ?_)
    refine ⟨fun _ => ?_, fun h => absurd (by omega) h⟩
    obtain ⟨v, e, hwp, hve⟩ : ∃ v e : Int, wasteV length l p = .t [.v (.int .i64 v), .v (.int .i64 e)] ∧ (e = 0 → length - sumL l (bestS length l (lensF l)).1 ≤ v) := by
      refine ⟨_, _, rfl, fun he => ?_⟩
      have hg : givenE length l p.length = 0 := by
        split at he
        · assumption
        · exact he
      have hpl : p.length = l.length := by have := (given_0 hg).2.2.2; omega
      have lo := leftO_fits (fun q hq => (hpos q hq).1) hpl (show 0 ≤ length by omega)
      by_cases hf : inB l p = true ∧ sumL l p ≤ length
      · rw [if_pos hf] at lo
        have := f3 p ⟨hpl, hf.1, hf.2⟩
        rw [priceL_lens, hsum] at this
        rw [lo, if_pos hg, Option.getD_some]
        omega
      · rw [if_neg hf] at lo
        rw [lo, if_pos hg] at he
        simp at he
    have hw := waste_pu length l p c cq (by omega)
    rw [hwp] at hw
    refine sp_call hw rfl [0, 2] rfl ?_ ?_ ?_
    · simp only [push_cast, ↓branch_true, ↓branch_false, Nat.reduceBEq, Nat.reduceAdd, Nat.reduceMul, Nat.reduceSub, Int.reduceToNat, reduceCtorEq, branch_decide, branch_not, branch_beq, branch_bne]
    · simp only [push_cast, ↓branch_true, ↓branch_false, Nat.reduceBEq, Nat.reduceAdd, Nat.reduceMul, Nat.reduceSub, Int.reduceToNat, reduceCtorEq, branch_decide, branch_not, branch_beq, branch_bne]
    simp only [push_cast, ↓branch_true, ↓branch_false, Nat.reduceBEq, Nat.reduceAdd, Nat.reduceMul, Nat.reduceSub, Int.reduceToNat, reduceCtorEq, branch_decide, branch_not, branch_beq, branch_bne]
    refine ⟨fun h => ⟨fun h2 => absurd h2 (by have := hve h; omega), fun _ => ?_⟩, fun _ => ?_⟩
    all_goals
      refine sp_at (bestX_sp length l c pr cp (by omega) (by omega)) [0, 1] rfl ?_ ?_ ?_
      · simp only [push_cast, ↓branch_true, ↓branch_false, Nat.reduceBEq, Nat.reduceAdd, Nat.reduceMul, Nat.reduceSub, Int.reduceToNat, reduceCtorEq, branch_decide, branch_not, branch_beq, branch_bne]
      · simp only [push_cast, ↓branch_true, ↓branch_false, Nat.reduceBEq, Nat.reduceAdd, Nat.reduceMul, Nat.reduceSub, Int.reduceToNat, reduceCtorEq, branch_decide, branch_not, branch_beq, branch_bne]
      rintro r0 H1 ⟨n3, i3, l3, c3, k3, h3, rfl, b3, _, rfl⟩
      simp only [push_cast, ↓branch_true, ↓branch_false, Nat.reduceBEq, Nat.reduceAdd, Nat.reduceMul, Nat.reduceSub, Int.reduceToNat, reduceCtorEq, branch_decide, branch_not, branch_beq, branch_bne]
      refine ⟨fun he => ?_, fun he => ?_⟩
      · obtain ⟨e1, e2, e3⟩ := bestE_0 he
        have hpl : pr.length = l.length := by have := (given_0 e1).2.2.2; omega
        obtain ⟨m1, m2, m3⟩ := best_max he
        have hvv : validV length l (bestS length l pr).1 = .t [.v (.bool true), .v (.int .i64 0)] := by
          have h1 : givenE length l (bestS length l pr).1.length = 0 := by rw [m1.1]; exact r3
          have h2 := leftO_fits (fun q hq => (hpos q hq).1) m1.1 (show 0 ≤ length by omega)
          rw [if_pos ⟨m1.2.1, m1.2.2⟩] at h2
          simp [validV, h1, h2]
        have hv := validB_pu (length := length) (c := c) (by omega) b3
        rw [hvv] at hv
        refine sp_call hv rfl [0, 7] rfl ?_ ?_ ?_
        · simp only [push_cast, ↓branch_true, ↓branch_false, Nat.reduceBEq, Nat.reduceAdd, Nat.reduceMul, Nat.reduceSub, Int.reduceToNat, reduceCtorEq, branch_decide, branch_not, branch_beq, branch_bne]
        · simp only [push_cast, ↓branch_true, ↓branch_false, Nat.reduceBEq, Nat.reduceAdd, Nat.reduceMul, Nat.reduceSub, Int.reduceToNat, reduceCtorEq, branch_decide, branch_not, branch_beq, branch_bne]
        simp only [push_cast, ↓branch_true, ↓branch_false, Nat.reduceBEq, Nat.reduceAdd, Nat.reduceMul, Nat.reduceSub, Int.reduceToNat, reduceCtorEq, branch_decide, branch_not, branch_beq, branch_bne]
        have hbl := b3.len
        have m1l := m1.1
        have hbq := inB_vals g1 m1.2.1 m1.1
        intro _
        refine ⟨fun _ => ?_, fun h => absurd (show (l3 : Int) = pr.length by omega) h⟩
        refine sp_call (price29B_pu (cp := cp) b3 (by omega) (by omega) hbq e2) rfl [7, 3, 1] rfl ?_ ?_ ?_
        · simp only [push_cast, ↓branch_true, ↓branch_false, Nat.reduceBEq, Nat.reduceAdd, Nat.reduceMul, Nat.reduceSub, Int.reduceToNat, reduceCtorEq, branch_decide, branch_not, branch_beq, branch_bne]
        · simp only [push_cast, ↓branch_true, ↓branch_false, Nat.reduceBEq, Nat.reduceAdd, Nat.reduceMul, Nat.reduceSub, Int.reduceToNat, reduceCtorEq, branch_decide, branch_not, branch_beq, branch_bne]
        simp only [push_cast, ↓branch_true, ↓branch_false, Nat.reduceBEq, Nat.reduceAdd, Nat.reduceMul, Nat.reduceSub, Int.reduceToNat, reduceCtorEq, branch_decide, branch_not, branch_beq, branch_bne]
        refine ⟨fun _ => ?_, fun h => absurd m2.symm h⟩
        obtain ⟨vb, ve, hvp, hvf⟩ : ∃ (vb : Bool) (ve : Int), validV length l p = .t [.v (.bool vb), .v (.int .i64 ve)] ∧ (ve = 0 → vb = true → Fit length l p) := by
          refine ⟨_, _, rfl, fun hg hv => ?_⟩
          have hpl2 : p.length = l.length := by have := (given_0 hg).2.2.2; omega
          have lo := leftO_fits (fun q hq => (hpos q hq).1) hpl2 (show 0 ≤ length by omega)
          by_cases hf : inB l p = true ∧ sumL l p ≤ length
          · exact ⟨hpl2, hf.1, hf.2⟩
          · rw [if_neg hf] at lo
            rw [lo] at hv
            simp at hv
        have hv2 := valid_pu length l p c cq (by omega)
        rw [hvp] at hv2
        refine sp_call hv2 rfl [0, 2] rfl ?_ ?_ ?_
        · simp only [push_cast, ↓branch_true, ↓branch_false, Nat.reduceBEq, Nat.reduceAdd, Nat.reduceMul, Nat.reduceSub, Int.reduceToNat, reduceCtorEq, branch_decide, branch_not, branch_beq, branch_bne]
        · simp only [push_cast, ↓branch_true, ↓branch_false, Nat.reduceBEq, Nat.reduceAdd, Nat.reduceMul, Nat.reduceSub, Int.reduceToNat, reduceCtorEq, branch_decide, branch_not, branch_beq, branch_bne]
        simp only [push_cast, ↓branch_true, ↓branch_false, Nat.reduceBEq, Nat.reduceAdd, Nat.reduceMul, Nat.reduceSub, Int.reduceToNat, reduceCtorEq, branch_decide, branch_not, branch_beq, branch_bne]
        simp only [branch]
        refine ⟨fun hve0 => ⟨fun hvb => ?_, fun _ => rfl⟩, fun _ => rfl⟩
        have hfp := hvf hve0 hvb
        have hpl3 := hfp.1
        have hp29 := price29_pu [p] 0 pr cq cp (by simp) (show p.length = pr.length by omega) (show p.length ≤ 200 by omega) (inB_vals g1 hfp.2.1 hfp.1) e2
        simp only [show ix [p] 0 = p from rfl] at hp29
        refine sp_call hp29 rfl [2, 3, 1] rfl ?_ ?_ ?_
        · simp only [push_cast, ↓branch_true, ↓branch_false, Nat.reduceBEq, Nat.reduceAdd, Nat.reduceMul, Nat.reduceSub, Int.reduceToNat, reduceCtorEq, branch_decide, branch_not, branch_beq, branch_bne]
        · simp only [push_cast, ↓branch_true, ↓branch_false, Nat.reduceBEq, Nat.reduceAdd, Nat.reduceMul, Nat.reduceSub, Int.reduceToNat, reduceCtorEq, branch_decide, branch_not, branch_beq, branch_bne]
          intro i hi
          obtain rfl : i = 0 := by omega
          exact ⟨Nat.le_refl _, fun k hk => rfl⟩
        simp only [push_cast, ↓branch_true, ↓branch_false, Nat.reduceBEq, Nat.reduceAdd, Nat.reduceMul, Nat.reduceSub, Int.reduceToNat, reduceCtorEq, branch_decide, branch_not, branch_beq, branch_bne]
        have hm3 := m3 p hfp
        refine ⟨fun _ => rfl, fun hn1 => ⟨fun hn2 => ?_, fun hn2 => absurd (show priceL p pr = (bestS length l pr).2 by omega) hn2⟩⟩
        have hcmp := best_first he hfp hn2
        refine sp_call (compareB_pu (p := p) (cp := cq) b3 (by omega) (by omega)) rfl [2, 7] rfl ?_ ?_ ?_
        · simp only [push_cast, ↓branch_true, ↓branch_false, Nat.reduceBEq, Nat.reduceAdd, Nat.reduceMul, Nat.reduceSub, Int.reduceToNat, reduceCtorEq, branch_decide, branch_not, branch_beq, branch_bne]
        · simp only [push_cast, ↓branch_true, ↓branch_false, Nat.reduceBEq, Nat.reduceAdd, Nat.reduceMul, Nat.reduceSub, Int.reduceToNat, reduceCtorEq, branch_decide, branch_not, branch_beq, branch_bne]
        simp only [push_cast, ↓branch_true, ↓branch_false, Nat.reduceBEq, Nat.reduceAdd, Nat.reduceMul, Nat.reduceSub, Int.reduceToNat, reduceCtorEq, branch_decide, branch_not, branch_beq, branch_bne]
        rw [decide_eq_true hcmp]
        exact rfl
      · have e2 : bestS length l pr = ([], 0) := by unfold bestS; rw [if_neg he]
        have hbl := b3.len
        rw [e2] at hbl ⊢
        have hbl : l3 = 0 := hbl
        subst hbl
        exact ⟨fun _ => rfl, fun h => absurd rfl h⟩
end Go.Proofs.Ythnpnoclhmneoaa
