/- Contracts: Johnson's order, the walk. -/
import Derived.Test.YtgbldceimdjblaaL
set_option maxRecDepth 100000
set_option linter.unusedSimpArgs false
set_option linter.unusedVariables false
namespace Go.Proofs.Ytgbldceimdjblaa
open Go.RowKit
theorem app_up {p q : List Int} {v : Int} (e : q = p ++ [v]) (i : Nat) (rl : List Nat) : q.length ≤ p.length + 1 ∧ ∀ k, k < q.length → Value.int IntKind.i64 (ix q k) = Value.int IntKind.i64 (bif decide (k < p.length) then ix p k else v) ∧ mtL rl [] (bif decide (k < p.length) then [] else []) := by
  subst e
  refine ⟨by simp, fun k hk => ?_⟩
  have h2 : mtL rl [] (bif decide (k < p.length) then ([] : List SV) else []) := by cases decide (k < p.length) <;> simp [mtL]
  refine ⟨?_, h2⟩
  rw [ix_eq hk]
  by_cases h : k < p.length
  · simp [h, ix_eq h, List.getElem_append_left h]
  · have : k = p.length := by simp at hk; omega
    subst this
    simp
theorem sorted_of {K : Int → Int} {p : List Int} {f' : Nat → Int} (h : InI K (fun k => ix p k) 0 p.length f') (hi : ∀ x ∈ p, ∀ y ∈ p, K x = K y → x = y) : ∀ k, k < p.length → f' k = ix (sortK K p) k := by
  have e : seg (fun k => ix p k) 0 p.length = p := by
    apply List.ext_getElem (by rw [seg_len])
    intro i h1 h2
    simp only [seg, List.getElem_map, List.getElem_range, Nat.zero_add]
    exact ix_eq h2
  have h2 := h.perm
  rw [Nat.sub_zero, e] at h2
  have h3 := seg_sorted h2 hi h.up
  exact fun k hk => seg_ix h3 hk
theorem picks_O (l : List Jb) (b : Bool) : ∀ p q, p < q → q < (picks l b l.length).length → ix (picks l b l.length) p < ix (picks l b l.length) q := fun p q h1 h2 => by
  have := List.pairwise_iff_getElem.mp (picks_up l b l.length) p q (by omega) h2 h1
  rw [ix_eq (by omega), ix_eq h2]
  exact this
theorem picks_V (l : List Jb) (b : Bool) : allV (VJ l) (fun k => ix (picks l b l.length) k) 0 (picks l b l.length).length := fun k _ hk => picks_at (ix_mem hk)
theorem k1_inj {l : List Jb} {b : Bool} (h : l.length ≤ 100) : ∀ x ∈ picks l b l.length, ∀ y ∈ picks l b l.length, K1 l x = K1 l y → x = y := fun x hx y hy e => by
  have h1 := picks_at hx
  have h2 := picks_at hy
  simp only [K1] at e
  omega
theorem k2_inj {l : List Jb} {b : Bool} (h : l.length ≤ 100) : ∀ x ∈ picks l b l.length, ∀ y ∈ picks l b l.length, K2 l x = K2 l y → x = y := fun x hx y hy e => by
  have h1 := picks_at hx
  have h2 := picks_at hy
  simp only [K2] at e
  omega
theorem sort1_sp (l : List Jb) (b : Bool) (c cap : Nat) (h : l.length ≤ 100) (hc : (picks l b l.length).length ≤ cap) :
    Sp Try.prog 34 [.s 0 0 0 (picks l b l.length).length cap 1, .f (.func 40) [] [.p 1 0 0]] [rOwn 3 (picks l b l.length).length cap (fun k => ix (picks l b l.length) k), rBoxJ 2 l.length c, rJb l] (fun r H' => ∃ f', r = .t [] ∧ H' = [rOwn 3 (picks l b l.length).length cap f', rBoxJ 2 l.length c, rJb l] ∧ ∀ k, k < (picks l b l.length).length → f' k = ix (sortK (K1 l) (picks l b l.length)) k) := by
  refine sp_mono (sort_sp 40 [] [.p 1 0 0] _ cap [rBoxJ 2 l.length c, rJb l] (VJ l) _ _ (K1 l) _ (cut_cmp l c _ cap) (kn1 h) (picks_V l b) (picks_O l b) rfl hc (by have := picks_len l b l.length; omega)) ?_
  rintro r H' ⟨f', rfl, rfl, hi⟩
  exact ⟨f', rfl, rfl, sorted_of hi (k1_inj h)⟩
theorem sort2_sp (l : List Jb) (b : Bool) (c cap : Nat) (h : l.length ≤ 100) (hc : (picks l b l.length).length ≤ cap) :
    Sp Try.prog 34 [.s 0 0 0 (picks l b l.length).length cap 1, .f (.func 41) [] [.p 1 0 0]] [rOwn 3 (picks l b l.length).length cap (fun k => ix (picks l b l.length) k), rBoxJ 2 l.length c, rJb l] (fun r H' => ∃ f', r = .t [] ∧ H' = [rOwn 3 (picks l b l.length).length cap f', rBoxJ 2 l.length c, rJb l] ∧ ∀ k, k < (picks l b l.length).length → f' k = ix (sortK (K2 l) (picks l b l.length)) k) := by
  refine sp_mono (sort_sp 41 [] [.p 1 0 0] _ cap [rBoxJ 2 l.length c, rJb l] (VJ l) _ _ (K2 l) _ (bend_cmp l c _ cap) (kn2 h) (picks_V l b) (picks_O l b) rfl hc (by have := picks_len l b l.length; omega)) ?_
  rintro r H' ⟨f', rfl, rfl, hi⟩
  exact ⟨f', rfl, rfl, sorted_of hi (k2_inj h)⟩
theorem picks_sum (l : List Jb) : ∀ n, (picks l true n).length + (picks l false n).length = n
  | 0 => rfl
  | n + 1 => by
    have := picks_sum l n
    rw [picks_succ, picks_succ]
    cases decide ((ix l n).cut ≤ (ix l n).bend) <;> simp <;> omega
theorem sortK_len (K : Int → Int) (p : List Int) : (sortK K p).length = p.length := (sortK_perm K p).length_eq
theorem john_len (l : List Jb) : (johnE l).length = (picks l true l.length).length + (picks l false l.length).length := by rw [johnE, List.length_append, sortK_len, sortK_len]
theorem john_len2 (l : List Jb) : (johnE l).length = l.length := by rw [john_len, picks_sum]
theorem john_at (l : List Jb) : ∀ j, j < (johnE l).length → 0 ≤ ix (johnE l) j ∧ ix (johnE l) j < l.length := fun j hj => by
  have := ix_mem hj
  rw [johnE, List.mem_append] at this
  rcases this with h | h
  · exact picks_at ((sortK_perm _ _).mem_iff.mp h)
  · exact picks_at ((sortK_perm _ _).mem_iff.mp h)
theorem john_fst {l : List Jb} {k : Nat} (h : k < (picks l true l.length).length) : ix (johnE l) k = ix (sortK (K1 l) (picks l true l.length)) k := by
  rw [ix_eq (by rw [john_len]; omega), ix_eq (by rw [sortK_len]; exact h)]
  simp only [johnE]
  rw [List.getElem_append_left]
theorem john_snd {l : List Jb} {k : Nat} (h : (picks l true l.length).length ≤ k) (h2 : k < (johnE l).length) : ix (johnE l) k = ix (sortK (K2 l) (picks l false l.length)) (k - (picks l true l.length).length) := by
  have := john_len l
  rw [ix_eq h2, ix_eq (by rw [sortK_len]; omega)]
  simp only [johnE]
  rw [List.getElem_append_right (by rw [sortK_len]; exact h)]
  congr 1
  rw [sortK_len]
theorem app_val {f1 f2 : Nat → Int} {n1 n2 k : Nat} {v : Int} {rl : List Nat} (hn : 0 < n2) (h1 : k < n1 → v = f1 k) (h2 : n1 ≤ k → k < n1 + n2 → v = f2 (k - n1)) (hk : k < n1 + n2) : mtL rl [.v (.int .i64 v)] (appF n1 n2 (fun k => [.v (.int .i64 (f1 k))]) (fun k => [.v (.int .i64 (f2 k))]) k) := by
  unfold appF
  by_cases h : k < n1
  · rw [h1 h]
    split <;> simp [h, mrgL, mrg1, mtL, mt]
  · rw [h2 (by omega) hk]
    split
    · have : k - n1 = 0 := by omega
      simp [h, mrgL, mrg1, mtL, mt, this]
    · simp [h, mrgL, mrg1, mtL, mt]
theorem johnson_sp (l : List Jb) (c : Nat) (hlc : l.length ≤ c) (hl : l.length ≤ 9223372036854775806) (hv : validB l = true) :
    Sp Try.prog 12 [.s 0 0 0 l.length c 3] [rJb l] (fun r H => ∃ cap, (johnE l).length ≤ cap ∧ r = .t [.s 1 0 0 (johnE l).length cap 1, .v (.int .i64 (runR l (johnE l)).fin), .v (.int .i64 0)] ∧ H = [rJb l, rInt 3 (johnE l)]) := by
  have hl60 := validB_len hv
  refine sp_weak ?_
  refine sp_of_ex true [] mixed Try.call12 Try.func12 rfl Try.ntmps12 Try.results12 (by decide +kernel) rfl ?_
  simp only [push_cast, ↓branch_true, ↓branch_false, Nat.reduceBEq, Nat.reduceAdd, Nat.reduceMul, Nat.reduceSub, Int.reduceToNat, reduceCtorEq, branch_decide, branch_not, branch_beq, branch_bne]
  refine sp_call (valid_pu l c hlc (by omega)) rfl [0] rfl (by simp only [push_cast, ↓branch_true, ↓branch_false, Nat.reduceBEq, Nat.reduceAdd, Nat.reduceMul, Nat.reduceSub, Int.reduceToNat, reduceCtorEq, branch_decide, branch_not, branch_beq, branch_bne]) (by simp only [push_cast, ↓branch_true, ↓branch_false, Nat.reduceBEq, Nat.reduceAdd, Nat.reduceMul, Nat.reduceSub, Int.reduceToNat, reduceCtorEq, branch_decide, branch_not, branch_beq, branch_bne]) ?_
  simp only [push_cast, ↓branch_true, ↓branch_false, Nat.reduceBEq, Nat.reduceAdd, Nat.reduceMul, Nat.reduceSub, Int.reduceToNat, reduceCtorEq, branch_decide, branch_not, branch_beq, branch_bne]
  rw [hv]
  simp only [push_cast, ↓branch_true, ↓branch_false, Nat.reduceBEq, Nat.reduceAdd, Nat.reduceMul, Nat.reduceSub, Int.reduceToNat, reduceCtorEq, branch_decide, branch_not, branch_beq, branch_bne]
  refine tr_loop mixed (by kernel_rfl) (fun (x : Nat × Nat × Nat) => [(18, .v (.int .i64 x.1)), (17, .v (.int .i64 l.length)), (16, .s 0 0 0 l.length c 3), (5, .s 2 0 0 (picks l true x.1).length x.2.1 1), (6, .s 3 0 0 (picks l false x.1).length x.2.2 1), (1, .p 1 0 0)])
    (fun x => [rJb l, ⟨22, false, .st [.s 0 0 0 l.length c 3]⟩, rOwn 3 (picks l true x.1).length x.2.1 (fun k => ix (picks l true x.1) k), rOwn 3 (picks l false x.1).length x.2.2 (fun k => ix (picks l false x.1) k)])
    (fun x => x.1 ≤ l.length ∧ (picks l true x.1).length ≤ x.2.1 ∧ (picks l false x.1).length ≤ x.2.2) (fun x => l.length - x.1) (0, 0, 0) ⟨Nat.zero_le _, Nat.le_refl _, Nat.le_refl _⟩ (Mt.wk (rl := [0, 1, 2, 3]) ⟨by kernel_rfl, ?_, ?_⟩) ?_
  · simp only [push_cast, ↓branch_true, ↓branch_false, Nat.reduceBEq, Nat.reduceAdd, Nat.reduceMul, Nat.reduceSub, Int.reduceToNat, reduceCtorEq, branch_decide, branch_not, branch_beq, branch_bne]
    exact ⟨rfl, rfl⟩
  · simp only [push_cast, ↓branch_true, ↓branch_false, Nat.reduceBEq, Nat.reduceAdd, Nat.reduceMul, Nat.reduceSub, Int.reduceToNat, reduceCtorEq, branch_decide, branch_not, branch_beq, branch_bne]
    exact ⟨rfl, by omega, rfl⟩
  rintro ⟨k, c1, c2⟩ ⟨h1, h2, h3⟩
  simp only at h1 h2 h3
  have hp1 := picks_len l true k
  have hp2 := picks_len l false k
  simp only [push_cast, ↓branch_true, ↓branch_false, Nat.reduceBEq, Nat.reduceAdd, Nat.reduceMul, Nat.reduceSub, Int.reduceToNat, reduceCtorEq, branch_decide, branch_not, branch_beq, branch_bne]
  refine ⟨fun h => ?_, fun h => ?_⟩
  · repeat (with_reducible refine And.intro (by omega) ?_)
    refine ⟨fun h6 => ?_, fun h6 => ?_⟩
    · have e1 : picks l true (k + 1) = picks l true k ++ [(k : Int)] := by rw [picks_succ, if_pos (by simpa using h6)]
      have e2 : picks l false (k + 1) = picks l false k := by rw [picks_succ, if_neg (by simpa using h6)]
      repeat (with_reducible refine And.intro (by omega) ?_)
      refine .inr ?_
      repeat (with_reducible refine And.intro (by omega) ?_)
      intro cap2 hcap2
      repeat (with_reducible refine And.intro (by omega) ?_)
      refine lpK_normal (k + 1, cap2, c2) [0, 1, 6, 3] ?_ ?_ (by kernel_rfl) ?_ ?_
      · refine ⟨by simp only; omega, ?_, ?_⟩
        · simp only [e1, List.length_append, List.length_cons, List.length_nil]; omega
        · simp only [e2]; omega
      · simp only; omega
      · simp only [push_cast, ↓branch_true, ↓branch_false, Nat.reduceBEq, Nat.reduceAdd, Nat.reduceMul, Nat.reduceSub, Int.reduceToNat, reduceCtorEq, branch_decide, branch_not, branch_beq, branch_bne]
        rw [e1, e2]
        simp
      · simp only [push_cast, ↓branch_true, ↓branch_false, Nat.reduceBEq, Nat.reduceAdd, Nat.reduceMul, Nat.reduceSub, Int.reduceToNat, reduceCtorEq, branch_decide, branch_not, branch_beq, branch_bne]
        refine ⟨fun i hi => app_up e1 i _, fun i hi => ?_⟩
        rw [e2]
        exact ⟨Nat.le_refl _, fun _ _ => rfl⟩
    · have e1 : picks l false (k + 1) = picks l false k ++ [(k : Int)] := by rw [picks_succ, if_pos (by simpa using h6)]
      have e2 : picks l true (k + 1) = picks l true k := by rw [picks_succ, if_neg (by simpa using h6)]
      repeat (with_reducible refine And.intro (by omega) ?_)
      refine .inr ?_
      repeat (with_reducible refine And.intro (by omega) ?_)
      intro cap2 hcap2
      repeat (with_reducible refine And.intro (by omega) ?_)
      refine lpK_normal (k + 1, c1, cap2) [0, 1, 2, 6] ?_ ?_ (by kernel_rfl) ?_ ?_
      · refine ⟨by simp only; omega, ?_, ?_⟩
        · simp only [e2]; omega
        · simp only [e1, List.length_append, List.length_cons, List.length_nil]; omega
      · simp only; omega
      · simp only [push_cast, ↓branch_true, ↓branch_false, Nat.reduceBEq, Nat.reduceAdd, Nat.reduceMul, Nat.reduceSub, Int.reduceToNat, reduceCtorEq, branch_decide, branch_not, branch_beq, branch_bne]
        rw [e1, e2]
        simp
      · simp only [push_cast, ↓branch_true, ↓branch_false, Nat.reduceBEq, Nat.reduceAdd, Nat.reduceMul, Nat.reduceSub, Int.reduceToNat, reduceCtorEq, branch_decide, branch_not, branch_beq, branch_bne]
        refine ⟨fun i hi => ?_, fun i hi => app_up e1 i _⟩
        rw [e2]
        exact ⟨Nat.le_refl _, fun _ _ => rfl⟩
  · obtain rfl : k = l.length := by omega
    have s1 := sort1_sp l true c c1 (by omega) h2
    have s2 := sort2_sp l false c c2 (by omega) h3
    refine sp_at s1 [2, 1, 0] rfl ?_ ?_ ?_
    · simp only [push_cast, ↓branch_true, ↓branch_false, Nat.reduceBEq, Nat.reduceAdd, Nat.reduceMul, Nat.reduceSub, Int.reduceToNat, reduceCtorEq, branch_decide, branch_not, branch_beq, branch_bne]
    · simp only [push_cast, ↓branch_true, ↓branch_false, Nat.reduceBEq, Nat.reduceAdd, Nat.reduceMul, Nat.reduceSub, Int.reduceToNat, reduceCtorEq, branch_decide, branch_not, branch_beq, branch_bne]
    rintro r0 H1 ⟨f1, rfl, rfl, hf1⟩
    simp only [push_cast, ↓branch_true, ↓branch_false, Nat.reduceBEq, Nat.reduceAdd, Nat.reduceMul, Nat.reduceSub, Int.reduceToNat, reduceCtorEq, branch_decide, branch_not, branch_beq, branch_bne]
    refine sp_at s2 [3, 1, 0] rfl ?_ ?_ ?_
    · simp only [push_cast, ↓branch_true, ↓branch_false, Nat.reduceBEq, Nat.reduceAdd, Nat.reduceMul, Nat.reduceSub, Int.reduceToNat, reduceCtorEq, branch_decide, branch_not, branch_beq, branch_bne]
    · simp only [push_cast, ↓branch_true, ↓branch_false, Nat.reduceBEq, Nat.reduceAdd, Nat.reduceMul, Nat.reduceSub, Int.reduceToNat, reduceCtorEq, branch_decide, branch_not, branch_beq, branch_bne]
    rintro r0 H1 ⟨f2, rfl, rfl, hf2⟩
    simp only [push_cast, ↓branch_true, ↓branch_false, Nat.reduceBEq, Nat.reduceAdd, Nat.reduceMul, Nat.reduceSub, Int.reduceToNat, reduceCtorEq, branch_decide, branch_not, branch_beq, branch_bne]
    repeat (with_reducible refine And.intro (by omega) ?_)
    refine ⟨by (unfold srcOk; split <;> simp [lenP, lenIs, ones, one1]), appZ_of (fun hn => ?_) (fun hn => ?_)⟩
    · have hj := john_len l
      have hj2 := john_len2 l
      have hr := run_sp l (johnE l) c c1 hv (by omega) (john_at l)
      refine sp_at hr [0, 2] rfl ?_ ?_ ?_
      · simp only [push_cast, ↓branch_true, ↓branch_false, Nat.reduceBEq, Nat.reduceAdd, Nat.reduceMul, Nat.reduceSub, Int.reduceToNat, reduceCtorEq, branch_decide, branch_not, branch_beq, branch_bne]
        omega
      · simp only [push_cast, ↓branch_true, ↓branch_false, Nat.reduceBEq, Nat.reduceAdd, Nat.reduceMul, Nat.reduceSub, Int.reduceToNat, reduceCtorEq, branch_decide, branch_not, branch_beq, branch_bne]
        exact fun i hi => ⟨by omega, fun k hk => by rw [john_fst (by omega), hf1 k (by omega)]⟩
      rintro r0 H1 ⟨rfl, rfl⟩
      simp only [push_cast, ↓branch_true, ↓branch_false, Nat.reduceBEq, Nat.reduceAdd, Nat.reduceMul, Nat.reduceSub, Int.reduceToNat, reduceCtorEq, branch_decide, branch_not, branch_beq, branch_bne]
      refine ⟨_, _, [0, 2], ?_, ?_, ?_, c1, by omega, rfl, rfl⟩
      · simp only [push_cast, ↓branch_true, ↓branch_false, Nat.reduceBEq, Nat.reduceAdd, Nat.reduceMul, Nat.reduceSub, Int.reduceToNat, reduceCtorEq, branch_decide, branch_not, branch_beq, branch_bne]
        omega
      · kernel_rfl
      · simp only [push_cast, ↓branch_true, ↓branch_false, Nat.reduceBEq, Nat.reduceAdd, Nat.reduceMul, Nat.reduceSub, Int.reduceToNat, reduceCtorEq, branch_decide, branch_not, branch_beq, branch_bne]
    · refine .inr ⟨hn, by omega, by omega, fun cap hcap => ?_⟩
      have hj := john_len l
      have hj2 := john_len2 l
      have hr := run_sp l (johnE l) c cap hv (by omega) (john_at l)
      refine sp_at hr [0, 4] rfl ?_ ?_ ?_
      · simp only [push_cast, ↓branch_true, ↓branch_false, Nat.reduceBEq, Nat.reduceAdd, Nat.reduceMul, Nat.reduceSub, Int.reduceToNat, reduceCtorEq, branch_decide, branch_not, branch_beq, branch_bne]
        omega
      · simp only [push_cast, ↓branch_true, ↓branch_false, Nat.reduceBEq, Nat.reduceAdd, Nat.reduceMul, Nat.reduceSub, Int.reduceToNat, reduceCtorEq, branch_decide, branch_not, branch_beq, branch_bne]
        refine fun i hi => ⟨by omega, fun k hk => app_val hn ?_ ?_ (by omega)⟩
        · exact fun h => by rw [john_fst h, hf1 k h]
        · exact fun h _ => by rw [john_snd h hk, hf2 _ (by omega)]
      rintro r0 H1 ⟨rfl, rfl⟩
      simp only [push_cast, ↓branch_true, ↓branch_false, Nat.reduceBEq, Nat.reduceAdd, Nat.reduceMul, Nat.reduceSub, Int.reduceToNat, reduceCtorEq, branch_decide, branch_not, branch_beq, branch_bne]
      refine ⟨_, _, [0, 4], ?_, ?_, ?_, cap, by omega, rfl, rfl⟩
      · simp only [push_cast, ↓branch_true, ↓branch_false, Nat.reduceBEq, Nat.reduceAdd, Nat.reduceMul, Nat.reduceSub, Int.reduceToNat, reduceCtorEq, branch_decide, branch_not, branch_beq, branch_bne]
        omega
      · kernel_rfl
      · simp only [push_cast, ↓branch_true, ↓branch_false, Nat.reduceBEq, Nat.reduceAdd, Nat.reduceMul, Nat.reduceSub, Int.reduceToNat, reduceCtorEq, branch_decide, branch_not, branch_beq, branch_bne]
end Go.Proofs.Ytgbldceimdjblaa
