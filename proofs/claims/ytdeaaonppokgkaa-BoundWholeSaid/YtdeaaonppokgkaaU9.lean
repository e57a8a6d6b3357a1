/- Contracts: the reference's Price, Best. -/
import Derived.Test.YtdeaaonppokgkaaT9
set_option maxRecDepth 100000
set_option linter.unusedSimpArgs false
set_option linter.unusedVariables false
-- 
namespace Go.Proofs.Ytdeaaonppokgkaa.Pat
open Go.RowKit
theorem priceL_step {q pr : List Int} {k : Nat} (h1 : k < q.length) (h2 : k < pr.length) : priceL (q.drop k) (pr.drop k) = ix q k * ix pr k + priceL (q.drop (k + 1)) (pr.drop (k + 1)) := by
  rw [drop_ix h1, drop_ix h2, priceL]
theorem priceL_bound : ∀ {q pr : List Int}, (∀ x ∈ q, 0 ≤ x ∧ x ≤ 1000000) → (∀ x ∈ pr, 0 ≤ x ∧ x ≤ 1073741824) → 0 ≤ priceL q pr ∧ priceL q pr ≤ 1125899906842624 * q.length
  | [], pr, _, _ => by simp [priceL]
  | n :: q, [], _, _ => by simp only [priceL, List.length_cons]; omega
  | n :: q, x :: pr, h, h' => by
    have h1 := h n (List.mem_cons_self ..)
    have h2 := h' x (List.mem_cons_self ..)
    obtain ⟨i1, i2⟩ := priceL_bound (q := q) (pr := pr) (fun y hy => h y (List.mem_cons_of_mem _ hy)) fun y hy => h' y (List.mem_cons_of_mem _ hy)
    have m1 := Int.mul_nonneg h1.1 h2.1
    have m2 : n * x ≤ 1000000 * 1073741824 := Int.mul_le_mul h1.2 h2.2 h2.1 (by omega)
    simp only [priceL, List.length_cons]
    omega
theorem price_pu (q pr : List Int) (c c2 : Nat) (h : q.length = pr.length) (hl : q.length ≤ 200) (hq : ∀ x ∈ q, 0 ≤ x ∧ x ≤ 1000000) (hp : ∀ x ∈ pr, 0 ≤ x ∧ x ≤ 1073741824) :
    Pu Try.prog 63 [.s 0 0 0 q.length c 1, .s 1 0 0 pr.length c2 1] [rInt 3 q, rInt 3 pr] (.v (.int .i64 (priceL q pr))) := by
  refine pu_of_ex true [] mixed Try.call63 Try.func63 rfl Try.ntmps63 Try.results63 (by decide +kernel) rfl rfl rfl ?_
  simp only [push_cast, ↓branch_true, ↓branch_false, Nat.reduceBEq, Nat.reduceAdd, Nat.reduceMul, Nat.reduceSub, Int.reduceToNat, reduceCtorEq, branch_decide, branch_not, branch_beq, branch_bne]
  refine tr_loop0 mixed (by kernel_rfl) (fun (x : Nat × Int) => [(6, .v (.int .i64 x.1)), (5, .v (.int .i64 x.2)), (0, .s 0 0 0 q.length c 1), (1, .s 1 0 0 pr.length c2 1)]) (fun x => x.1 ≤ q.length ∧ 0 ≤ x.2 ∧ x.2 + priceL (q.drop x.1) (pr.drop x.1) = priceL q pr) (fun x => q.length - x.1) (0, 0) ⟨Nat.zero_le _, Int.le_refl _, by simp⟩ ?_ ?_
  · simp only [push_cast, ↓branch_true, ↓branch_false, Nat.reduceBEq, Nat.reduceAdd, Nat.reduceMul, Nat.reduceSub, Int.reduceToNat, reduceCtorEq, branch_decide, branch_not, branch_beq, branch_bne]
  rintro ⟨k, s⟩ ⟨r1, r0, r2⟩
  simp only at r1 r2 r0
  obtain ⟨b1, b2⟩ := priceL_bound hq hp
  simp only [push_cast, ↓branch_true, ↓branch_false, Nat.reduceBEq, Nat.reduceAdd, Nat.reduceMul, Nat.reduceSub, Int.reduceToNat, reduceCtorEq, branch_decide, branch_not, branch_beq, branch_bne]
  refine ⟨fun h1 => ?_, fun h1 => ?_⟩
  · have hk : k < q.length := by omega
    have hk2 : k < pr.length := by omega
    have q1 := hq _ (ix_mem hk)
    have p1 := hp _ (ix_mem hk2)
    have m1 := Int.mul_nonneg q1.1 p1.1
    have m2 : ix q k * ix pr k ≤ 1000000 * 1073741824 := Int.mul_le_mul q1.2 p1.2 p1.1 (by omega)
    have hs := priceL_step hk hk2
    have hn := (priceL_bound (q := q.drop (k + 1)) (pr := pr.drop (k + 1)) (fun x hx => hq x (List.mem_of_mem_drop hx)) fun x hx => hp x (List.mem_of_mem_drop hx)).1
    repeat (with_reducible refine And.intro (by omega) ?_)
    refine lp0_normal (k + 1, s + ix q k * ix pr k) ⟨by simp only; omega, by simp only; omega, by simp only; omega⟩ (by simp only; omega) ?_
    simp only [push_cast, ↓branch_true, ↓branch_false, Nat.reduceBEq, Nat.reduceAdd, Nat.reduceMul, Nat.reduceSub, Int.reduceToNat, reduceCtorEq, branch_decide, branch_not, branch_beq, branch_bne]
  · obtain rfl : k = q.length := by omega
    have : s = priceL q pr := by
      rw [List.drop_length] at r2
      simp only [priceL] at r2
      omega
    rw [this]
theorem priceM_pu (P : List (List Int)) (a : Nat) (pr : List Int) (c c2 : Nat) (ha : a < P.length) (h : (ix P a).length = pr.length) (hl : (ix P a).length ≤ 200) (hq : ∀ x ∈ ix P a, 0 ≤ x ∧ x ≤ 1000000) (hp : ∀ x ∈ pr, 0 ≤ x ∧ x ≤ 1073741824) :
    Pu Try.prog 63 [.s 0 a 0 (ix P a).length c 1, .s 1 0 0 pr.length c2 1] [rLL P, rInt 3 pr] (.v (.int .i64 (priceL (ix P a) pr))) := by
  refine pu_member 0 a [2, 1] rfl ⟨rfl, ha⟩ ?_ (by kernel_rfl) ?_ (price_pu (ix P a) pr c c2 h hl hq hp)
  · simp only [push_cast, ↓branch_true, ↓branch_false, Nat.reduceBEq, Nat.reduceAdd, Nat.reduceMul, Nat.reduceSub, Int.reduceToNat, reduceCtorEq, branch_decide, branch_not, branch_beq, branch_bne]
  · simp only [push_cast, ↓branch_true, ↓branch_false, Nat.reduceBEq, Nat.reduceAdd, Nat.reduceMul, Nat.reduceSub, Int.reduceToNat, reduceCtorEq, branch_decide, branch_not, branch_beq, branch_bne]
theorem inB_vals : ∀ {l : List Pc} {q : List Int}, orderB l = true → inB l q = true → q.length = l.length → ∀ x ∈ q, 0 ≤ x ∧ x ≤ 1000000 := fun {l q} ho hi hl x hx => by
  obtain ⟨k, hk, rfl⟩ := List.getElem_of_mem hx
  have h1 := inB_at hi k (by omega) hk
  have h2 := order_at ho (show k < l.length by omega)
  rw [ix_eq hk] at h1
  omega
theorem fold_start {pr : List Int} {e : List Int} {r : List (List Int)} (h : 0 ≤ priceL e pr) : (e :: r).foldl (pickB [] 0 pr) ([], -1) = (e :: r).foldl (pickB [] 0 pr) (e, priceL e pr) := by
  simp only [List.foldl_cons]
  congr 1
  simp only [pickB, List.nil_append, Int.zero_add]
  rw [if_pos (by omega), if_neg (by omega)]
theorem bestS_fold {length : Int} {l : List Pc} {pr : List Int} (ho : orderB l = true) (h0 : 0 ≤ length) (hl : pr.length = l.length) (hp : ∀ x ∈ pr, 0 ≤ x) (hE : bestE length l pr = 0) : bestS length l pr = (eachG l length).foldl (pickB [] 0 pr) ([], -1) := by
  rw [bestS, if_pos hE, dearG_eq (posL_of ho) hl hp h0]
theorem rBest_sp (length : Int) (l : List Pc) (c : Nat) (pr : List Int) (cp : Nat) (hl : l.length ≤ 9223372036854775806) (hl2 : pr.length ≤ 9223372036854775806) (hn : givenE length l l.length = 0 → l.length ≤ 10 → (eachG l length).length ≤ 1000000) :
    Sp Try.prog 39 [.v (.int .i64 length), .s 0 0 0 l.length c 2, .s 1 0 0 pr.length cp 1] [rPc l, rInt 3 pr]
    (fun r H => ∃ nb bi bl bc caps bf, r = .t [.s 2 bi 0 bl bc 1, .v (.int .i64 (bestS length l pr).2), .v (.int .i64 (bestE length l pr))] ∧ BstOk l.length nb bi bl bc caps bf (bestS length l pr) ∧ H = [rPc l, rInt 3 pr, rFam l.length nb bf]) := by
  refine sp_wk ?_
  refine sp_of_ex true [] mixed Try.call39 Try.func39 rfl Try.ntmps39 Try.results39 (by decide +kernel) rfl ?_
  simp only [push_cast, ↓branch_true, ↓branch_false, Nat.reduceBEq, Nat.reduceAdd, Nat.reduceMul, Nat.reduceSub, Int.reduceToNat, reduceCtorEq, branch_decide, branch_not, branch_beq, branch_bne]
  refine sp_call (rgiven_pu length pr.length l c (by omega)) rfl [0] rfl (by simp only [push_cast, ↓branch_true, ↓branch_false, Nat.reduceBEq, Nat.reduceAdd, Nat.reduceMul, Nat.reduceSub, Int.reduceToNat, reduceCtorEq, branch_decide, branch_not, branch_beq, branch_bne]) (by simp only [push_cast, ↓branch_true, ↓branch_false, Nat.reduceBEq, Nat.reduceAdd, Nat.reduceMul, Nat.reduceSub, Int.reduceToNat, reduceCtorEq, branch_decide, branch_not, branch_beq, branch_bne]) ?_
  simp only [push_cast, ↓branch_true, ↓branch_false, Nat.reduceBEq, Nat.reduceAdd, Nat.reduceMul, Nat.reduceSub, Int.reduceToNat, reduceCtorEq, branch_decide, branch_not, branch_beq, branch_bne]
  refine ⟨fun hg => ?_, fun hg => ?_⟩
  · obtain ⟨g1, g2, g3, g4⟩ := given_0 hg
    have g4 : pr.length = l.length := by omega
    have hpos := posL_of g1
    have h200 := order_len g1
    refine tr_loop0 mixed (by kernel_rfl) (fun (k : Nat) => [(10, .v (.int .i64 k)), (0, .v (.int .i64 length)), (1, .s 0 0 0 l.length c 2), (2, .s 1 0 0 pr.length cp 1)]) (fun k => k ≤ pr.length ∧ ∀ j, j < k → badP (ix pr j) = false) (fun k => pr.length - k) 0 ⟨Nat.zero_le _, fun j h => by omega⟩ ?_ ?_
    · simp only [push_cast, ↓branch_true, ↓branch_false, Nat.reduceBEq, Nat.reduceAdd, Nat.reduceMul, Nat.reduceSub, Int.reduceToNat, reduceCtorEq, branch_decide, branch_not, branch_beq, branch_bne]
    rintro k ⟨r1, r2⟩
    simp only [push_cast, ↓branch_true, ↓branch_false, Nat.reduceBEq, Nat.reduceAdd, Nat.reduceMul, Nat.reduceSub, Int.reduceToNat, reduceCtorEq, branch_decide, branch_not, branch_beq, branch_bne]
    refine ⟨fun h1 => ?_, fun h1 => ?_⟩
    · have hk : k < pr.length := by omega
      have bad : badP (ix pr k) = true → bestE length l pr = 2 ∧ bestS length l pr = ([], 0) := fun hb => by
        have e1 : bestE length l pr = 2 := by
          unfold bestE
          rw [if_neg (by simp [hg]), if_pos (List.any_eq_true.2 ⟨_, ix_mem hk, hb⟩)]
        exact ⟨e1, by unfold bestS; rw [if_neg (by rw [e1]; decide)]⟩
      repeat (with_reducible refine And.intro (by omega) ?_)
      refine ⟨fun h => ?_, fun h => ?_⟩
      · obtain ⟨e1, e2⟩ := bad (by simp [badP, h])
        rw [e1, e2]
        refine ⟨_, _, vwk_mt [0, 1, 2] ?_ ?_ ?_, 0, 0, 0, 0, fun _ => 0, [], rfl, ⟨rfl, .inl ⟨rfl, rfl, rfl⟩⟩, rfl⟩
        · simp only [push_cast, ↓branch_true, ↓branch_false, Nat.reduceBEq, Nat.reduceAdd, Nat.reduceMul, Nat.reduceSub, Int.reduceToNat, reduceCtorEq, branch_decide, branch_not, branch_beq, branch_bne]
        · kernel_rfl
        · simp only [push_cast, ↓branch_true, ↓branch_false, Nat.reduceBEq, Nat.reduceAdd, Nat.reduceMul, Nat.reduceSub, Int.reduceToNat, reduceCtorEq, branch_decide, branch_not, branch_beq, branch_bne]
      · repeat (with_reducible refine And.intro (by omega) ?_)
        refine ⟨fun h' => ?_, fun h' => ?_⟩
        · obtain ⟨e1, e2⟩ := bad (by simp [badP, h'])
          rw [e1, e2]
          refine ⟨_, _, vwk_mt [0, 1, 2] ?_ ?_ ?_, 0, 0, 0, 0, fun _ => 0, [], rfl, ⟨rfl, .inl ⟨rfl, rfl, rfl⟩⟩, rfl⟩
          · simp only [push_cast, ↓branch_true, ↓branch_false, Nat.reduceBEq, Nat.reduceAdd, Nat.reduceMul, Nat.reduceSub, Int.reduceToNat, reduceCtorEq, branch_decide, branch_not, branch_beq, branch_bne]
          · kernel_rfl
          · simp only [push_cast, ↓branch_true, ↓branch_false, Nat.reduceBEq, Nat.reduceAdd, Nat.reduceMul, Nat.reduceSub, Int.reduceToNat, reduceCtorEq, branch_decide, branch_not, branch_beq, branch_bne]
        · repeat (with_reducible refine And.intro (by omega) ?_)
          refine lp0_normal (k + 1) ⟨by omega, fun j hj => ?_⟩ (by omega) ?_
          · by_cases e : j = k
            · subst e; simp [badP, h, h']
            · exact r2 j (by omega)
          · simp only [push_cast, ↓branch_true, ↓branch_false, Nat.reduceBEq, Nat.reduceAdd, Nat.reduceMul, Nat.reduceSub, Int.reduceToNat, reduceCtorEq, branch_decide, branch_not, branch_beq, branch_bne]
    · obtain rfl : k = pr.length := by omega
      have hany : pr.any badP = false := by
        rw [List.any_eq_false]
        intro x hx
        obtain ⟨j, hj, rfl⟩ := List.getElem_of_mem hx
        rw [← ix_eq hj, r2 j hj]; decide
      have hpr : ∀ x ∈ pr, 0 ≤ x ∧ x ≤ 1073741824 := fun x hx => by
        have := (List.any_eq_false.1 hany) x hx
        simp only [badP, Bool.or_eq_true, decide_eq_true_eq] at this
        omega
      refine ⟨fun h2 => ?_, fun h2 => ?_⟩
      · have e1 : bestE length l pr = 6 := by unfold bestE; rw [if_neg (by simp [hg]), if_neg (by simp [hany]), if_pos (by omega)]
        have e2 : bestS length l pr = ([], 0) := by unfold bestS; rw [if_neg (by rw [e1]; decide)]
        rw [e1, e2]
        refine ⟨_, _, vwk_mt [0, 1, 2] ?_ ?_ ?_, 0, 0, 0, 0, fun _ => 0, [], rfl, ⟨rfl, .inl ⟨rfl, rfl, rfl⟩⟩, rfl⟩
        · simp only [push_cast, ↓branch_true, ↓branch_false, Nat.reduceBEq, Nat.reduceAdd, Nat.reduceMul, Nat.reduceSub, Int.reduceToNat, reduceCtorEq, branch_decide, branch_not, branch_beq, branch_bne]
        · kernel_rfl
        · simp only [push_cast, ↓branch_true, ↓branch_false, Nat.reduceBEq, Nat.reduceAdd, Nat.reduceMul, Nat.reduceSub, Int.reduceToNat, reduceCtorEq, branch_decide, branch_not, branch_beq, branch_bne]
      · have e1 : bestE length l pr = 0 := by unfold bestE; rw [if_neg (by simp [hg]), if_neg (by simp [hany]), if_neg (by omega)]
        have e2 := bestS_fold g1 (by omega) g4 (fun x hx => (hpr x hx).1) e1
        have hn := hn (by rw [← hg]; congr 1; omega) (by omega)
        obtain ⟨_, hE0⟩ := curE_zero hpos (show 0 ≤ length by omega)
        refine sp_at (each_sp length l c g1 (by omega) g3 hn) [0] rfl ?_ ?_ ?_
        · simp only [push_cast, ↓branch_true, ↓branch_false, Nat.reduceBEq, Nat.reduceAdd, Nat.reduceMul, Nat.reduceSub, Int.reduceToNat, reduceCtorEq, branch_decide, branch_not, branch_beq, branch_bne]
        · simp only [push_cast, ↓branch_true, ↓branch_false, Nat.reduceBEq, Nat.reduceAdd, Nat.reduceMul, Nat.reduceSub, Int.reduceToNat, reduceCtorEq, branch_decide, branch_not, branch_beq, branch_bne]
        rintro r0 H1 ⟨oc0, caps0, rfl, rfl⟩
        generalize hE : eachG l length = E at hn e2 hE0
        have hEm : ∀ q ∈ E, q.length = l.length ∧ inB l q = true ∧ sumL l q ≤ length := fun q hq => (mem_eachG hpos (by omega)).1 (by rw [hE]; exact hq)
        simp only [push_cast, ↓branch_true, ↓branch_false, Nat.reduceBEq, Nat.reduceAdd, Nat.reduceMul, Nat.reduceSub, Int.reduceToNat, reduceCtorEq, branch_decide, branch_not, branch_beq, branch_bne]
        repeat (with_reducible refine And.intro (by omega) ?_)
        refine tr_loop0 mixed (by kernel_rfl) (fun (x : Nat × Nat) => [(13, .v (.int .i64 x.1)), (12, .s 2 x.2 0 l.length (caps0 x.2) 1), (11, .s 3 0 0 E.length oc0 1), (0, .v (.int .i64 length)), (1, .s 0 0 0 l.length c 2), (2, .s 1 0 0 pr.length cp 1)])
          (fun x => x.1 ≤ E.length ∧ x.2 < E.length ∧ (ix E x.2, priceL (ix E x.2) pr) = (E.take x.1).foldl (pickB [] 0 pr) (ix E 0, priceL (ix E 0) pr)) (fun x => E.length - x.1) (0, 0) ⟨Nat.zero_le _, hE0, rfl⟩ ?_ ?_
        · simp only [push_cast, ↓branch_true, ↓branch_false, Nat.reduceBEq, Nat.reduceAdd, Nat.reduceMul, Nat.reduceSub, Int.reduceToNat, reduceCtorEq, branch_decide, branch_not, branch_beq, branch_bne]
        rintro ⟨i, b⟩ ⟨s1, s2, s3⟩
        simp only at s1 s2 s3
        have hM : ∀ a, a < E.length → Pu Try.prog 63 [.s 0 a 0 (ix E a).length (caps0 a) 1, .s 1 0 0 pr.length cp 1] [rLL E, rInt 3 pr] (.v (.int .i64 (priceL (ix E a) pr))) := fun a ha => by
          obtain ⟨f1, f2, f3⟩ := hEm _ (ix_mem ha)
          exact priceM_pu E a pr (caps0 a) cp ha (by omega) (by omega) (inB_vals g1 f2 f1) hpr
        obtain ⟨b1, b2, b3⟩ := hEm _ (ix_mem s2)
        simp only [push_cast, ↓branch_true, ↓branch_false, Nat.reduceBEq, Nat.reduceAdd, Nat.reduceMul, Nat.reduceSub, Int.reduceToNat, reduceCtorEq, branch_decide, branch_not, branch_beq, branch_bne]
        refine ⟨fun h => ?_, fun h => ?_⟩
        · have hi : i < E.length := by omega
          obtain ⟨f1, f2, f3⟩ := hEm _ (ix_mem hi)
          have htk : E.take (i + 1) = E.take i ++ [ix E i] := by rw [List.take_add_one, List.getElem?_eq_getElem hi, ix_eq hi]; rfl
          repeat (with_reducible refine And.intro (by omega) ?_)
          refine sp_call (hM i hi) rfl [2, 1] rfl ?_ ?_ ?_
          · simp only [push_cast, ↓branch_true, ↓branch_false, Nat.reduceBEq, Nat.reduceAdd, Nat.reduceMul, Nat.reduceSub, Int.reduceToNat, reduceCtorEq, branch_decide, branch_not, branch_beq, branch_bne]
            exact f1
          · simp only [push_cast, ↓branch_true, ↓branch_false, Nat.reduceBEq, Nat.reduceAdd, Nat.reduceMul, Nat.reduceSub, Int.reduceToNat, reduceCtorEq, branch_decide, branch_not, branch_beq, branch_bne]
            exact fun k hk => Nat.le_of_eq (hEm _ (ix_mem hk)).1
          simp only [push_cast, ↓branch_true, ↓branch_false, Nat.reduceBEq, Nat.reduceAdd, Nat.reduceMul, Nat.reduceSub, Int.reduceToNat, reduceCtorEq, branch_decide, branch_not, branch_beq, branch_bne]
          refine sp_call (hM b s2) rfl [2, 1] rfl ?_ ?_ ?_
          · simp only [push_cast, ↓branch_true, ↓branch_false, Nat.reduceBEq, Nat.reduceAdd, Nat.reduceMul, Nat.reduceSub, Int.reduceToNat, reduceCtorEq, branch_decide, branch_not, branch_beq, branch_bne]
            exact b1
          · simp only [push_cast, ↓branch_true, ↓branch_false, Nat.reduceBEq, Nat.reduceAdd, Nat.reduceMul, Nat.reduceSub, Int.reduceToNat, reduceCtorEq, branch_decide, branch_not, branch_beq, branch_bne]
            exact fun k hk => Nat.le_of_eq (hEm _ (ix_mem hk)).1
          simp only [push_cast, ↓branch_true, ↓branch_false, Nat.reduceBEq, Nat.reduceAdd, Nat.reduceMul, Nat.reduceSub, Int.reduceToNat, reduceCtorEq, branch_decide, branch_not, branch_beq, branch_bne]
          refine ⟨fun h3 => ?_, fun h3 => ?_⟩
          · repeat (with_reducible refine And.intro (by omega) ?_)
            refine lp0_normal (i + 1, i) ⟨by simp only; omega, hi, ?_⟩ (by simp only; omega) ?_
            · simp only
              rw [htk, List.foldl_append, ← s3]
              simp only [List.foldl_cons, List.foldl_nil, pickB, Int.zero_add, List.nil_append]
              rw [if_pos h3]
            · simp only [push_cast, ↓branch_true, ↓branch_false, Nat.reduceBEq, Nat.reduceAdd, Nat.reduceMul, Nat.reduceSub, Int.reduceToNat, reduceCtorEq, branch_decide, branch_not, branch_beq, branch_bne]
          · repeat (with_reducible refine And.intro (by omega) ?_)
            refine lp0_normal (i + 1, b) ⟨by simp only; omega, s2, ?_⟩ (by simp only; omega) ?_
            · simp only
              rw [htk, List.foldl_append, ← s3]
              simp only [List.foldl_cons, List.foldl_nil, pickB, Int.zero_add, List.nil_append]
              rw [if_neg h3]
            · simp only [push_cast, ↓branch_true, ↓branch_false, Nat.reduceBEq, Nat.reduceAdd, Nat.reduceMul, Nat.reduceSub, Int.reduceToNat, reduceCtorEq, branch_decide, branch_not, branch_beq, branch_bne]
        · obtain rfl : i = E.length := by omega
          rw [List.take_length] at s3
          have e3 : bestS length l pr = (ix E b, priceL (ix E b) pr) := by
            rw [e2, s3]
            cases E with
            | nil => simp at hE0
            | cons e r =>
              have q0 := hEm e (List.mem_cons_self ..)
              rw [fold_start (priceL_bound (inB_vals g1 q0.2.1 q0.1) hpr).1]
              rfl
          refine sp_call (hM b s2) rfl [2, 1] rfl ?_ ?_ ?_
          · simp only [push_cast, ↓branch_true, ↓branch_false, Nat.reduceBEq, Nat.reduceAdd, Nat.reduceMul, Nat.reduceSub, Int.reduceToNat, reduceCtorEq, branch_decide, branch_not, branch_beq, branch_bne]
            exact b1
          · simp only [push_cast, ↓branch_true, ↓branch_false, Nat.reduceBEq, Nat.reduceAdd, Nat.reduceMul, Nat.reduceSub, Int.reduceToNat, reduceCtorEq, branch_decide, branch_not, branch_beq, branch_bne]
            exact fun k hk => Nat.le_of_eq (hEm _ (ix_mem hk)).1
          simp only [push_cast, ↓branch_true, ↓branch_false, Nat.reduceBEq, Nat.reduceAdd, Nat.reduceMul, Nat.reduceSub, Int.reduceToNat, reduceCtorEq, branch_decide, branch_not, branch_beq, branch_bne]
          rw [e1, e3]
          refine ⟨_, _, vwk_mt [0, 1, 2] ?_ ?_ ?_, E.length, b, l.length, caps0 b, caps0, E, rfl, ⟨rfl, .inr ⟨s2, rfl, rfl, rfl, b1⟩⟩, rfl⟩
          · simp only [push_cast, ↓branch_true, ↓branch_false, Nat.reduceBEq, Nat.reduceAdd, Nat.reduceMul, Nat.reduceSub, Int.reduceToNat, reduceCtorEq, branch_decide, branch_not, branch_beq, branch_bne]
          · kernel_rfl
          · simp only [push_cast, ↓branch_true, ↓branch_false, Nat.reduceBEq, Nat.reduceAdd, Nat.reduceMul, Nat.reduceSub, Int.reduceToNat, reduceCtorEq, branch_decide, branch_not, branch_beq, branch_bne]
  · have e1 : bestE length l pr = givenE length l pr.length := by unfold bestE; rw [if_pos hg]
    have e2 : bestS length l pr = ([], 0) := by unfold bestS; rw [if_neg (by rw [e1]; exact hg)]
    rw [e1, e2]
    refine ⟨_, _, vwk_mt [0, 1, 2] ?_ ?_ ?_, 0, 0, 0, 0, fun _ => 0, [], rfl, ⟨rfl, .inl ⟨rfl, rfl, rfl⟩⟩, rfl⟩
    · simp only [push_cast, ↓branch_true, ↓branch_false, Nat.reduceBEq, Nat.reduceAdd, Nat.reduceMul, Nat.reduceSub, Int.reduceToNat, reduceCtorEq, branch_decide, branch_not, branch_beq, branch_bne]
    · kernel_rfl
    · simp only [push_cast, ↓branch_true, ↓branch_false, Nat.reduceBEq, Nat.reduceAdd, Nat.reduceMul, Nat.reduceSub, Int.reduceToNat, reduceCtorEq, branch_decide, branch_not, branch_beq, branch_bne]
end Go.Proofs.Ytdeaaonppokgkaa.Pat
