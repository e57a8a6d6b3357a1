/- Contracts: Clone of lists of lists; DeleteFunc. -/
import Derived.Test.YtmmabnoemckdiaaS
import Derived.Test.YtmmabnoemckdiaaC
import Derived.Test.YtmmabnoemckdiaaC0
import Derived.Test.YtmmabnoemckdiaaUA
set_option maxRecDepth 100000
set_option linter.unusedSimpArgs false
set_option linter.unusedVariables false
namespace Go.Proofs.Ytmmabnoemckdiaa
open Go.RowKit Bip
theorem set_self {α : Type} [Inhabited α] {l : List α} {f : Nat} (h : f < l.length) (x : α) : ix (l.set f x) f = x := by
  rw [ix_eq (by simpa using h)]; simp
theorem set_ne {α : Type} [Inhabited α] {l : List α} {f q : Nat} (h : q ≠ f) (x : α) : ix (l.set f x) q = ix l q := by
  unfold ix
  rw [List.getD_eq_getElem?_getD, List.getD_eq_getElem?_getD, List.getElem?_set_ne (Ne.symm h)]
/-- What is kept of the first elements. -/
def keepT {α : Type} [Inhabited α] (p : α → Bool) (l : List α) (j : Nat) : List α := (l.take j).filter fun x => !p x
/-- The row while elements are deleted. -/
def delT {α : Type} [Inhabited α] (p : α → Bool) (l : List α) : Nat → List α
  | 0 => l
  | j + 1 => bif p (ix l j) then delT p l j else (delT p l j).set (keepT p l j).length (ix l j)
theorem keepT_no {α : Type} [Inhabited α] {p : α → Bool} {l : List α} {j : Nat} (hj : j < l.length) (h : p (ix l j) = true) : keepT p l (j + 1) = keepT p l j := by
  unfold keepT
  rw [take_snoc hj, List.filter_append]
  simp [h]
theorem keepT_yes {α : Type} [Inhabited α] {p : α → Bool} {l : List α} {j : Nat} (hj : j < l.length) (h : p (ix l j) = false) : keepT p l (j + 1) = keepT p l j ++ [ix l j] := by
  unfold keepT
  rw [take_snoc hj, List.filter_append]
  simp [h]
theorem keepT_len {α : Type} [Inhabited α] (p : α → Bool) (l : List α) (j : Nat) : (keepT p l j).length ≤ j := by
  unfold keepT
  refine Nat.le_trans (List.length_filter_le _ _) ?_
  simp
  omega
theorem delT_len {α : Type} [Inhabited α] (p : α → Bool) (l : List α) : ∀ j, (delT p l j).length = l.length
  | 0 => rfl
  | j + 1 => by
    unfold delT
    cases p (ix l j) <;> simp [delT_len p l j]
theorem appL_last {α : Type} [Inhabited α] (l : List α) (x : α) : ix (l ++ [x]) l.length = x := by
  rw [ix_eq (by simp)]; simp
theorem delT_ok {α : Type} [Inhabited α] {p : α → Bool} {l : List α} : ∀ j, j ≤ l.length → (∀ q, j ≤ q → ix (delT p l j) q = ix l q) ∧ (∀ q, q < (keepT p l j).length → ix (delT p l j) q = ix (keepT p l j) q)
  | 0, _ => ⟨fun _ _ => rfl, fun q hq => by simp [keepT] at hq⟩
  | j + 1, h => by
    have hj : j < l.length := by omega
    obtain ⟨h1, h2⟩ := delT_ok (p := p) (l := l) j (by omega)
    have hl := keepT_len p l j
    have hd := delT_len p l j
    cases hp : p (ix l j) with
    | true =>
      rw [keepT_no hj hp, delT, hp, cond_true]
      exact ⟨fun q hq => h1 q (by omega), h2⟩
    | false =>
      rw [keepT_yes hj hp, delT, hp, cond_false]
      refine ⟨fun q hq => ?_, fun q hq => ?_⟩
      · rw [set_ne (show q ≠ (keepT p l j).length by omega)]; exact h1 q (by omega)
      · by_cases e : q = (keepT p l j).length
        · subst e
          rw [set_self (by omega), appL_last]
        · rw [set_ne e, ix_app_ne e]
          exact h2 q (by simp at hq; omega)
theorem keep_all {α : Type} [Inhabited α] {p : α → Bool} {l : List α} : ∀ j, j ≤ l.length → (∀ q, q < j → p (ix l q) = false) → keepT p l j = l.take j ∧ ∀ q, ix (delT p l j) q = ix l q
  | 0, _, _ => ⟨by simp [keepT], fun _ => rfl⟩
  | j + 1, h, hn => by
    obtain ⟨h1, h2⟩ := keep_all (p := p) (l := l) j (by omega) fun q hq => hn q (by omega)
    have hp := hn j (by omega)
    have hd := delT_len p l j
    refine ⟨by rw [keepT_yes (show j < l.length by omega) hp, h1, take_snoc (show j < l.length by omega)], fun q => ?_⟩
    rw [delT, hp, cond_false, h1]
    have hl : (l.take j).length = j := by simp; omega
    rw [hl]
    by_cases e : q = j
    · subst e; rw [set_self (by omega)]
    · rw [set_ne e]; exact h2 q
theorem idxB_cases {α : Type} [Inhabited α] (p : α → Bool) (l : List α) : (idxB p l 0 = -1 ∧ ∀ q, q < l.length → p (ix l q) = false) ∨ ∃ k : Nat, k < l.length ∧ idxB p l 0 = k ∧ p (ix l k) = true ∧ ∀ q, q < k → p (ix l q) = false := by
  by_cases h : ∀ q, q < l.length → p (ix l q) = false
  · exact .inl ⟨idxB_none p l 0 h, h⟩
  · have hex : ∃ k, k < l.length ∧ p (ix l k) = true := by
      refine Classical.byContradiction fun hc => h fun q hq => ?_
      rw [Bool.eq_false_iff]
      exact fun he => hc ⟨q, hq, he⟩
    have hfix : ∀ n, (∃ k, k < n ∧ p (ix l k) = true) → ∃ k, k < n ∧ p (ix l k) = true ∧ ∀ q, q < k → p (ix l q) = false := by
      intro n
      induction n with
      | zero => rintro ⟨k, h, _⟩; omega
      | succ n ih =>
        rintro ⟨k, hk, hp⟩
        by_cases h2 : ∃ k, k < n ∧ p (ix l k) = true
        · obtain ⟨k, h3, h4⟩ := ih h2
          exact ⟨k, by omega, h4⟩
        · refine ⟨k, hk, hp, fun q hq => ?_⟩
          rw [Bool.eq_false_iff]
          exact fun he => h2 ⟨q, by omega, he⟩
    obtain ⟨k, h1, h2, h3⟩ := hfix _ hex
    exact .inr ⟨k, h1, by rw [idxB_at p l 0 k h1 h3 h2]; simp, h2, h3⟩
/-- A list of lists of one's own. -/
def oNo (F N : Nat) (near : Nat → List Int) (cp : Nat → Nat) (cap : Nat) : Ob := ⟨25, false, .row 1 1 (fun _ => N) (fun _ => cap) (fun _ k => [.s F k 0 (near k).length (cp k) 1])⟩
attribute [push_cast] oNo
set_option maxHeartbeats 1000000 in
theorem cloneN_sp (N c : Nat) (near : Nat → List Int) (cp : Nat → Nat) (hl : N ≤ 1000000) (hc : N ≤ c) : Sp Try.prog 64 [.s 0 0 0 N c 1] [oNe 1 N near cp, oNf N near] (fun r H => ∃ cap, N ≤ cap ∧ r = .s 2 0 0 N cap 1 ∧ H = [oNe 1 N near cp, oNf N near, oNo 1 N near cp cap]) := by
  refine sp_weak ?_
  refine sp_of_ex true [] mixed Try.call64 Try.func64 rfl Try.ntmps64 Try.results64 (by decide +kernel) rfl ?_
  simp only [push_cast, ↓branch_true, ↓branch_false, Nat.reduceBEq, Nat.reduceAdd, Nat.reduceMul, Nat.reduceSub, Int.reduceToNat, reduceCtorEq, branch_decide, branch_not, branch_beq, branch_bne, Int.reduceAdd, Int.reduceEq, Int.reduceLE, Int.reduceLT, Nat.reduceLT, Nat.reduceLeDiff, false_imp_iff, true_imp_iff]
  intro b hb
  cases b with
  | true =>
    have h0 : N = 0 := by
      rcases Nat.eq_zero_or_pos c with h | h
      · omega
      · cases hb h
    simp only [push_cast, ↓branch_true, ↓branch_false, Nat.reduceBEq, Nat.reduceAdd, Nat.reduceMul, Nat.reduceSub, Int.reduceToNat, reduceCtorEq, branch_decide, branch_not, branch_beq, branch_bne, Int.reduceAdd, Int.reduceEq, Int.reduceLE, Int.reduceLT, Nat.reduceLT, Nat.reduceLeDiff, false_imp_iff, true_imp_iff]
    refine ⟨_, _, [0, 1, 1000], ?_, by kernel_rfl, ?_, 0, by omega, rfl, rfl⟩
    · simp only [push_cast, ↓branch_true, ↓branch_false, Nat.reduceBEq, Nat.reduceAdd, Nat.reduceMul, Nat.reduceSub, Int.reduceToNat, reduceCtorEq, branch_decide, branch_not, branch_beq, branch_bne, Int.reduceAdd, Int.reduceEq, Int.reduceLE, Int.reduceLT, Nat.reduceLT, Nat.reduceLeDiff, false_imp_iff, true_imp_iff]
      exact h0
    · simp only [push_cast, ↓branch_true, ↓branch_false, Nat.reduceBEq, Nat.reduceAdd, Nat.reduceMul, Nat.reduceSub, Int.reduceToNat, reduceCtorEq, branch_decide, branch_not, branch_beq, branch_bne, Int.reduceAdd, Int.reduceEq, Int.reduceLE, Int.reduceLT, Nat.reduceLT, Nat.reduceLeDiff, false_imp_iff, true_imp_iff]
      omega
  | false =>
    simp only [push_cast, ↓branch_true, ↓branch_false, Nat.reduceBEq, Nat.reduceAdd, Nat.reduceMul, Nat.reduceSub, Int.reduceToNat, reduceCtorEq, branch_decide, branch_not, branch_beq, branch_bne, Int.reduceAdd, Int.reduceEq, Int.reduceLE, Int.reduceLT, Nat.reduceLT, Nat.reduceLeDiff, false_imp_iff, true_imp_iff]
    repeat (with_reducible refine And.intro (by omega) ?_)
    refine ⟨?_, appZ_of (fun h => ?_) fun _ => .inl ⟨by omega, by omega, fun cap hcap => ?_⟩⟩
    · unfold srcOk
      split <;> simp [lenP, lenIs, ones, one1]
    · refine ⟨_, _, [0, 1, 2], ?_, by kernel_rfl, ?_, 0, by omega, rfl, rfl⟩
      · simp only [push_cast, ↓branch_true, ↓branch_false, Nat.reduceBEq, Nat.reduceAdd, Nat.reduceMul, Nat.reduceSub, Int.reduceToNat, reduceCtorEq, branch_decide, branch_not, branch_beq, branch_bne, Int.reduceAdd, Int.reduceEq, Int.reduceLE, Int.reduceLT, Nat.reduceLT, Nat.reduceLeDiff, false_imp_iff, true_imp_iff]
        exact h
      · simp only [push_cast, ↓branch_true, ↓branch_false, Nat.reduceBEq, Nat.reduceAdd, Nat.reduceMul, Nat.reduceSub, Int.reduceToNat, reduceCtorEq, branch_decide, branch_not, branch_beq, branch_bne, Int.reduceAdd, Int.reduceEq, Int.reduceLE, Int.reduceLT, Nat.reduceLT, Nat.reduceLeDiff, false_imp_iff, true_imp_iff]
        exact fun _ _ => ⟨by omega, fun k hk => by omega⟩
    · refine ⟨_, _, [0, 1, 3], ?_, by kernel_rfl, ?_, cap, hcap, rfl, rfl⟩
      · simp only [push_cast, ↓branch_true, ↓branch_false, Nat.reduceBEq, Nat.reduceAdd, Nat.reduceMul, Nat.reduceSub, Int.reduceToNat, reduceCtorEq, branch_decide, branch_not, branch_beq, branch_bne, Int.reduceAdd, Int.reduceEq, Int.reduceLE, Int.reduceLT, Nat.reduceLT, Nat.reduceLeDiff, false_imp_iff, true_imp_iff]
      · simp only [push_cast, ↓branch_true, ↓branch_false, Nat.reduceBEq, Nat.reduceAdd, Nat.reduceMul, Nat.reduceSub, Int.reduceToNat, reduceCtorEq, branch_decide, branch_not, branch_beq, branch_bne, Int.reduceAdd, Int.reduceEq, Int.reduceLE, Int.reduceLT, Nat.reduceLT, Nat.reduceLeDiff, false_imp_iff, true_imp_iff]
set_option maxHeartbeats 2000000 in
theorem delF_sp (l : List Int) (cap : Nat) (j : Int) (hl : l.length ≤ 1000000) (hc : l.length ≤ cap) : Sp Try.prog 65 [.s 0 0 0 l.length cap 1, .f (.func 67) [] [.p 1 0 0]] [rIO l cap, ⟨3, true, .st [.v (.int .i64 j)]⟩]
    (fun r H => r = .s 0 0 0 (keepT (fun x => decide (x = j)) l l.length).length cap 1 ∧ H = [rIO (keepT (fun x => decide (x = j)) l l.length) cap, ⟨3, true, .st [.v (.int .i64 j)]⟩]) := by
  refine sp_weak ?_
  refine sp_of_ex true [] mixed Try.call65 Try.func65 rfl Try.ntmps65 Try.results65 (by decide +kernel) rfl ?_
  simp only [push_cast, ↓branch_true, ↓branch_false, Nat.reduceBEq, Nat.reduceAdd, Nat.reduceMul, Nat.reduceSub, Int.reduceToNat, reduceCtorEq, branch_decide, branch_not, branch_beq, branch_bne, Int.reduceAdd, Int.reduceEq, Int.reduceLE, Int.reduceLT, Nat.reduceLT, Nat.reduceLeDiff, false_imp_iff, true_imp_iff]
  have hcl : ∀ C : List Int, ∀ x : Int, Pu Try.prog 67 [.v (.int .i64 x), .p 1 0 0] [oNf 1 (fun _ => C), ⟨3, true, .st [.v (.int .i64 j)]⟩] (.v (.bool (decide (x = j)))) := fun C x => by
    refine pu_of_ex true [] mixed Try.call67 Try.func67 rfl Try.ntmps67 Try.results67 (by decide +kernel) rfl rfl rfl ?_
    simp only [push_cast, ↓branch_true, ↓branch_false, Nat.reduceBEq, Nat.reduceAdd, Nat.reduceMul, Nat.reduceSub, Int.reduceToNat, reduceCtorEq, branch_decide, branch_not, branch_beq, branch_bne, Int.reduceAdd, Int.reduceEq, Int.reduceLE, Int.reduceLT, Nat.reduceLT, Nat.reduceLeDiff, false_imp_iff, true_imp_iff]
    exact vb (by rw [Bool.eq_iff_iff]; simp)
  refine sp_call (indexM_pu 1 0 cap (fun _ => l) 67 [] [.p 1 0 0] [⟨3, true, .st [.v (.int .i64 j)]⟩] (fun x => decide (x = j)) rfl (by omega) (by show l.length ≤ _; omega) fun x _ => hcl l x) rfl [0, 1] rfl ?_ ?_ ?_
  · simp only [push_cast, ↓branch_true, ↓branch_false, Nat.reduceBEq, Nat.reduceAdd, Nat.reduceMul, Nat.reduceSub, Int.reduceToNat, reduceCtorEq, branch_decide, branch_not, branch_beq, branch_bne, Int.reduceAdd, Int.reduceEq, Int.reduceLE, Int.reduceLT, Nat.reduceLT, Nat.reduceLeDiff, false_imp_iff, true_imp_iff]
    try trivial
  · simp only [push_cast, ↓branch_true, ↓branch_false, Nat.reduceBEq, Nat.reduceAdd, Nat.reduceMul, Nat.reduceSub, Int.reduceToNat, reduceCtorEq, branch_decide, branch_not, branch_beq, branch_bne, Int.reduceAdd, Int.reduceEq, Int.reduceLE, Int.reduceLT, Nat.reduceLT, Nat.reduceLeDiff, false_imp_iff, true_imp_iff]
    try trivial
  have hkl := keepT_len (fun x => decide (x = j)) l l.length
  rcases idxB_cases (fun x => decide (x = j)) l with ⟨h1, h2⟩ | ⟨i, hi, h1, h2, h3⟩
  · rw [h1, (keep_all l.length (Nat.le_refl _) h2).1, List.take_length]
    simp only [push_cast, ↓branch_true, ↓branch_false, Nat.reduceBEq, Nat.reduceAdd, Nat.reduceMul, Nat.reduceSub, Int.reduceToNat, reduceCtorEq, branch_decide, branch_not, branch_beq, branch_bne, Int.reduceAdd, Int.reduceEq, Int.reduceLE, Int.reduceLT, Nat.reduceLT, Nat.reduceLeDiff, false_imp_iff, true_imp_iff]
    refine ⟨_, _, [0, 1], ?_, by kernel_rfl, ?_, rfl, rfl⟩
    · simp only [push_cast, ↓branch_true, ↓branch_false, Nat.reduceBEq, Nat.reduceAdd, Nat.reduceMul, Nat.reduceSub, Int.reduceToNat, reduceCtorEq, branch_decide, branch_not, branch_beq, branch_bne, Int.reduceAdd, Int.reduceEq, Int.reduceLE, Int.reduceLT, Nat.reduceLT, Nat.reduceLeDiff, false_imp_iff, true_imp_iff]
    · simp only [push_cast, ↓branch_true, ↓branch_false, Nat.reduceBEq, Nat.reduceAdd, Nat.reduceMul, Nat.reduceSub, Int.reduceToNat, reduceCtorEq, branch_decide, branch_not, branch_beq, branch_bne, Int.reduceAdd, Int.reduceEq, Int.reduceLE, Int.reduceLT, Nat.reduceLT, Nat.reduceLeDiff, false_imp_iff, true_imp_iff]
  · rw [h1]
    obtain ⟨k1, k2⟩ := keep_all (p := fun x => decide (x = j)) (l := l) i (by omega) h3
    have k3 : keepT (fun x => decide (x = j)) l (i + 1) = l.take i := by rw [keepT_no hi h2, k1]
    have k4 : ∀ q, ix (delT (fun x => decide (x = j)) l (i + 1)) q = ix l q := fun q => by
      rw [delT, h2, cond_true]; exact k2 q
    have hne : ¬ (i : Int) = -1 := by omega
    simp only [push_cast, ↓branch_true, ↓branch_false, Nat.reduceBEq, Nat.reduceAdd, Nat.reduceMul, Nat.reduceSub, Int.reduceToNat, reduceCtorEq, branch_decide, branch_not, branch_beq, branch_bne, Int.reduceAdd, Int.reduceEq, Int.reduceLE, Int.reduceLT, Nat.reduceLT, Nat.reduceLeDiff, false_imp_iff, true_imp_iff, hne]
    repeat (with_reducible refine And.intro (by omega) ?_)
    refine tr_loop mixed (by kernel_rfl) (fun (q : Nat) => [(6, .v (.int .i64 q)), (5, .v (.int .i64 (keepT (fun x => decide (x = j)) l q).length)), (0, .s 0 0 0 l.length cap 1), (1, .f (.func 67) [] [.p 1 0 0])])
      (fun q => [rIO (delT (fun x => decide (x = j)) l q) cap, ⟨3, true, .st [.v (.int .i64 j)]⟩]) (fun q => (keepT (fun x => decide (x = j)) l q).length < q ∧ q ≤ l.length) (fun q => l.length - q) (i + 1) ⟨by rw [k3]; simp; omega, hi⟩ (Mt.wk (rl := [0, 1]) ⟨by kernel_rfl, ?_, ?_⟩) ?_
    · simp only [push_cast, ↓branch_true, ↓branch_false, Nat.reduceBEq, Nat.reduceAdd, Nat.reduceMul, Nat.reduceSub, Int.reduceToNat, reduceCtorEq, branch_decide, branch_not, branch_beq, branch_bne, Int.reduceAdd, Int.reduceEq, Int.reduceLE, Int.reduceLT, Nat.reduceLT, Nat.reduceLeDiff, false_imp_iff, true_imp_iff]
      rw [k3]
      simp
      omega
    · simp only [push_cast, ↓branch_true, ↓branch_false, Nat.reduceBEq, Nat.reduceAdd, Nat.reduceMul, Nat.reduceSub, Int.reduceToNat, reduceCtorEq, branch_decide, branch_not, branch_beq, branch_bne, Int.reduceAdd, Int.reduceEq, Int.reduceLE, Int.reduceLT, Nat.reduceLT, Nat.reduceLeDiff, false_imp_iff, true_imp_iff, delT_len, k4]
    rintro q ⟨q1, q2⟩
    have hdl := delT_len (fun x => decide (x = j)) l q
    obtain ⟨d1, d2⟩ := delT_ok (p := fun x => decide (x = j)) (l := l) q q2
    have hkq := keepT_len (fun x => decide (x = j)) l q
    simp only [push_cast, ↓branch_true, ↓branch_false, Nat.reduceBEq, Nat.reduceAdd, Nat.reduceMul, Nat.reduceSub, Int.reduceToNat, reduceCtorEq, branch_decide, branch_not, branch_beq, branch_bne, Int.reduceAdd, Int.reduceEq, Int.reduceLE, Int.reduceLT, Nat.reduceLT, Nat.reduceLeDiff, false_imp_iff, true_imp_iff, hdl]
    refine ⟨fun h4 => ?_, fun h4 => ?_⟩
    · have hq : q < l.length := by omega
      have hd1 := d1 q (Nat.le_refl _)
      repeat (with_reducible refine And.intro (by omega) ?_)
      rw [hd1]
      refine sp_call (hcl (delT (fun x => decide (x = j)) l q) (ix l q)) rfl [0, 1] rfl ?_ ?_ ?_
      · simp only [push_cast, ↓branch_true, ↓branch_false, Nat.reduceBEq, Nat.reduceAdd, Nat.reduceMul, Nat.reduceSub, Int.reduceToNat, reduceCtorEq, branch_decide, branch_not, branch_beq, branch_bne, Int.reduceAdd, Int.reduceEq, Int.reduceLE, Int.reduceLT, Nat.reduceLT, Nat.reduceLeDiff, false_imp_iff, true_imp_iff]
        try trivial
      · simp only [push_cast, ↓branch_true, ↓branch_false, Nat.reduceBEq, Nat.reduceAdd, Nat.reduceMul, Nat.reduceSub, Int.reduceToNat, reduceCtorEq, branch_decide, branch_not, branch_beq, branch_bne, Int.reduceAdd, Int.reduceEq, Int.reduceLE, Int.reduceLT, Nat.reduceLT, Nat.reduceLeDiff, false_imp_iff, true_imp_iff, hdl]
        try trivial
      by_cases hx : ix l q = j
      · have hp : (fun x => decide (x = j)) (ix l q) = true := decide_eq_true hx
        have g1 := keepT_no (p := fun x => decide (x = j)) hq hp
        have g2 : delT (fun x => decide (x = j)) l (q + 1) = delT (fun x => decide (x = j)) l q := by rw [delT, decide_eq_true hx, cond_true]
        rw [decide_eq_true hx]
        simp only [push_cast, ↓branch_true, ↓branch_false, Nat.reduceBEq, Nat.reduceAdd, Nat.reduceMul, Nat.reduceSub, Int.reduceToNat, reduceCtorEq, branch_decide, branch_not, branch_beq, branch_bne, Int.reduceAdd, Int.reduceEq, Int.reduceLE, Int.reduceLT, Nat.reduceLT, Nat.reduceLeDiff, false_imp_iff, true_imp_iff]
        repeat (with_reducible refine And.intro (by omega) ?_)
        refine lpK_normal (q + 1) [0, 1] ⟨by rw [g1]; omega, by omega⟩ (by omega) (by kernel_rfl) ?_ ?_
        · simp only [push_cast, ↓branch_true, ↓branch_false, Nat.reduceBEq, Nat.reduceAdd, Nat.reduceMul, Nat.reduceSub, Int.reduceToNat, reduceCtorEq, branch_decide, branch_not, branch_beq, branch_bne, Int.reduceAdd, Int.reduceEq, Int.reduceLE, Int.reduceLT, Nat.reduceLT, Nat.reduceLeDiff, false_imp_iff, true_imp_iff, g1]
        · simp only [push_cast, ↓branch_true, ↓branch_false, Nat.reduceBEq, Nat.reduceAdd, Nat.reduceMul, Nat.reduceSub, Int.reduceToNat, reduceCtorEq, branch_decide, branch_not, branch_beq, branch_bne, Int.reduceAdd, Int.reduceEq, Int.reduceLE, Int.reduceLT, Nat.reduceLT, Nat.reduceLeDiff, false_imp_iff, true_imp_iff, g2, hdl]
      · have hp : (fun x => decide (x = j)) (ix l q) = false := decide_eq_false hx
        have g1 := keepT_yes (p := fun x => decide (x = j)) hq hp
        have g2 : delT (fun x => decide (x = j)) l (q + 1) = (delT (fun x => decide (x = j)) l q).set (keepT (fun x => decide (x = j)) l q).length (ix l q) := by rw [delT, decide_eq_false hx, cond_false]
        rw [decide_eq_false hx]
        simp only [push_cast, ↓branch_true, ↓branch_false, Nat.reduceBEq, Nat.reduceAdd, Nat.reduceMul, Nat.reduceSub, Int.reduceToNat, reduceCtorEq, branch_decide, branch_not, branch_beq, branch_bne, Int.reduceAdd, Int.reduceEq, Int.reduceLE, Int.reduceLT, Nat.reduceLT, Nat.reduceLeDiff, false_imp_iff, true_imp_iff]
        repeat (with_reducible refine And.intro (by omega) ?_)
        refine lpK_normal (q + 1) [0, 1] ⟨by rw [g1]; simp; omega, by omega⟩ (by omega) (by kernel_rfl) ?_ ?_
        · simp only [push_cast, ↓branch_true, ↓branch_false, Nat.reduceBEq, Nat.reduceAdd, Nat.reduceMul, Nat.reduceSub, Int.reduceToNat, reduceCtorEq, branch_decide, branch_not, branch_beq, branch_bne, Int.reduceAdd, Int.reduceEq, Int.reduceLE, Int.reduceLT, Nat.reduceLT, Nat.reduceLeDiff, false_imp_iff, true_imp_iff, g1, List.length_append]
        · simp only [push_cast, ↓branch_true, ↓branch_false, Nat.reduceBEq, Nat.reduceAdd, Nat.reduceMul, Nat.reduceSub, Int.reduceToNat, reduceCtorEq, branch_decide, branch_not, branch_beq, branch_bne, Int.reduceAdd, Int.reduceEq, Int.reduceLE, Int.reduceLT, Nat.reduceLT, Nat.reduceLeDiff, false_imp_iff, true_imp_iff, g2, hdl, List.length_set]
          exact fun i hi k _ => set_up (by rw [hdl]; omega) hi
    · obtain rfl : q = l.length := by omega
      repeat (with_reducible refine And.intro (by omega) ?_)
      refine ⟨_, _, [0, 1], ?_, by kernel_rfl, ?_, rfl, rfl⟩
      · simp only [push_cast, ↓branch_true, ↓branch_false, Nat.reduceBEq, Nat.reduceAdd, Nat.reduceMul, Nat.reduceSub, Int.reduceToNat, reduceCtorEq, branch_decide, branch_not, branch_beq, branch_bne, Int.reduceAdd, Int.reduceEq, Int.reduceLE, Int.reduceLT, Nat.reduceLT, Nat.reduceLeDiff, false_imp_iff, true_imp_iff]
        exact ⟨by omega, by omega⟩
      · simp only [push_cast, ↓branch_true, ↓branch_false, Nat.reduceBEq, Nat.reduceAdd, Nat.reduceMul, Nat.reduceSub, Int.reduceToNat, reduceCtorEq, branch_decide, branch_not, branch_beq, branch_bne, Int.reduceAdd, Int.reduceEq, Int.reduceLE, Int.reduceLT, Nat.reduceLT, Nat.reduceLeDiff, false_imp_iff, true_imp_iff]
        refine fun i hi => ⟨by omega, fun k hk => ?_⟩
        have hb : (decide ((keepT (fun x => decide (x = j)) l l.length).length ≤ k) && decide (k < (keepT (fun x => decide (x = j)) l l.length).length + (l.length - (keepT (fun x => decide (x = j)) l l.length).length))) = false := by simp; omega
        rw [hb, Bool.and_false, d2 k hk]
        exact ⟨rfl, trivial⟩
end Go.Proofs.Ytmmabnoemckdiaa
