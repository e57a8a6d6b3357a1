/- Contracts: sort.Search, at. -/
import Derived.Test.YtekokeiajgcfkaaC
set_option maxRecDepth 100000
set_option linter.unusedSimpArgs false
set_option linter.unusedVariables false
namespace Go.Proofs.Ytekokeiajgcfkaa
open Go.RowKit
theorem search_pu (n r : Nat) (g : FuncId) (fs cs : List SV) (H : List Ob) (p : Nat → Bool) (hro : roB H = true) (hn : n ≤ 1000000)
    (hr : r ≤ n) (h1 : ∀ k, k < r → p k = false) (h2 : ∀ k, r ≤ k → k < n → p k = true)
    (hp : ∀ k : Nat, k < n → Pu Try.prog g (fs ++ [.v (.int .i64 k)] ++ cs) H (.v (.bool (p k)))) : Pu Try.prog 57 [.v (.int .i64 n), .f (.func g) fs cs] H (.v (.int .i64 r)) := by
  refine pu_of_ex true [] mixed Try.call57 Try.func57 rfl Try.ntmps57 Try.results57 (by decide +kernel) rfl hro rfl ?_
  simp only [push_cast, ↓branch_true, ↓branch_false, Nat.reduceBEq, Nat.reduceAdd, Nat.reduceMul, Nat.reduceSub, Int.reduceToNat, reduceCtorEq, branch_decide, branch_not, branch_beq, branch_bne]
  refine tr_loop0 mixed (by kernel_rfl) (fun (x : Nat × Nat) => [(5, .v (.int .i64 x.1)), (6, .v (.int .i64 x.2)), (1, .f (.func g) fs cs)]) (fun x => x.1 ≤ r ∧ r ≤ x.2 ∧ x.2 ≤ n) (fun x => x.2 - x.1) (0, n) ⟨Nat.zero_le _, hr, Nat.le_refl _⟩ ?_ ?_
  · simp only [push_cast, ↓branch_true, ↓branch_false, Nat.reduceBEq, Nat.reduceAdd, Nat.reduceMul, Nat.reduceSub, Int.reduceToNat, reduceCtorEq, branch_decide, branch_not, branch_beq, branch_bne]
  rintro ⟨i, j⟩ ⟨q1, q2, q3⟩
  simp only at q1 q2 q3
  simp only [push_cast, ↓branch_true, ↓branch_false, Nat.reduceBEq, Nat.reduceAdd, Nat.reduceMul, Nat.reduceSub, Int.reduceToNat, reduceCtorEq, branch_decide, branch_not, branch_beq, branch_bne]
  refine ⟨fun h => ?_, fun h => ?_⟩
  · repeat (with_reducible refine And.intro (by omega) ?_)
    have e : ((i : Int) + (j : Int)).fdiv (2 ^ min 1 IntKind.u64.bits) = (((i + j) / 2 : Nat) : Int) := by
      have h2 : (2 : Int) ^ min 1 IntKind.u64.bits = 2 := rfl
      rw [h2, Int.fdiv_eq_ediv_of_nonneg _ (by omega)]
      omega
    rw [e]
    obtain ⟨m, hm⟩ : ∃ m, m = (i + j) / 2 := ⟨_, rfl⟩
    rw [← hm]
    repeat (with_reducible refine And.intro (by omega) ?_)
    refine sp_pu (hp m (by omega)) ?_
    simp only [push_cast, ↓branch_true, ↓branch_false, Nat.reduceBEq, Nat.reduceAdd, Nat.reduceMul, Nat.reduceSub, Int.reduceToNat, reduceCtorEq, branch_decide, branch_not, branch_beq, branch_bne]
    simp only [branch]
    refine ⟨fun h3 => ?_, fun h3 => ?_⟩
    · have : ¬ m < r := fun h4 => by rw [h1 m h4] at h3; cases h3
      refine lp0_normal (i, m) ⟨by simp only; omega, by simp only; omega, by simp only; omega⟩ (by simp only; omega) ?_
      simp only [push_cast, ↓branch_true, ↓branch_false, Nat.reduceBEq, Nat.reduceAdd, Nat.reduceMul, Nat.reduceSub, Int.reduceToNat, reduceCtorEq, branch_decide, branch_not, branch_beq, branch_bne]
    · have : ¬ r ≤ m := fun h4 => by rw [h2 m h4 (by omega)] at h3; cases h3
      repeat (with_reducible refine And.intro (by omega) ?_)
      refine lp0_normal (m + 1, j) ⟨by simp only; omega, by simp only; omega, by simp only; omega⟩ (by simp only; omega) ?_
      simp only [push_cast, ↓branch_true, ↓branch_false, Nat.reduceBEq, Nat.reduceAdd, Nat.reduceMul, Nat.reduceSub, Int.reduceToNat, reduceCtorEq, branch_decide, branch_not, branch_beq, branch_bne]
  · have : i = r := by omega
    rw [this]
theorem at1_pu (l : List Stp) (x : Int) (k c : Nat) (hk : k < l.length) (hl : l.length ≤ 1000000) : Pu Try.prog 58 [.v (.int .i64 k), .p 1 0 0, .p 2 0 0] [rSt l, ⟨22, true, .st [.s 0 0 0 l.length c 2]⟩, ⟨3, true, .st [.v (.int .i64 x)]⟩] (.v (.bool (decide (x < (ix l k).x)))) := by
  refine pu_of_ex true [] mixed Try.call58 Try.func58 rfl Try.ntmps58 Try.results58 (by decide +kernel) rfl rfl rfl ?_
  simp only [push_cast, ↓branch_true, ↓branch_false, Nat.reduceBEq, Nat.reduceAdd, Nat.reduceMul, Nat.reduceSub, Int.reduceToNat, reduceCtorEq, branch_decide, branch_not, branch_beq, branch_bne]
  omega
/-- How many steps begin at a place or ahead of it. -/
def cntLe (x : Int) : List Stp → Nat
  | [] => 0
  | p :: l => if p.x ≤ x then cntLe x l + 1 else cntLe x l
theorem cntLe_le (x : Int) : ∀ l : List Stp, cntLe x l ≤ l.length
  | [] => Nat.le_refl _
  | p :: l => by
    have := cntLe_le x l
    rw [cntLe]
    simp only [List.length_cons]
    split <;> omega
/-- Ascending. -/
def AscS (l : List Stp) : Prop := ∀ j k, j < k → k < l.length → (ix l j).x < (ix l k).x
theorem asc_of {l : List Stp} (h : ∀ k, k < l.length → okAt l k = true) : AscS l := by
  intro j k hjk hk
  induction k with
  | zero => omega
  | succ k ih =>
    have h1 := h (k + 1) hk
    simp only [okAt, Bool.and_eq_true, Bool.or_eq_true, decide_eq_true_eq, Nat.add_sub_cancel] at h1
    have h2 : (ix l k).x < (ix l (k + 1)).x := by
      rcases h1.2.2.2 with h | h
      · omega
      · exact h
    by_cases e : j = k
    · subst e; exact h2
    · have := ih (by omega) (by omega)
      omega
theorem asc_tail {p : Stp} {l : List Stp} (h : AscS (p :: l)) : AscS l ∧ ∀ q ∈ l, p.x < q.x := by
  have e : ∀ j, j < l.length → ix (p :: l) (j + 1) = ix l j := fun j hj => by rw [ix_eq (by simpa using hj), ix_eq hj, List.getElem_cons_succ]
  refine ⟨fun j k hjk hk => ?_, fun q hq => ?_⟩
  · have := h (j + 1) (k + 1) (by omega) (by simpa using hk)
    rwa [e j (by omega), e k hk] at this
  · obtain ⟨k, hk, rfl⟩ := List.mem_iff_getElem.1 hq
    have := h 0 (k + 1) (by omega) (by simpa using hk)
    rw [e k hk, ix_eq hk] at this
    exact this
theorem cntLe_none {x : Int} : ∀ {l : List Stp}, (∀ q ∈ l, x < q.x) → cntLe x l = 0 ∧ ∀ n, atF x n l = n
  | [], _ => ⟨rfl, fun _ => rfl⟩
  | p :: l, h => by
    obtain ⟨h1, h2⟩ := cntLe_none (l := l) fun q hq => h q (List.mem_cons_of_mem _ hq)
    have hp := h p (List.mem_cons_self)
    refine ⟨by rw [cntLe, if_neg (by omega), h1], fun n => by rw [atF, if_neg (by omega), h2]⟩
theorem cntLe_ix {x : Int} : ∀ {l : List Stp}, AscS l → (∀ k, k < cntLe x l → (ix l k).x ≤ x) ∧ (∀ k, cntLe x l ≤ k → k < l.length → x < (ix l k).x) ∧ ∀ n, atF x n l = if cntLe x l = 0 then n else (ix l (cntLe x l - 1)).v
  | [], _ => ⟨fun k h => by simp [cntLe] at h, fun k _ h => by simp at h, fun n => by simp [cntLe, atF]⟩
  | p :: l, h => by
    obtain ⟨h1, h2⟩ := asc_tail h
    obtain ⟨i1, i2, i3⟩ := cntLe_ix (x := x) h1
    have e : ∀ j, j < l.length → ix (p :: l) (j + 1) = ix l j := fun j hj => by rw [ix_eq (by simpa using hj), ix_eq hj, List.getElem_cons_succ]
    have e0 : ix (p :: l) 0 = p := by rw [ix_eq (by simp)]; rfl
    have hle := cntLe_le x l
    by_cases hp : p.x ≤ x
    · have ec : cntLe x (p :: l) = cntLe x l + 1 := by rw [cntLe, if_pos hp]
      rw [ec]
      refine ⟨fun k hk => ?_, fun k hk hk2 => ?_, fun n => ?_⟩
      · cases k with
        | zero => rw [e0]; exact hp
        | succ k => rw [e k (by omega)]; exact i1 k (by omega)
      · cases k with
        | zero => omega
        | succ k => rw [e k (by simpa using hk2)]; exact i2 k (by omega) (by simpa using hk2)
      · rw [atF, if_pos hp, i3, if_neg (by omega : ¬ cntLe x l + 1 = 0), Nat.add_sub_cancel]
        by_cases h0 : cntLe x l = 0
        · rw [if_pos h0, h0, e0]
        · rw [if_neg h0, ← e (cntLe x l - 1) (by omega)]
          congr 2
          omega
    · obtain ⟨g1, g2⟩ := cntLe_none (x := x) (l := l) fun q hq => by have := h2 q hq; omega
      have ec : cntLe x (p :: l) = 0 := by rw [cntLe, if_neg hp, g1]
      rw [ec]
      refine ⟨fun k hk => by omega, fun k hk hk2 => ?_, fun n => ?_⟩
      · cases k with
        | zero => rw [e0]; omega
        | succ k => rw [e k (by simpa using hk2)]; exact i2 k (by omega) (by simpa using hk2)
      · rw [atF, if_neg hp, g2, if_pos rfl]
theorem at_pu (l : List Stp) (x : Int) (c : Nat) (hl : l.length ≤ 1000000) (ha : AscS l) : Pu Try.prog 47 [.s 0 0 0 l.length c 2, .v (.int .i64 x)] [rSt l] (.v (.int .i64 (atL l x))) := by
  obtain ⟨c1, c2, c3⟩ := cntLe_ix (x := x) ha
  have c3 := c3 0
  have hle := cntLe_le x l
  have hs : Pu Try.prog 57 [.v (.int .i64 l.length), .f (.func 58) [] [.p 1 0 0, .p 2 0 0]] [rSt l, ⟨22, true, .st [.s 0 0 0 l.length c 2]⟩, ⟨3, true, .st [.v (.int .i64 x)]⟩] (.v (.int .i64 (cntLe x l))) :=
    search_pu l.length (cntLe x l) 58 [] [.p 1 0 0, .p 2 0 0] _ (fun k => decide (x < (ix l k).x)) rfl hl hle (fun k hk => by simpa using c1 k hk) (fun k hk hk2 => by simpa using c2 k hk hk2) (fun k hk => at1_pu l x k c hk hl)
  refine pu_of_ex true [] mixed Try.call47 Try.func47 rfl Try.ntmps47 Try.results47 (by decide +kernel) rfl rfl rfl ?_
  simp only [push_cast, ↓branch_true, ↓branch_false, Nat.reduceBEq, Nat.reduceAdd, Nat.reduceMul, Nat.reduceSub, Int.reduceToNat, reduceCtorEq, branch_decide, branch_not, branch_beq, branch_bne]
  refine sp_call (hs) rfl [0, 1, 2] rfl (by simp only [push_cast, ↓branch_true, ↓branch_false, Nat.reduceBEq, Nat.reduceAdd, Nat.reduceMul, Nat.reduceSub, Int.reduceToNat, reduceCtorEq, branch_decide, branch_not, branch_beq, branch_bne]) (by simp only [push_cast, ↓branch_true, ↓branch_false, Nat.reduceBEq, Nat.reduceAdd, Nat.reduceMul, Nat.reduceSub, Int.reduceToNat, reduceCtorEq, branch_decide, branch_not, branch_beq, branch_bne]) ?_
  simp only [push_cast, ↓branch_true, ↓branch_false, Nat.reduceBEq, Nat.reduceAdd, Nat.reduceMul, Nat.reduceSub, Int.reduceToNat, reduceCtorEq, branch_decide, branch_not, branch_beq, branch_bne]
  have e : ((cntLe x l : Nat) - 1 : Int).toNat = cntLe x l - 1 := by omega
  rw [e]
  refine ⟨fun h => ?_, fun h => ?_⟩
  · rw [atL, c3, if_pos (by omega)]
  · repeat (with_reducible refine And.intro (by omega) ?_)
    rw [atL, c3, if_neg (by omega)]
end Go.Proofs.Ytekokeiajgcfkaa
