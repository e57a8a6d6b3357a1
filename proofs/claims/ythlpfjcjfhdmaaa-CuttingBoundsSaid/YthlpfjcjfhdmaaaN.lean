/- Contracts: right plans. -/
import Derived.Test.YthlpfjcjfhdmaaaM
import Derived.Test.YthlpfjcjfhdmaaaJ
set_option maxRecDepth 100000
set_option linter.unusedSimpArgs false
set_option linter.unusedVariables false
namespace Go.Proofs.Ythlpfjcjfhdmaaa
open Go.RowKit
theorem okN_step {l : List Pc} {ns : List Int} {k : Nat} (h1 : k < l.length) (h2 : k < ns.length) : okN (l.drop k) (ns.drop k) = (decide (0 ≤ ix ns k) && decide (ix ns k ≤ (ix l k).cnt) && okN (l.drop (k + 1)) (ns.drop (k + 1))) := by
  rw [drop_ix h1, drop_ix h2, okN]
theorem dotL_step {l : List Pc} {ns : List Int} {k : Nat} (h1 : k < l.length) (h2 : k < ns.length) : dotL (l.drop k) (ns.drop k) = ix ns k * (ix l k).len + dotL (l.drop (k + 1)) (ns.drop (k + 1)) := by
  rw [drop_ix h1, drop_ix h2, dotL]
theorem mul_le {a b A B : Int} (h0 : 0 ≤ a) (h1 : a ≤ A) (h2 : 0 ≤ b) (h3 : b ≤ B) : 0 ≤ a * b ∧ a * b ≤ A * B := ⟨Int.mul_nonneg h0 h2, Int.le_trans (Int.mul_le_mul_of_nonneg_right h1 h2) (Int.mul_le_mul_of_nonneg_left h3 (by omega))⟩
theorem fits_pu (length : Int) (l : List Pc) (G : Nat → List Int) (N k c c2 : Nat) (hk : k < N) (ho : orderB l = true) (hg : (G k).length ≤ 9223372036854775806) : Pu Try.prog 61 [.v (.int .i64 length), .s 0 0 0 l.length c 2, .s 1 k 0 (G k).length c2 1] [rPc l, rFm N G] (.v (.bool (fitsB length l (G k)))) := by
  have hll := order_len ho
  refine pu_of_ex true [] mixed Try.call61 Try.func61 rfl Try.ntmps61 Try.results61 (by decide +kernel) rfl rfl rfl ?_
  simp only [push_cast, ↓branch_true, ↓branch_false, Nat.reduceBEq, Nat.reduceAdd, Nat.reduceMul, Nat.reduceSub, Int.reduceToNat, reduceCtorEq, branch_decide, branch_not, branch_beq, branch_bne]
  refine ⟨fun hl => ?_, fun hl => ?_⟩
  rotate_left
  · simp [fitsB, show ¬ (G k).length = l.length by omega]
  have hl : (G k).length = l.length := by omega
  generalize hns : G k = ns at *
  refine tr_loop0 mixed (by kernel_rfl) (fun (x : Nat × Int) => [(8, .v (.int .i64 x.1)), (7, .v (.int .i64 x.2)), (0, .v (.int .i64 length)), (1, .s 0 0 0 l.length c 2), (2, .s 1 k 0 ns.length c2 1)]) (fun x => x.1 ≤ l.length ∧ 0 ≤ x.2 ∧ x.2 ≤ 1048576000000 * x.1 ∧ okN l ns = okN (l.drop x.1) (ns.drop x.1) ∧ dotL l ns = x.2 + dotL (l.drop x.1) (ns.drop x.1)) (fun x => l.length - x.1) (0, 0) ⟨Nat.zero_le _, Int.le_refl _, by simp, by simp, by simp⟩ ?_ ?_
  · simp only [push_cast, ↓branch_true, ↓branch_false, Nat.reduceBEq, Nat.reduceAdd, Nat.reduceMul, Nat.reduceSub, Int.reduceToNat, reduceCtorEq, branch_decide, branch_not, branch_beq, branch_bne]
  rintro ⟨j, m⟩ ⟨h1, h2, h3, h4, h5⟩
  simp only at h1 h2 h3 h4 h5
  simp only [push_cast, ↓branch_true, ↓branch_false, Nat.reduceBEq, Nat.reduceAdd, Nat.reduceMul, Nat.reduceSub, Int.reduceToNat, reduceCtorEq, branch_decide, branch_not, branch_beq, branch_bne, hns]
  refine ⟨fun a1 => ?_, fun a1 => ?_⟩
  · have hj : j < l.length := by omega
    have hat := order_at ho hj
    rw [okN_step hj (by omega)] at h4
    rw [dotL_step hj (by omega)] at h5
    repeat (with_reducible refine And.intro (by omega) ?_)
    refine ⟨fun a2 => ?_, fun a2 => ?_⟩
    · have : okN l ns = false := by rw [h4]; simp; omega
      simp [fitsB, this]
    repeat (with_reducible refine And.intro (by omega) ?_)
    refine ⟨fun a3 => ?_, fun a3 => ?_⟩
    · have : okN l ns = false := by rw [h4]; simp; omega
      simp [fitsB, this]
    have hm := mul_le (show 0 ≤ ix ns j by omega) (show ix ns j ≤ 1000000 by omega) (show 0 ≤ (ix l j).len by omega) (show (ix l j).len ≤ 1048576 by omega)
    repeat (with_reducible refine And.intro (by omega) ?_)
    refine lp0_normal (j + 1, m + ix ns j * (ix l j).len) ⟨by simp only; omega, by simp only; omega, by simp only; omega, ?_, ?_⟩ (by simp only; omega) ?_
    · rw [h4]; simp; omega
    · simp only; omega
    · simp only [push_cast, ↓branch_true, ↓branch_false, Nat.reduceBEq, Nat.reduceAdd, Nat.reduceMul, Nat.reduceSub, Int.reduceToNat, reduceCtorEq, branch_decide, branch_not, branch_beq, branch_bne]
  · obtain rfl : j = l.length := by omega
    have e1 : okN l ns = true := by rw [h4, List.drop_length, ← hl, List.drop_length]; rfl
    have e2 : dotL l ns = m := by rw [h5, List.drop_length, ← hl, List.drop_length]; simp [dotL]
    simp [fitsB, hl, e1, e2]
def madeT (p : List Pt) (k i : Nat) : Int := ((p.take k).map fun x : Pt => ix x.ps i * x.times).sum
def usedT (p : List Pt) (k j : Nat) : Int := ((p.take k).map fun x : Pt => if x.stock = (j : Int) then x.times else 0).sum
theorem madeT_succ {p : List Pt} {k i : Nat} (h : k < p.length) : madeT p (k + 1) i = madeT p k i + ix (ix p k).ps i * (ix p k).times := by
  unfold madeT
  rw [take_snoc h, List.map_append, List.sum_append]; simp
theorem usedT_succ {p : List Pt} {k j : Nat} (h : k < p.length) : usedT p (k + 1) j = usedT p k j + if (ix p k).stock = j then (ix p k).times else 0 := by
  unfold usedT
  rw [take_snoc h, List.map_append, List.sum_append]; simp
def fitP (s l : List Pc) (x : Pt) : Bool := fitsB (ix s x.stock.toNat).len l x.ps
/-- A right plan. -/
def rightB (s l : List Pc) (p : List Pt) : Bool :=
  planB s p && ((List.range p.length).all (fun k => fitP s l (ix p k)) && ((List.range l.length).all (fun i => decide (madeT p p.length i = (ix l i).cnt)) && (List.range s.length).all fun j => decide ((ix s j).cnt < 0 ∨ usedT p p.length j ≤ (ix s j).cnt)))
theorem right_yes {s l : List Pc} {p : List Pt} : rightB s l p = true ↔ planB s p = true ∧ (∀ k, k < p.length → fitP s l (ix p k) = true) ∧ (∀ i, i < l.length → madeT p p.length i = (ix l i).cnt) ∧ ∀ j, j < s.length → (ix s j).cnt < 0 ∨ usedT p p.length j ≤ (ix s j).cnt := by
  simp only [rightB, Bool.and_eq_true, List.all_eq_true, List.mem_range, decide_eq_true_eq]
theorem right_no {s l : List Pc} {p : List Pt} (h : ¬ (planB s p = true ∧ (∀ k, k < p.length → fitP s l (ix p k) = true) ∧ (∀ i, i < l.length → madeT p p.length i = (ix l i).cnt) ∧ ∀ j, j < s.length → (ix s j).cnt < 0 ∨ usedT p p.length j ≤ (ix s j).cnt)) : rightB s l p = false := by
  cases e : rightB s l p with
  | false => rfl
  | true => exact absurd (right_yes.1 e) h
theorem okN_at : ∀ {l : List Pc} {ns : List Int} {k : Nat}, okN l ns = true → k < l.length → k < ns.length → 0 ≤ ix ns k ∧ ix ns k ≤ (ix l k).cnt
  | p :: l, n :: ns, 0, h, _, _ => by
    simp only [okN, Bool.and_eq_true, decide_eq_true_eq] at h
    exact ⟨h.1.1, h.1.2⟩
  | p :: l, n :: ns, k + 1, h, h1, h2 => by
    simp only [okN, Bool.and_eq_true] at h
    exact okN_at (k := k) h.2 (by simpa using h1) (by simpa using h2)
theorem fit_at {s l : List Pc} {x : Pt} (h : fitP s l x = true) : x.ps.length = l.length ∧ ∀ i, i < l.length → 0 ≤ ix x.ps i ∧ ix x.ps i ≤ (ix l i).cnt := by
  simp only [fitP, fitsB, Bool.and_eq_true, decide_eq_true_eq] at h
  exact ⟨h.1, fun i hi => okN_at h.2.1 hi (by omega)⟩
theorem used_range {s : List Pc} {p : List Pt} (h : planB s p = true) (j : Nat) : ∀ k, k ≤ p.length → 0 ≤ usedT p k j ∧ usedT p k j ≤ 1000000 * k
  | 0, _ => by simp [usedT]
  | k + 1, hk => by
    have ih := used_range h j k (by omega)
    have := plan_at h (k := k) (by omega)
    rw [usedT_succ (by omega)]
    split <;> omega
theorem made_range {s l : List Pc} {p : List Pt} (ho : orderB l = true) (h : planB s p = true) {i : Nat} (hi : i < l.length) : ∀ k, k ≤ p.length → (∀ q, q < k → fitP s l (ix p q) = true) → 0 ≤ madeT p k i ∧ madeT p k i ≤ 1000000000000 * k
  | 0, _, _ => by simp [madeT]
  | k + 1, hk, hf => by
    have ih := made_range ho h hi k (by omega) fun q hq => hf q (by omega)
    have h2 := plan_at h (k := k) (by omega)
    have h3 := (fit_at (hf k (by omega))).2 i hi
    have h4 := order_at ho hi
    have hm := mul_le h3.1 (show ix (ix p k).ps i ≤ 1000000 by omega) (show 0 ≤ (ix p k).times by omega) h2.2.2.2
    rw [madeT_succ (by omega)]
    omega
set_option maxHeartbeats 1000000 in
theorem rright_pu (s l : List Pc) (p : List Pt) (cp : Nat → Nat) (N c c2 c3 : Nat) (G : Nat → List Int) (hvs : stB s = true) (ho : orderB l = true) (hN : p.length ≤ N) (hG : ∀ k, k < p.length → G k = (ix p k).ps) (hg : ∀ k, k < p.length → (ix p k).ps.length ≤ 9223372036854775806) (hpl : p.length ≤ 9223372036854775807) :
    Pu Try.prog 30 [.s 0 0 0 s.length c 2, .s 1 0 0 l.length c2 2, .s 2 0 0 p.length c3 3] [rSt s, rPc l, rPt 3 p cp, rFm N G] (.v (.bool (rightB s l p))) := by
  have hsl := (stB_yes.1 hvs).1
  have hll := order_len ho
  refine pu_of_ex true [] mixed Try.call30 Try.func30 rfl Try.ntmps30 Try.results30 (by decide +kernel) rfl rfl rfl ?_
  simp only [push_cast, ↓branch_true, ↓branch_false, Nat.reduceBEq, Nat.reduceAdd, Nat.reduceMul, Nat.reduceSub, Int.reduceToNat, reduceCtorEq, branch_decide, branch_not, branch_beq, branch_bne]
  refine sp_call (rplan_pu s p cp N c c3 G hpl) rfl [0, 2, 3] rfl (by simp only [push_cast, ↓branch_true, ↓branch_false, Nat.reduceBEq, Nat.reduceAdd, Nat.reduceMul, Nat.reduceSub, Int.reduceToNat, reduceCtorEq, branch_decide, branch_not, branch_beq, branch_bne]) (by simp only [push_cast, ↓branch_true, ↓branch_false, Nat.reduceBEq, Nat.reduceAdd, Nat.reduceMul, Nat.reduceSub, Int.reduceToNat, reduceCtorEq, branch_decide, branch_not, branch_beq, branch_bne]) ?_
  simp only [push_cast, ↓branch_true, ↓branch_false, Nat.reduceBEq, Nat.reduceAdd, Nat.reduceMul, Nat.reduceSub, Int.reduceToNat, reduceCtorEq, branch_decide, branch_not, branch_beq, branch_bne]
  cases hp : planB s p with
  | false =>
    simp only [push_cast, ↓branch_true, ↓branch_false, Nat.reduceBEq, Nat.reduceAdd, Nat.reduceMul, Nat.reduceSub, Int.reduceToNat, reduceCtorEq, branch_decide, branch_not, branch_beq, branch_bne]
    simp [rightB, hp]
  | true =>
  have hpn := plan_len hp
  simp only [push_cast, ↓branch_true, ↓branch_false, Nat.reduceBEq, Nat.reduceAdd, Nat.reduceMul, Nat.reduceSub, Int.reduceToNat, reduceCtorEq, branch_decide, branch_not, branch_beq, branch_bne]
  refine tr_loop0 mixed (by kernel_rfl) (fun (k : Nat) => [(7, .v (.int .i64 k)), (0, .s 0 0 0 s.length c 2), (1, .s 1 0 0 l.length c2 2), (2, .s 2 0 0 p.length c3 3)]) (fun k => k ≤ p.length ∧ ∀ q, q < k → fitP s l (ix p q) = true) (fun k => p.length - k) 0 ⟨Nat.zero_le _, fun j h => by omega⟩ ?_ ?_
  · simp only [push_cast, ↓branch_true, ↓branch_false, Nat.reduceBEq, Nat.reduceAdd, Nat.reduceMul, Nat.reduceSub, Int.reduceToNat, reduceCtorEq, branch_decide, branch_not, branch_beq, branch_bne]
  rintro k ⟨hk, hf⟩
  simp only [push_cast, ↓branch_true, ↓branch_false, Nat.reduceBEq, Nat.reduceAdd, Nat.reduceMul, Nat.reduceSub, Int.reduceToNat, reduceCtorEq, branch_decide, branch_not, branch_beq, branch_bne]
  refine ⟨fun a1 => ?_, fun a1 => ?_⟩
  · have hk2 : k < p.length := by omega
    have hat := plan_at hp hk2
    have hGk := hG k hk2
    have hgk := hg k hk2
    have hst := st_len hvs (k := (ix p k).stock.toNat) (by omega)
    repeat (with_reducible refine And.intro (by omega) ?_)
    have hfp := fits_pu (ix s (ix p k).stock.toNat).len l G N k c2 (cp k) (by omega) ho (by rw [hGk]; exact hgk)
    rw [hGk] at hfp
    refine qc_call hfp rfl [1, 3] rfl ?_ ?_ ?_
    · simp only [push_cast, ↓branch_true, ↓branch_false, Nat.reduceBEq, Nat.reduceAdd, Nat.reduceMul, Nat.reduceSub, Int.reduceToNat, reduceCtorEq, branch_decide, branch_not, branch_beq, branch_bne]
    · simp only [push_cast, ↓branch_true, ↓branch_false, Nat.reduceBEq, Nat.reduceAdd, Nat.reduceMul, Nat.reduceSub, Int.reduceToNat, reduceCtorEq, branch_decide, branch_not, branch_beq, branch_bne]
    rw [show fitsB (ix s (ix p k).stock.toNat).len l (ix p k).ps = fitP s l (ix p k) from rfl]
    cases hfk : fitP s l (ix p k) with
    | false =>
      simp only [push_cast, ↓branch_true, ↓branch_false, Nat.reduceBEq, Nat.reduceAdd, Nat.reduceMul, Nat.reduceSub, Int.reduceToNat, reduceCtorEq, branch_decide, branch_not, branch_beq, branch_bne]
      rw [right_no fun h => by rw [h.2.1 k hk2] at hfk; cases hfk]
    | true =>
    simp only [push_cast, ↓branch_true, ↓branch_false, Nat.reduceBEq, Nat.reduceAdd, Nat.reduceMul, Nat.reduceSub, Int.reduceToNat, reduceCtorEq, branch_decide, branch_not, branch_beq, branch_bne]
    repeat (with_reducible refine And.intro (by omega) ?_)
    refine lp0_normal (k + 1) ⟨by omega, fun q hq => ?_⟩ (by omega) ?_
    · by_cases e : q = k
      · rw [e]; exact hfk
      · exact hf q (by omega)
    · simp only [push_cast, ↓branch_true, ↓branch_false, Nat.reduceBEq, Nat.reduceAdd, Nat.reduceMul, Nat.reduceSub, Int.reduceToNat, reduceCtorEq, branch_decide, branch_not, branch_beq, branch_bne]
  obtain rfl : k = p.length := by omega
  refine tr_loop0 mixed (by kernel_rfl) (fun (i : Nat) => [(8, .v (.int .i64 i)), (0, .s 0 0 0 s.length c 2), (1, .s 1 0 0 l.length c2 2), (2, .s 2 0 0 p.length c3 3)]) (fun i => i ≤ l.length ∧ ∀ q, q < i → madeT p p.length q = (ix l q).cnt) (fun i => l.length - i) 0 ⟨Nat.zero_le _, fun j h => by omega⟩ ?_ ?_
  · simp only [push_cast, ↓branch_true, ↓branch_false, Nat.reduceBEq, Nat.reduceAdd, Nat.reduceMul, Nat.reduceSub, Int.reduceToNat, reduceCtorEq, branch_decide, branch_not, branch_beq, branch_bne]
  rintro i ⟨hi, hm⟩
  simp only [push_cast, ↓branch_true, ↓branch_false, Nat.reduceBEq, Nat.reduceAdd, Nat.reduceMul, Nat.reduceSub, Int.reduceToNat, reduceCtorEq, branch_decide, branch_not, branch_beq, branch_bne]
  refine ⟨fun b1 => ?_, fun b1 => ?_⟩
  · have hi2 : i < l.length := by omega
    refine tr_loop0 mixed (by kernel_rfl) (fun (k : Nat) => [(10, .v (.int .i64 k)), (9, .v (.int .i64 (madeT p k i))), (8, .v (.int .i64 i)), (0, .s 0 0 0 s.length c 2), (1, .s 1 0 0 l.length c2 2), (2, .s 2 0 0 p.length c3 3)]) (fun k => k ≤ p.length) (fun k => p.length - k) 0 (Nat.zero_le _) ?_ ?_
    · simp only [push_cast, ↓branch_true, ↓branch_false, Nat.reduceBEq, Nat.reduceAdd, Nat.reduceMul, Nat.reduceSub, Int.reduceToNat, reduceCtorEq, branch_decide, branch_not, branch_beq, branch_bne]
      rfl
    intro k hk
    have hr := made_range ho hp hi2 k hk fun q hq => hf q (by omega)
    simp only [push_cast, ↓branch_true, ↓branch_false, Nat.reduceBEq, Nat.reduceAdd, Nat.reduceMul, Nat.reduceSub, Int.reduceToNat, reduceCtorEq, branch_decide, branch_not, branch_beq, branch_bne]
    refine ⟨fun d1 => ?_, fun d1 => ?_⟩
    · have hk2 : k < p.length := by omega
      have hGk := hG k hk2
      have hr2 := made_range ho hp hi2 (k + 1) (by omega) fun q hq => hf q (by omega)
      have hat := plan_at hp hk2
      obtain ⟨f1, f2⟩ := fit_at (hf k hk2)
      have h4 := order_at ho hi2
      have h3 := f2 i hi2
      have hmm := mul_le (show 0 ≤ (ix p k).times by omega) hat.2.2.2 h3.1 (show ix (ix p k).ps i ≤ 1000000 by omega)
      have e1 := madeT_succ (i := i) hk2
      rw [Int.mul_comm] at e1
      simp only [push_cast, ↓branch_true, ↓branch_false, Nat.reduceBEq, Nat.reduceAdd, Nat.reduceMul, Nat.reduceSub, Int.reduceToNat, reduceCtorEq, branch_decide, branch_not, branch_beq, branch_bne, hGk]
      repeat (with_reducible refine And.intro (by omega) ?_)
      refine lp0_normal (k + 1) (by omega) (by omega) ?_
      simp only [push_cast, ↓branch_true, ↓branch_false, Nat.reduceBEq, Nat.reduceAdd, Nat.reduceMul, Nat.reduceSub, Int.reduceToNat, reduceCtorEq, branch_decide, branch_not, branch_beq, branch_bne, e1]
    · obtain rfl : k = p.length := by omega
      repeat (with_reducible refine And.intro (by omega) ?_)
      refine ⟨fun e1 => ?_, fun e1 => ?_⟩
      · repeat (with_reducible refine And.intro (by omega) ?_)
        refine lp0_normal (i + 1) ⟨by omega, fun q hq => ?_⟩ (by omega) ?_
        · by_cases e : q = i
          · rw [e]; exact e1
          · exact hm q (by omega)
        · simp only [push_cast, ↓branch_true, ↓branch_false, Nat.reduceBEq, Nat.reduceAdd, Nat.reduceMul, Nat.reduceSub, Int.reduceToNat, reduceCtorEq, branch_decide, branch_not, branch_beq, branch_bne]
      · rw [right_no fun h => e1 (h.2.2.1 i hi2)]
  obtain rfl : i = l.length := by omega
  refine tr_loop0 mixed (by kernel_rfl) (fun (i : Nat) => [(11, .v (.int .i64 i)), (0, .s 0 0 0 s.length c 2), (1, .s 1 0 0 l.length c2 2), (2, .s 2 0 0 p.length c3 3)]) (fun i => i ≤ s.length ∧ ∀ q, q < i → (ix s q).cnt < 0 ∨ usedT p p.length q ≤ (ix s q).cnt) (fun i => s.length - i) 0 ⟨Nat.zero_le _, fun j h => by omega⟩ ?_ ?_
  · simp only [push_cast, ↓branch_true, ↓branch_false, Nat.reduceBEq, Nat.reduceAdd, Nat.reduceMul, Nat.reduceSub, Int.reduceToNat, reduceCtorEq, branch_decide, branch_not, branch_beq, branch_bne]
  rintro i ⟨hi, hu⟩
  simp only [push_cast, ↓branch_true, ↓branch_false, Nat.reduceBEq, Nat.reduceAdd, Nat.reduceMul, Nat.reduceSub, Int.reduceToNat, reduceCtorEq, branch_decide, branch_not, branch_beq, branch_bne]
  refine ⟨fun b1 => ?_, fun b1 => ?_⟩
  · have hi2 : i < s.length := by omega
    refine tr_loop0 mixed (by kernel_rfl) (fun (k : Nat) => [(13, .v (.int .i64 k)), (12, .v (.int .i64 (usedT p k i))), (11, .v (.int .i64 i)), (0, .s 0 0 0 s.length c 2), (1, .s 1 0 0 l.length c2 2), (2, .s 2 0 0 p.length c3 3)]) (fun k => k ≤ p.length) (fun k => p.length - k) 0 (Nat.zero_le _) ?_ ?_
    · simp only [push_cast, ↓branch_true, ↓branch_false, Nat.reduceBEq, Nat.reduceAdd, Nat.reduceMul, Nat.reduceSub, Int.reduceToNat, reduceCtorEq, branch_decide, branch_not, branch_beq, branch_bne]
      rfl
    intro k hk
    have hr := used_range hp i k hk
    simp only [push_cast, ↓branch_true, ↓branch_false, Nat.reduceBEq, Nat.reduceAdd, Nat.reduceMul, Nat.reduceSub, Int.reduceToNat, reduceCtorEq, branch_decide, branch_not, branch_beq, branch_bne]
    refine ⟨fun d1 => ?_, fun d1 => ?_⟩
    · have hk2 : k < p.length := by omega
      have hat := plan_at hp hk2
      have e1 := usedT_succ (j := i) hk2
      repeat (with_reducible refine And.intro (by omega) ?_)
      refine ⟨fun e2 => ?_, fun e2 => ?_⟩
      · rw [if_pos e2] at e1
        repeat (with_reducible refine And.intro (by omega) ?_)
        refine lp0_normal (k + 1) (by omega) (by omega) ?_
        simp only [push_cast, ↓branch_true, ↓branch_false, Nat.reduceBEq, Nat.reduceAdd, Nat.reduceMul, Nat.reduceSub, Int.reduceToNat, reduceCtorEq, branch_decide, branch_not, branch_beq, branch_bne, e1]
      · rw [if_neg e2, Int.add_zero] at e1
        repeat (with_reducible refine And.intro (by omega) ?_)
        refine lp0_normal (k + 1) (by omega) (by omega) ?_
        simp only [push_cast, ↓branch_true, ↓branch_false, Nat.reduceBEq, Nat.reduceAdd, Nat.reduceMul, Nat.reduceSub, Int.reduceToNat, reduceCtorEq, branch_decide, branch_not, branch_beq, branch_bne, e1]
    · obtain rfl : k = p.length := by omega
      repeat (with_reducible refine And.intro (by omega) ?_)
      have no : ¬ ((ix s i).cnt < 0 ∨ usedT p p.length i ≤ (ix s i).cnt) → rightB s l p = false := fun h => right_no fun h2 => h (h2.2.2.2 i hi2)
      repeat' (with_reducible (first | apply And.intro | intro _))
      all_goals try omega
      all_goals first
        | (rw [no (by omega)]; done)
        | (refine lp0_normal (i + 1) ⟨by omega, fun q hq => ?_⟩ (by omega) ?_
           · by_cases e : q = i
             · rw [e]; omega
             · exact hu q (by omega)
           · simp only [push_cast, ↓branch_true, ↓branch_false, Nat.reduceBEq, Nat.reduceAdd, Nat.reduceMul, Nat.reduceSub, Int.reduceToNat, reduceCtorEq, branch_decide, branch_not, branch_beq, branch_bne]
           )
  obtain rfl : i = s.length := by omega
  rw [right_yes.2 ⟨hp, hf, hm, hu⟩]
end Go.Proofs.Ythlpfjcjfhdmaaa
