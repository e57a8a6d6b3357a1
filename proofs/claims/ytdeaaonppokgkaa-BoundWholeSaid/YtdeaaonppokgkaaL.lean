/- Contracts: sum, Max, fits. -/
import Derived.Test.YtdeaaonppokgkaaKV
set_option maxRecDepth 100000
set_option linter.unusedSimpArgs false
set_option linter.unusedVariables false
namespace Go.Proofs.Ytdeaaonppokgkaa
open Go.RowKit Lp
/-- One, a size, and the sizes of some numbers. -/
def szs (f : Nat → Int) (more : Int) : Nat → Nat
  | 0 => 1 + more.natAbs
  | k + 1 => szs f more k + (f k).natAbs
theorem szs_pos (f : Nat → Int) (more : Int) : ∀ k, 0 < szs f more k
  | 0 => by rw [szs]; omega
  | k + 1 => by rw [szs]; have := szs_pos f more k; omega
theorem szs_le {f : Nat → Int} {more : Int} {A B : Nat} (hm : more.natAbs ≤ A) : ∀ {k : Nat}, (∀ i, i < k → (f i).natAbs ≤ B) → szs f more k ≤ 1 + A + k * B
  | 0, _ => by rw [szs]; omega
  | k + 1, h => by
    rw [szs, Nat.succ_mul]
    have h1 := szs_le (f := f) (A := A) (B := B) hm (k := k) fun i hi => h i (by omega)
    have h2 := h k (by omega)
    omega
theorem szs_mono (f : Nat → Int) (more : Int) {k : Nat} : ∀ {n : Nat}, k ≤ n → szs f more k ≤ szs f more n
  | 0, h => by obtain rfl : k = 0 := by omega
               exact Nat.le_refl _
  | n + 1, h => by
    by_cases e : k = n + 1
    · rw [e]; exact Nat.le_refl _
    · rw [szs]
      have := szs_mono f more (k := k) (n := n) (by omega)
      omega
theorem sum_pu (N i : Nat) (ln cp : Nat → Nat) (a : Nat → Nat → Int) (more : Int) (hi : i < N) (hl : ln i ≤ 1000000) (hb : szs (a i) more (ln i) ≤ 1000000000000) : Pu Try.prog 93 [.s 0 i 0 (ln i) (cp i) 1, .v (.int .i64 more)] [rFm N ln cp a] (.v (.int .i64 (szs (a i) more (ln i) : Nat))) := by
  have h0 : szs (a i) more 0 = 1 + more.natAbs := rfl
  have hm0 := szs_mono (a i) more (Nat.zero_le (ln i))
  refine pu_of_ex true [] mixed Try.call93 Try.func93 rfl Try.ntmps93 Try.results93 (by decide +kernel) rfl rfl rfl ?_
  simp only [push_cast, ↓branch_true, ↓branch_false, Nat.reduceBEq, Nat.reduceAdd, Nat.reduceMul, Nat.reduceSub, Int.reduceToNat, reduceCtorEq, Int.reduceAdd, Int.reduceEq, Int.reduceLE, Int.reduceLT, Nat.reduceLT, Nat.reduceLeDiff]
  refine sp_c (psize_pu more (by omega)) rfl [] ?_
  simp only [push_cast, ↓branch_true, ↓branch_false, Nat.reduceBEq, Nat.reduceAdd, Nat.reduceMul, Nat.reduceSub, Int.reduceToNat, reduceCtorEq, Int.reduceAdd, Int.reduceEq, Int.reduceLE, Int.reduceLT, Nat.reduceLT, Nat.reduceLeDiff]
  repeat (with_reducible refine And.intro (by omega) ?_)
  refine tr_loop0 mixed (by kernel_rfl) (fun (k : Nat) => [(14, .v (.int .i64 k)), (13, .v (.int .i64 (ln i))), (12, .s 0 i 0 (ln i) (cp i) 1), (5, .v (.int .i64 (szs (a i) more k : Nat)))]) (fun k => k ≤ ln i) (fun k => ln i - k) 0 (Nat.zero_le _) ?_ ?_
  · simp only [push_cast, ↓branch_true, ↓branch_false, Nat.reduceBEq, Nat.reduceAdd, Nat.reduceMul, Nat.reduceSub, Int.reduceToNat, reduceCtorEq, Int.reduceAdd, Int.reduceEq, Int.reduceLE, Int.reduceLT, Nat.reduceLT, Nat.reduceLeDiff]
    exact vi (by omega)
  intro k hk
  have hm1 := szs_mono (a i) more hk
  simp only [push_cast, ↓branch_true, ↓branch_false, Nat.reduceBEq, Nat.reduceAdd, Nat.reduceMul, Nat.reduceSub, Int.reduceToNat, reduceCtorEq, Int.reduceAdd, Int.reduceEq, Int.reduceLE, Int.reduceLT, Nat.reduceLT, Nat.reduceLeDiff]
  refine ⟨fun h1 => ?_, fun h1 => ?_⟩
  · have hn : szs (a i) more (k + 1) = szs (a i) more k + (a i k).natAbs := rfl
    have hm2 := szs_mono (a i) more (show k + 1 ≤ ln i by omega)
    repeat (with_reducible refine And.intro (by omega) ?_)
    refine sp_c (psize_pu (a i k) (by omega)) rfl [] ?_
    simp only [push_cast, ↓branch_true, ↓branch_false, Nat.reduceBEq, Nat.reduceAdd, Nat.reduceMul, Nat.reduceSub, Int.reduceToNat, reduceCtorEq, Int.reduceAdd, Int.reduceEq, Int.reduceLE, Int.reduceLT, Nat.reduceLT, Nat.reduceLeDiff]
    repeat (with_reducible refine And.intro (by omega) ?_)
    refine lp0_normal (k + 1) (by omega) (by omega) ?_
    simp only [push_cast, ↓branch_true, ↓branch_false, Nat.reduceBEq, Nat.reduceAdd, Nat.reduceMul, Nat.reduceSub, Int.reduceToNat, reduceCtorEq, Int.reduceAdd, Int.reduceEq, Int.reduceLE, Int.reduceLT, Nat.reduceLT, Nat.reduceLeDiff, hn]
  · obtain rfl : k = ln i := by omega
    rfl
/-- The greatest of some numbers. -/
def mxk (f : Nat → Nat) : Nat → Nat
  | 0 => f 0
  | k + 1 => max (mxk f k) (f k)
theorem mxk_ge (f : Nat → Nat) : ∀ {k i : Nat}, i < k → f i ≤ mxk f k
  | k + 1, i, h => by
    rw [mxk]
    by_cases e : i = k
    · rw [e]; omega
    · have := mxk_ge f (k := k) (i := i) (by omega)
      omega
theorem mxk_is (f : Nat → Nat) : ∀ k : Nat, ∃ i, (i < k ∨ i = 0) ∧ mxk f k = f i
  | 0 => ⟨0, .inr rfl, rfl⟩
  | k + 1 => by
    obtain ⟨i, h1, h2⟩ := mxk_is f k
    rw [mxk]
    by_cases e : f k ≤ mxk f k
    · exact ⟨i, by omega, by omega⟩
    · exact ⟨k, by omega, by omega⟩
theorem max_pu (n cap : Nat) (f : Nat → Nat) (hn : 0 < n) (hl : n ≤ 1000000) : Pu Try.prog 95 [.s 0 0 0 n cap 1] [rI n cap (fun k => (f k : Nat))] (.v (.int .i64 (mxk f n : Nat))) := by
  refine pu_of_ex true [] mixed Try.call95 Try.func95 rfl Try.ntmps95 Try.results95 (by decide +kernel) rfl rfl rfl ?_
  simp only [push_cast, ↓branch_true, ↓branch_false, Nat.reduceBEq, Nat.reduceAdd, Nat.reduceMul, Nat.reduceSub, Int.reduceToNat, reduceCtorEq, Int.reduceAdd, Int.reduceEq, Int.reduceLE, Int.reduceLT, Nat.reduceLT, Nat.reduceLeDiff]
  refine ⟨fun h => absurd h (by omega), fun _ => ?_⟩
  repeat (with_reducible refine And.intro (by omega) ?_)
  refine tr_loop0 mixed (by kernel_rfl) (fun (k : Nat) => [(4, .v (.int .i64 k)), (3, .v (.int .i64 (mxk f k : Nat))), (0, .s 0 0 0 n cap 1)]) (fun k => 1 ≤ k ∧ k ≤ n) (fun k => n - k) 1 ⟨by omega, by omega⟩ ?_ ?_
  · simp only [push_cast, ↓branch_true, ↓branch_false, Nat.reduceBEq, Nat.reduceAdd, Nat.reduceMul, Nat.reduceSub, Int.reduceToNat, reduceCtorEq, Int.reduceAdd, Int.reduceEq, Int.reduceLE, Int.reduceLT, Nat.reduceLT, Nat.reduceLeDiff]
    exact vi (by rw [mxk, mxk, Nat.max_self])
  rintro k ⟨hk1, hk⟩
  simp only [push_cast, ↓branch_true, ↓branch_false, Nat.reduceBEq, Nat.reduceAdd, Nat.reduceMul, Nat.reduceSub, Int.reduceToNat, reduceCtorEq, Int.reduceAdd, Int.reduceEq, Int.reduceLE, Int.reduceLT, Nat.reduceLT, Nat.reduceLeDiff]
  have hs : mxk f (k + 1) = max (mxk f k) (f k) := rfl
  refine ⟨fun h1 => ?_, fun h1 => ?_⟩
  · repeat (with_reducible refine And.intro (by omega) ?_)
    refine lp0_normal (k + 1) ⟨by omega, by omega⟩ (by omega) ?_
    have hx : max ((mxk f k : Nat) : Int) ((f k : Nat) : Int) = ((mxk f (k + 1) : Nat) : Int) := by rw [hs]; omega
    simp only [push_cast, ↓branch_true, ↓branch_false, Nat.reduceBEq, Nat.reduceAdd, Nat.reduceMul, Nat.reduceSub, Int.reduceToNat, reduceCtorEq, Int.reduceAdd, Int.reduceEq, Int.reduceLE, Int.reduceLT, Nat.reduceLT, Nat.reduceLeDiff, hx]
  · obtain rfl : k = n := by omega
    rfl
/-- The factors of a program. -/
def fcs (p : Pm) : Nat → Nat
  | 0 => szs p.co 0 p.n
  | t + 1 => szs (p.a t) (p.b t) p.n
def fitB (p : Pm) : Bool := decide (∀ q, q < p.m + 1 → prd q (fcs p) ≤ 17592186044416 / fcs p q) && decide (prd (p.m + 1) (fcs p) ≤ 144115188075855872 / mxk (fcs p) (p.m + 1))
theorem fcs_pos (p : Pm) (t : Nat) : 0 < fcs p t := by
  cases t <;> exact szs_pos _ _ _
theorem fcs_le {p : Pm} (hp : PmOk p) {t : Nat} (ht : t < p.m + 1) : fcs p t ≤ 1100000000 := by
  have hn := hp.n
  cases t with
  | zero =>
    have := szs_le (f := p.co) (more := 0) (A := 0) (B := 1048576) (by decide) (k := p.n) hp.co
    show szs p.co 0 p.n ≤ _
    have h2 : p.n * 1048576 ≤ 12 * 1048576 := Nat.mul_le_mul_right _ (by omega)
    omega
  | succ t =>
    have := szs_le (f := p.a t) (more := p.b t) (A := 1073741824) (B := 1048576) (hp.b t (by omega)) (k := p.n) fun k hk => hp.a t k (by omega) hk
    show szs (p.a t) (p.b t) p.n ≤ _
    have h2 : p.n * 1048576 ≤ 12 * 1048576 := Nat.mul_le_mul_right _ (by omega)
    omega
end Go.Proofs.Ytdeaaonppokgkaa
