/- Contracts: the reference's Mass and Same. -/
import Derived.Test.YtdinkpefoljigaaO
set_option maxRecDepth 100000
set_option linter.unusedSimpArgs false
set_option linter.unusedVariables false
namespace Go.Proofs.Ytdinkpefoljigaa
open Go.RowKit
/-- Loads that are only read. -/
def rFa (N : Nat) (out : List (List Int)) : Ob := ⟨3, true, .row 1 N (fun k => (ix out k).length) (fun _ => 0) (fun k q => [.v (.int .i64 (ix (ix out k) q))])⟩
def rOut (F : Nat) (out : List (List Int)) (cp : Nat → Nat) : Ob := ⟨36, true, .row 1 1 (fun _ => out.length) (fun _ => 0) (fun _ k => [.s F k 0 (ix out k).length (cp k) 1])⟩
attribute [push_cast] rFa rOut
theorem massL_take {l : List Bun} {x : List Int} {k : Nat} (hk : k < x.length) : massL l (x.take (k + 1)) = massL l (x.take k) + (ix l (ix x k).toNat).mass := by
  rw [take_snoc hk, massL_app, massL_one]
theorem massL_range {l : List Bun} {x : List Int} (hv : vB l = true) (hx : ∀ i ∈ x, 0 ≤ i ∧ i < l.length) : ∀ k, k ≤ x.length → 0 ≤ massL l (x.take k) ∧ massL l (x.take k) ≤ 1099511627776 * k
  | 0, _ => by simp [massL]
  | k + 1, h => by
    have ih := massL_range hv hx k (by omega)
    have hi := hx _ (ix_mem (l := x) (k := k) (by omega))
    have := okA_mass ((vB_yes.1 hv).2 (ix x k).toNat (by omega))
    rw [massL_take (by omega)]
    omega
theorem rmass_pu (l : List Bun) (c N a : Nat) (out : List (List Int)) (cp : Nat) (hv : vB l = true) (ha : a < N) (hx : ∀ i ∈ ix out a, 0 ≤ i ∧ i < l.length) (hn : (ix out a).length ≤ 4000000) :
    Pu Try.prog 33 [.s 0 0 0 l.length c 4, .s 1 a 0 (ix out a).length cp 1] [rB l, rFa N out] (.v (.int .i64 (massL l (ix out a)))) := by
  refine pu_of_ex true [] mixed Try.call33 Try.func33 rfl Try.ntmps33 Try.results33 (by decide +kernel) rfl rfl rfl ?_
  simp only [push_cast, ↓branch_true, ↓branch_false, Nat.reduceBEq, Nat.reduceAdd, Nat.reduceMul, Nat.reduceSub, Int.reduceToNat, reduceCtorEq, branch_decide, branch_not, branch_beq, branch_bne]
  refine tr_loop0 mixed (by kernel_rfl) (fun (k : Nat) => [(6, .v (.int .i64 k)), (5, .v (.int .i64 (massL l ((ix out a).take k)))), (0, .s 0 0 0 l.length c 4), (1, .s 1 a 0 (ix out a).length cp 1)]) (fun k => k ≤ (ix out a).length) (fun k => (ix out a).length - k) 0 (Nat.zero_le _) ?_ ?_
  · simp only [push_cast, ↓branch_true, ↓branch_false, Nat.reduceBEq, Nat.reduceAdd, Nat.reduceMul, Nat.reduceSub, Int.reduceToNat, reduceCtorEq, branch_decide, branch_not, branch_beq, branch_bne]
    simp [massL]
  rintro k h1
  simp only [push_cast, ↓branch_true, ↓branch_false, Nat.reduceBEq, Nat.reduceAdd, Nat.reduceMul, Nat.reduceSub, Int.reduceToNat, reduceCtorEq, branch_decide, branch_not, branch_beq, branch_bne]
  have hr := massL_range hv hx k h1
  refine ⟨fun h => ?_, fun h => ?_⟩
  · have hk : k < (ix out a).length := by omega
    have hi := hx _ (ix_mem hk)
    have := okA_mass ((vB_yes.1 hv).2 (ix (ix out a) k).toNat (by omega))
    have e := massL_take (l := l) hk
    repeat (with_reducible refine And.intro (by omega) ?_)
    refine lp0_normal (k + 1) (by omega) (by omega) ?_
    simp only [push_cast, ↓branch_true, ↓branch_false, Nat.reduceBEq, Nat.reduceAdd, Nat.reduceMul, Nat.reduceSub, Int.reduceToNat, reduceCtorEq, branch_decide, branch_not, branch_beq, branch_bne, e]
  · have : k = (ix out a).length := by omega
    subst this
    rw [List.take_length]
theorem lists_ext {a b : List (List Int)} (h1 : a.length = b.length) (h2 : ∀ i, i < a.length → ix a i = ix b i) : a = b := by
  refine List.ext_getElem h1 fun i hi hj => ?_
  rw [← ix_eq hi, ← ix_eq hj]
  exact h2 i hi
theorem ints_ext {a b : List Int} (h1 : a.length = b.length) (h2 : ∀ i, i < a.length → ix a i = ix b i) : a = b := by
  refine List.ext_getElem h1 fun i hi hj => ?_
  rw [← ix_eq hi, ← ix_eq hj]
  exact h2 i hi
instance : DecidableEq (List (List Int)) := inferInstance
theorem same_pu (a b : List (List Int)) (ca cb N M : Nat) (cp cq : Nat → Nat) (hN : a.length ≤ N) (hM : b.length ≤ M) (hla : a.length ≤ 9223372036854775807) (hlb : b.length ≤ 9223372036854775807) (hlx : ∀ x ∈ a, x.length ≤ 9223372036854775807) :
    Pu Try.prog 16 [.s 0 0 0 a.length ca 1, .s 2 0 0 b.length cb 1] [rOut 1 a cp, rFa N a, rOut 3 b cq, rFa M b] (.v (.bool (decide (a = b)))) := by
  refine pu_of_ex true [] mixed Try.call16 Try.func16 rfl Try.ntmps16 Try.results16 (by decide +kernel) rfl rfl rfl ?_
  simp only [push_cast, ↓branch_true, ↓branch_false, Nat.reduceBEq, Nat.reduceAdd, Nat.reduceMul, Nat.reduceSub, Int.reduceToNat, reduceCtorEq, branch_decide, branch_not, branch_beq, branch_bne]
  refine ⟨fun h => ?_, fun h => ?_⟩
  rotate_left
  · have : ¬ a = b := fun e => h (by rw [e])
    simp [this]
  have hlen : a.length = b.length := by omega
  refine tr_loop0 mixed (by kernel_rfl) (fun (k : Nat) => [(5, .v (.int .i64 k)), (0, .s 0 0 0 a.length ca 1), (1, .s 2 0 0 b.length cb 1)]) (fun k => k ≤ a.length ∧ ∀ j, j < k → ix a j = ix b j) (fun k => a.length - k) 0 ⟨Nat.zero_le _, fun j hj => by omega⟩ ?_ ?_
  · simp only [push_cast, ↓branch_true, ↓branch_false, Nat.reduceBEq, Nat.reduceAdd, Nat.reduceMul, Nat.reduceSub, Int.reduceToNat, reduceCtorEq, branch_decide, branch_not, branch_beq, branch_bne]
  rintro k ⟨h1, h2⟩
  simp only [push_cast, ↓branch_true, ↓branch_false, Nat.reduceBEq, Nat.reduceAdd, Nat.reduceMul, Nat.reduceSub, Int.reduceToNat, reduceCtorEq, branch_decide, branch_not, branch_beq, branch_bne]
  refine ⟨fun h3 => ?_, fun h3 => ?_⟩
  · have hk : k < a.length := by omega
    have hxk := hlx _ (ix_mem hk)
    repeat (with_reducible refine And.intro (by omega) ?_)
    refine ⟨fun h4 => ?_, fun h4 => ?_⟩
    rotate_left
    · have : ¬ a = b := fun e => h4 (by rw [e])
      simp [this]
    · refine tr_loop0 mixed (by kernel_rfl) (fun (q : Nat) => [(6, .v (.int .i64 q)), (5, .v (.int .i64 k)), (0, .s 0 0 0 a.length ca 1), (1, .s 2 0 0 b.length cb 1)]) (fun q => q ≤ (ix a k).length ∧ ∀ j, j < q → ix (ix a k) j = ix (ix b k) j) (fun q => (ix a k).length - q) 0 ⟨Nat.zero_le _, fun j hj => by omega⟩ ?_ ?_
      · simp only [push_cast, ↓branch_true, ↓branch_false, Nat.reduceBEq, Nat.reduceAdd, Nat.reduceMul, Nat.reduceSub, Int.reduceToNat, reduceCtorEq, branch_decide, branch_not, branch_beq, branch_bne]
      rintro q ⟨h5, h6⟩
      simp only [push_cast, ↓branch_true, ↓branch_false, Nat.reduceBEq, Nat.reduceAdd, Nat.reduceMul, Nat.reduceSub, Int.reduceToNat, reduceCtorEq, branch_decide, branch_not, branch_beq, branch_bne]
      repeat (with_reducible refine And.intro (by omega) ?_)
      refine ⟨fun h7 => ?_, fun h7 => ?_⟩
      · have hq : q < (ix a k).length := by omega
        repeat (with_reducible refine And.intro (by omega) ?_)
        refine ⟨fun h8 => ?_, fun h8 => ?_⟩
        · repeat (with_reducible refine And.intro (by omega) ?_)
          refine lp0_normal (q + 1) ⟨by omega, fun j hj => ?_⟩ (by omega) ?_
          · by_cases e : j = q
            · subst e; exact h8
            · exact h6 j (by omega)
          · simp only [push_cast, ↓branch_true, ↓branch_false, Nat.reduceBEq, Nat.reduceAdd, Nat.reduceMul, Nat.reduceSub, Int.reduceToNat, reduceCtorEq, branch_decide, branch_not, branch_beq, branch_bne]
        · have : ¬ a = b := fun e => h8 (by rw [e])
          simp [this]
      · repeat (with_reducible refine And.intro (by omega) ?_)
        refine lp0_normal (k + 1) ⟨by omega, fun j hj => ?_⟩ (by omega) ?_
        · by_cases e : j = k
          · subst e; exact ints_ext (by omega) fun j hj => h6 j (by omega)
          · exact h2 j (by omega)
        · simp only [push_cast, ↓branch_true, ↓branch_false, Nat.reduceBEq, Nat.reduceAdd, Nat.reduceMul, Nat.reduceSub, Int.reduceToNat, reduceCtorEq, branch_decide, branch_not, branch_beq, branch_bne]
  · have : a = b := lists_ext hlen fun j hj => h2 j (by omega)
    simp [this]
end Go.Proofs.Ytdinkpefoljigaa
