/- Contracts at a member of a list of patterns; the reference's All. -/
import Derived.Test.YtdeaaonppokgkaaS9
set_option maxRecDepth 100000
set_option linter.unusedSimpArgs false
set_option linter.unusedVariables false
-- 
namespace Go.Proofs.Ytdeaaonppokgkaa.Pat
open Go.RowKit
@[push_cast] theorem vwO_row0 {ty : TypeId} {ro : Bool} {sz N : Nat} {len cap : Nat → Nat} {f : Nat → Nat → List SV} {a : Nat} : vwO ⟨ty, ro, .row sz N len cap f⟩ a = ⟨ty, true, .row sz 1 (fun _ => len a) (fun _ => 0) (fun _ => f a)⟩ := rfl
theorem validM_pu (length : Int) (l : List Pc) (P : List (List Int)) (a : Nat) (c c2 : Nat) (ha : a < P.length) (hl : l.length ≤ 9223372036854775806) :
    Pu Try.prog 53 [.v (.int .i64 length), .s 0 0 0 l.length c 2, .s 1 a 0 (ix P a).length c2 1] [rPc l, rLL P] (validV length l (ix P a)) := by
  refine pu_member 1 a [0, 2] rfl ⟨rfl, ha⟩ ?_ (by kernel_rfl) ?_ (valid_pu length l (ix P a) c c2 hl)
  · simp only [push_cast, ↓branch_true, ↓branch_false, Nat.reduceBEq, Nat.reduceAdd, Nat.reduceMul, Nat.reduceSub, Int.reduceToNat, reduceCtorEq, branch_decide, branch_not, branch_beq, branch_bne]
  · simp only [push_cast, ↓branch_true, ↓branch_false, Nat.reduceBEq, Nat.reduceAdd, Nat.reduceMul, Nat.reduceSub, Int.reduceToNat, reduceCtorEq, branch_decide, branch_not, branch_beq, branch_bne]
theorem pick_next {α : Type} [Inhabited α] {E : List α} {F : α → Bool} {i m : Nat} {g : Nat → Nat} (hi : i < E.length) (r2 : m = ((E.take i).filter F).length) (r3 : ∀ k, k < m → g k < E.length ∧ ix E (g k) = ix ((E.take i).filter F) k) :
    (F (ix E i) = true → m + 1 = ((E.take (i + 1)).filter F).length ∧ ∀ k, k < m + 1 → (bif k == m then i else g k) < E.length ∧ ix E (bif k == m then i else g k) = ix ((E.take (i + 1)).filter F) k) ∧ (F (ix E i) = false → (E.take (i + 1)).filter F = (E.take i).filter F) := by
  have htk : E.take (i + 1) = E.take i ++ [ix E i] := by rw [List.take_add_one, List.getElem?_eq_getElem hi, ix_eq hi]; rfl
  constructor
  · intro hF
    have e : (E.take (i + 1)).filter F = (E.take i).filter F ++ [ix E i] := by rw [htk, List.filter_append]; simp [hF]
    rw [e]
    refine ⟨by simp [r2], fun k hk => ?_⟩
    by_cases c : k = m
    · rw [show (k == m) = true by simpa using c, cond_true, c, r2, ix_snoc]
      exact ⟨hi, rfl⟩
    · rw [show (k == m) = false by simpa using c, cond_false, ix_app (by omega)]
      exact r3 k (by omega)
  · intro hF
    rw [htk, List.filter_append]
    simp [hF]
/-- The reference's list of maximal patterns. -/
def maxE (length : Int) (l : List Pc) : List (List Int) := (eachG l length).filter fun q => fullB (length - sumL l q) l q
def rAllE (length : Int) (l : List Pc) : Int := if givenE length l l.length ≠ 0 then givenE length l l.length else if 10 < l.length then 6 else if 1000 < (maxE length l).length then 6 else 0
def rAllL (length : Int) (l : List Pc) : List (List Int) := if rAllE length l = 0 then maxE length l else []
/-- A list of members of a family, by their numbers. -/
def oPick (jf n m oc : Nat) (g caps : Nat → Nat) : Ob := ⟨23, false, .row 1 1 (fun _ => m) (fun _ => oc) (fun _ k => [.s jf (g k) 0 n (caps k) 1])⟩
attribute [push_cast] oPick
end Go.Proofs.Ytdeaaonppokgkaa.Pat
