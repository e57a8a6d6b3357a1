/- A loop's round, and the loop again: for loops whose rounds are few and known. No program in sight. -/
import Derived.Test.YtolioflblegneaaGreatTi
import Derived.Test.YtolioflblegneaaGreatA
set_option maxRecDepth 100000
set_option linter.unusedSimpArgs false
set_option linter.unusedVariables false
namespace Go.Proofs.YtolioflblegneaaGreat
open Go.RowKit
attribute [push_cast] branch_decide branch_not branch_beq branch_bne false_imp_iff true_imp_iff
theorem sxq {P Q : Prop} (h : Q) (e : P = Q := by (conv => lhs; simp only [push_cast, ↓branch_true, ↓branch_false, Nat.reduceBEq, Nat.reduceAdd, Nat.reduceMul, Nat.reduceSub, Int.reduceToNat, reduceCtorEq, Int.reduceAdd, Int.reduceEq, Int.reduceLE, Int.reduceLT, Nat.reduceLT, Nat.reduceLeDiff])) : P := Eq.mpr e h
theorem sp_c {P : Program} {f : FuncId} {args args0 : List SV} {H H0 : List Ob} {r : SV} {v : Value} {K : SV → List Ob → Prop} (h : Pu P f args0 H0 r) (hg : gnd r = some v) (rl : List Nat) (hk : K r H) (hro : (roB H0 && Nat.beq rl.length H0.length) = true := by exact rfl) (ha : mtL rl args0 args := by (simp only [push_cast, ↓branch_true, ↓branch_false, Nat.reduceBEq, Nat.reduceAdd, Nat.reduceMul, Nat.reduceSub, Int.reduceToNat, reduceCtorEq, Int.reduceAdd, Int.reduceEq, Int.reduceLE, Int.reduceLT, Nat.reduceLT, Nat.reduceLeDiff])) (ho : obsM rl H rl H0 := by (simp only [push_cast, ↓branch_true, ↓branch_false, Nat.reduceBEq, Nat.reduceAdd, Nat.reduceMul, Nat.reduceSub, Int.reduceToNat, reduceCtorEq, Int.reduceAdd, Int.reduceEq, Int.reduceLE, Int.reduceLT, Nat.reduceLT, Nat.reduceLeDiff])) : Sp P f args H K :=
  sp_call h hg rl hro ha ho hk
theorem qc_c {P : Program} {f : FuncId} {args args0 : List SV} {H H0 : List Ob} {r : SV} {v : Value} {K : SV → Prop} (h : Pu P f args0 H0 r) (hg : gnd r = some v) (rl : List Nat) (hk : K r) (hro : (roB H0 && Nat.beq rl.length H0.length) = true := by exact rfl) (ha : mtL rl args0 args := by (simp only [push_cast, ↓branch_true, ↓branch_false, Nat.reduceBEq, Nat.reduceAdd, Nat.reduceMul, Nat.reduceSub, Int.reduceToNat, reduceCtorEq, Int.reduceAdd, Int.reduceEq, Int.reduceLE, Int.reduceLT, Nat.reduceLT, Nat.reduceLeDiff])) (ho : obsM rl H rl H0 := by (simp only [push_cast, ↓branch_true, ↓branch_false, Nat.reduceBEq, Nat.reduceAdd, Nat.reduceMul, Nat.reduceSub, Int.reduceToNat, reduceCtorEq, Int.reduceAdd, Int.reduceEq, Int.reduceLE, Int.reduceLT, Nat.reduceLT, Nat.reduceLeDiff])) : QC P f args H K :=
  qc_call h hg rl hro ha ho hk
theorem pu_any {P : Program} {f : FuncId} {args : List SV} {r : SV} {v : Value} (h : Pu P f args [] r) (hg : gnd r = some v) (ha : mtL [] args args) : ∀ H, Pu P f args H r := fun H => pu_at h hg [] rfl ha (by (simp only [push_cast, ↓branch_true, ↓branch_false, Nat.reduceBEq, Nat.reduceAdd, Nat.reduceMul, Nat.reduceSub, Int.reduceToNat, reduceCtorEq, Int.reduceAdd, Int.reduceEq, Int.reduceLE, Int.reduceLT, Nat.reduceLT, Nat.reduceLeDiff]))
theorem pu_a {P : Program} {f : FuncId} {args : List SV} {r : SV} {v : Value} (h : Pu P f args [] r) (hg : gnd r = some v) (H : List Ob) (ha : mtL [] args args := by (simp only [push_cast, ↓branch_true, ↓branch_false, Nat.reduceBEq, Nat.reduceAdd, Nat.reduceMul, Nat.reduceSub, Int.reduceToNat, reduceCtorEq, Int.reduceAdd, Int.reduceEq, Int.reduceLE, Int.reduceLT, Nat.reduceLT, Nat.reduceLeDiff])) : Pu P f args H r := pu_any h hg ha H
/-- A loop that is under way. -/
def Tl (E : Env) (c : Code) (σ : Sl) (H : List Ob) (K : Kt) : Prop :=
  ∀ β0 H0 w0 β a w, St E β0 H0 w0 β σ H a w → ∀ b k cs, ∃ e a' w', (∃ β' σ' H', K e σ' H' ∧ St E β0 H0 w0 β' σ' H' a' w') ∧ Arrives E.P (lone (b.at a (.code c :: .inLoop c :: k)) cs w) b k cs e a' w'
def rnK (E : Env) (c : Code) (K : Kt) (e : Exit) (σ : Sl) (H : List Ob) : Prop :=
  match e with
  | .normal => Tl E c σ H K
  | e => K e σ H
@[push_cast] theorem rnK_exit {E : Env} {c : Code} {K : Kt} {i : Nat} {σ : Sl} {H : List Ob} : rnK E c K (.exit i) σ H = K (.exit i) σ H := rfl
@[push_cast] theorem rnK_ret {E : Env} {c : Code} {K : Kt} {σ : Sl} {H : List Ob} : rnK E c K .ret σ H = K .ret σ H := rfl
@[push_cast] theorem rnK_normal {E : Env} {c : Code} {K : Kt} {σ : Sl} {H : List Ob} : rnK E c K .normal σ H = Tl E c σ H K := rfl
/-- One round of a loop, and the rest. -/
theorem tl_un {E : Env} {c : Code} {σ : Sl} {H : List Ob} {K : Kt} (hm : E.P.follows .mixedOrders = true) (hok : okCode E.nt E.pl c = true) (h : ex E c σ H (rnK E c K)) : Tl E c σ H K := by
  intro β0 H0 w0 β a w hs b k cs
  obtain ⟨e, a₁, w₁, ⟨β1, σ1, H1, hk, hs1⟩, harr⟩ := ex_sound hm c σ H _ hok h β0 H0 w0 β a w hs b (.inLoop c :: k) cs
  cases e with
  | normal =>
    have hk : Tl E c σ1 H1 K := hk
    obtain ⟨e₂, a₂, w₂, hq₂, harr₂⟩ := hk β0 H0 w0 β1 a₁ w₁ hs1 b k cs
    exact ⟨e₂, a₂, w₂, hq₂, .of_steps (Steps.trans harr (.one step_inLoop)) harr₂⟩
  | exit id => exact ⟨_, a₁, w₁, ⟨β1, σ1, H1, hk, hs1⟩, .pass (x := .inLoop c) rfl (fun _ _ => .inl (by simp)) harr⟩
  | goto l => exact ⟨_, a₁, w₁, ⟨β1, σ1, H1, hk, hs1⟩, .pass (x := .inLoop c) rfl (fun _ _ => .inl (by simp)) harr⟩
  | ret => exact ⟨_, a₁, w₁, ⟨β1, σ1, H1, hk, hs1⟩, .pass (x := .inLoop c) rfl (fun _ _ => .inl (by simp)) harr⟩
  | panic ch => exact ⟨_, a₁, w₁, ⟨β1, σ1, H1, hk, hs1⟩, .pass (x := .inLoop c) rfl (fun _ _ => .inl (by simp)) harr⟩
  | outgrown => exact ⟨_, a₁, w₁, ⟨β1, σ1, H1, hk, hs1⟩, .pass (x := .inLoop c) rfl (fun _ _ => .inl (by simp)) harr⟩
theorem tr_un {E : Env} {c : Code} {σ : Sl} {H : List Ob} {K : Kt} (hm : E.P.follows .mixedOrders = true) (hok : okCode E.nt E.pl c = true) (h : ex E c σ H (rnK E c K)) : Tr E (.loop c) σ H K := by
  intro β0 H0 w0 β a w hs b k cs
  obtain ⟨e, a', w', hq, harr⟩ := tl_un hm hok h β0 H0 w0 β a w hs b k cs
  exact ⟨e, a', w', hq, .of_steps (.one step_loop) harr⟩
end Go.Proofs.YtolioflblegneaaGreat
