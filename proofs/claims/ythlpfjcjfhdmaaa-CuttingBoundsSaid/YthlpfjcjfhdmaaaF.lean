/- Contracts: bars and patterns. -/
import Derived.Test.YthlpfjcjfhdmaaaD
import Derived.Test.YthlpfjcjfhdmaaaE
set_option maxRecDepth 100000
set_option linter.unusedSimpArgs false
set_option linter.unusedVariables false
namespace Go.Proofs.Ythlpfjcjfhdmaaa
open Go.RowKit
/-- A length in use. -/
structure Br where
  kind : Int
  left : Int
  ps : List Int
instance : Inhabited Br := ⟨⟨0, 0, []⟩⟩
/-- A pattern. -/
structure Pt where
  stock : Int
  ps : List Int
  times : Int
instance : Inhabited Pt := ⟨⟨0, [], 0⟩⟩
/-- Rows of numbers. -/
def rFm (N : Nat) (G : Nat → List Int) : Ob := ⟨3, true, .row 1 N (fun k => (G k).length) (fun _ => 0) (fun k q => [.v (.int .i64 (ix (G k) q))])⟩
def oFm (cp : Nat → Nat) (G : Nat → List Int) : Ob := ⟨3, false, .row 1 (big + 2) (fun k => (G k).length) cp (fun k q => [.v (.int .i64 (ix (G k) q))])⟩
def cBr (F : Nat) (o : List Br) (cp : Nat → Nat) (k : Nat) : List SV := [.v (.int .i64 (ix o k).kind), .v (.int .i64 (ix o k).left), .s F k 0 (ix o k).ps.length (cp k) 1]
def rBr (F : Nat) (o : List Br) (cp : Nat → Nat) : Ob := ⟨82, true, .row 3 1 (fun _ => o.length) (fun _ => 0) (fun _ k => cBr F o cp k)⟩
def oBr (F : Nat) (o : List Br) (cp : Nat → Nat) (oc : Nat) : Ob := ⟨82, false, .row 3 1 (fun _ => o.length) (fun _ => oc) (fun _ k => cBr F o cp k)⟩
def cPt (F : Nat) (o : List Pt) (cp : Nat → Nat) (k : Nat) : List SV := [.v (.int .i64 (ix o k).stock), .s F k 0 (ix o k).ps.length (cp k) 1, .v (.int .i64 (ix o k).times)]
def rPt (F : Nat) (o : List Pt) (cp : Nat → Nat) : Ob := ⟨50, true, .row 3 1 (fun _ => o.length) (fun _ => 0) (fun _ k => cPt F o cp k)⟩
def oPt (F : Nat) (o : List Pt) (cp : Nat → Nat) (oc : Nat) : Ob := ⟨50, false, .row 3 1 (fun _ => o.length) (fun _ => oc) (fun _ k => cPt F o cp k)⟩
attribute [push_cast] rFm oFm cBr rBr oBr cPt rPt oPt
def fmB (o : List Br) (k : Nat) : List Int := (ix o k).ps
def fmP (o : List Pt) (k : Nat) : List Int := (ix o k).ps
attribute [push_cast] fmB fmP
theorem list_ext {α : Type} [Inhabited α] {a b : List α} (h1 : a.length = b.length) (h2 : ∀ i, i < a.length → ix a i = ix b i) : a = b := by
  refine List.ext_getElem h1 fun i g1 g2 => ?_
  have := h2 i g1
  rwa [ix_eq g1, ix_eq g2] at this
theorem indexBr_pu (o : List Br) (cp : Nat → Nat) (F c : Nat) (g : FuncId) (fs cs : List SV) (H : List Ob) (p : Br → Bool) (hro : roB H = true) (hl : o.length ≤ 9223372036854775807)
    (hp : ∀ k, k < o.length → Pu Try.prog g (fs ++ [.a (cBr F o cp k)] ++ cs) (rBr F o cp :: H) (.v (.bool (p (ix o k))))) : Pu Try.prog 50 [.s 0 0 0 o.length c 3, .f (.func g) fs cs] (rBr F o cp :: H) (.v (.int .i64 (idxB p o 0))) := by
  refine pu_of_ex true [] mixed Try.call50 Try.func50 rfl Try.ntmps50 Try.results50 (by decide +kernel) rfl (by simp [roB, hro, rBr]) rfl ?_
  simp only [push_cast, ↓branch_true, ↓branch_false, Nat.reduceBEq, Nat.reduceAdd, Nat.reduceMul, Nat.reduceSub, Int.reduceToNat, reduceCtorEq, branch_decide, branch_not, branch_beq, branch_bne]
  refine tr_loop0 mixed (by kernel_rfl) (fun (k : Nat) => [(8, .v (.int .i64 k)), (7, .v (.int .i64 o.length)), (0, .s 0 0 0 o.length c 3), (1, .f (.func g) fs cs)]) (fun k => k ≤ o.length ∧ ∀ j, j < k → p (ix o j) = false) (fun k => o.length - k) 0 ⟨Nat.zero_le _, fun j h => by omega⟩ ?_ ?_
  · simp only [push_cast, ↓branch_true, ↓branch_false, Nat.reduceBEq, Nat.reduceAdd, Nat.reduceMul, Nat.reduceSub, Int.reduceToNat, reduceCtorEq, branch_decide, branch_not, branch_beq, branch_bne]
  · rintro k ⟨hk, hn⟩
    simp only [push_cast, ↓branch_true, ↓branch_false, Nat.reduceBEq, Nat.reduceAdd, Nat.reduceMul, Nat.reduceSub, Int.reduceToNat, reduceCtorEq, branch_decide, branch_not, branch_beq, branch_bne]
    refine ⟨fun h1 => ?_, fun h1 => ?_⟩
    · repeat (with_reducible refine And.intro (by omega) ?_)
      have hp1 := hp k (by omega)
      refine sp_pu (by simpa only [push_cast] using hp1) ?_
      simp only [push_cast, ↓branch_true, ↓branch_false, Nat.reduceBEq, Nat.reduceAdd, Nat.reduceMul, Nat.reduceSub, Int.reduceToNat, reduceCtorEq, branch_decide, branch_not, branch_beq, branch_bne]
      simp only [branch]
      refine ⟨fun h2 => ?_, fun h2 => ?_⟩
      · rw [idxB_at p o 0 k (by omega) hn h2]; simp
      · repeat (with_reducible refine And.intro (by omega) ?_)
        refine lp0_normal (k + 1) ⟨by omega, fun j hj => ?_⟩ (by omega) ?_
        · by_cases e : j = k
          · rw [e]; exact h2
          · exact hn j (by omega)
        · simp only [push_cast, ↓branch_true, ↓branch_false, Nat.reduceBEq, Nat.reduceAdd, Nat.reduceMul, Nat.reduceSub, Int.reduceToNat, reduceCtorEq, branch_decide, branch_not, branch_beq, branch_bne]
    · rw [idxB_none p o 0 fun j hj => hn j (by omega)]
/-- A variable that holds a number. -/
def oI (i : Int) : Ob := ⟨3, true, .st [.v (.int .i64 i)]⟩
attribute [push_cast] oI
theorem gcl_pu (o : List Br) (cp : Nat → Nat) (k N : Nat) (G : Nat → List Int) (n : Int) : Pu Try.prog 51 [.a (cBr 2 o cp k), .p 1 0 0] [rBr 2 o cp, oI n, rFm N G] (.v (.bool (decide (n ≤ (ix o k).left)))) := by
  refine pu_of_ex true [] mixed Try.call51 Try.func51 rfl Try.ntmps51 Try.results51 (by decide +kernel) rfl rfl rfl ?_
  simp only [push_cast, ↓branch_true, ↓branch_false, Nat.reduceBEq, Nat.reduceAdd, Nat.reduceMul, Nat.reduceSub, Int.reduceToNat, reduceCtorEq, branch_decide, branch_not, branch_beq, branch_bne]
theorem equal_pu (N M : Nat) (G G' : Nat → List Int) (i k c c' : Nat) (hi : i < N) (hk : k < M) (h1 : (G i).length ≤ 9223372036854775806) (h2 : (G' k).length ≤ 9223372036854775806) :
    Pu Try.prog 80 [.s 0 i 0 (G i).length c 1, .s 1 k 0 (G' k).length c' 1] [rFm N G, rFm M G'] (.v (.bool (decide (G i = G' k)))) := by
  refine pu_of_ex true [] mixed Try.call80 Try.func80 rfl Try.ntmps80 Try.results80 (by decide +kernel) rfl rfl rfl ?_
  simp only [push_cast, ↓branch_true, ↓branch_false, Nat.reduceBEq, Nat.reduceAdd, Nat.reduceMul, Nat.reduceSub, Int.reduceToNat, reduceCtorEq, branch_decide, branch_not, branch_beq, branch_bne]
  refine ⟨fun h => ?_, fun h => ?_⟩
  rotate_left
  · have : ¬ G i = G' k := fun e => h (by rw [e])
    simp [this]
  have hl : (G i).length = (G' k).length := by omega
  refine tr_loop0 mixed (by kernel_rfl) (fun (j : Nat) => [(13, .v (.int .i64 j)), (12, .v (.int .i64 (G i).length)), (0, .s 0 i 0 (G i).length c 1), (1, .s 1 k 0 (G' k).length c' 1)]) (fun j => j ≤ (G i).length ∧ ∀ q, q < j → ix (G i) q = ix (G' k) q) (fun j => (G i).length - j) 0 ⟨Nat.zero_le _, fun j h => by omega⟩ ?_ ?_
  · simp only [push_cast, ↓branch_true, ↓branch_false, Nat.reduceBEq, Nat.reduceAdd, Nat.reduceMul, Nat.reduceSub, Int.reduceToNat, reduceCtorEq, branch_decide, branch_not, branch_beq, branch_bne]
  rintro j ⟨hj, hn⟩
  simp only [push_cast, ↓branch_true, ↓branch_false, Nat.reduceBEq, Nat.reduceAdd, Nat.reduceMul, Nat.reduceSub, Int.reduceToNat, reduceCtorEq, branch_decide, branch_not, branch_beq, branch_bne]
  refine ⟨fun h1 => ?_, fun h1 => ?_⟩
  · repeat (with_reducible refine And.intro (by omega) ?_)
    refine ⟨fun h2 => ?_, fun h2 => ?_⟩
    · repeat (with_reducible refine And.intro (by omega) ?_)
      refine lp0_normal (j + 1) ⟨by omega, fun q hq => ?_⟩ (by omega) ?_
      · by_cases e : q = j
        · rw [e]; exact h2
        · exact hn q (by omega)
      · simp only [push_cast, ↓branch_true, ↓branch_false, Nat.reduceBEq, Nat.reduceAdd, Nat.reduceMul, Nat.reduceSub, Int.reduceToNat, reduceCtorEq, branch_decide, branch_not, branch_beq, branch_bne]
    · have : ¬ G i = G' k := fun e => h2 (by rw [e])
      simp [this]
  · have : G i = G' k := list_ext hl fun q hq => hn q (by omega)
    simp [this]
theorem requal_pu (N M : Nat) (G G' : Nat → List Int) (i k c c' : Nat) (hi : i < N) (hk : k < M) (h1 : (G i).length ≤ 9223372036854775806) (h2 : (G' k).length ≤ 9223372036854775806) :
    Pu Try.prog 56 [.s 0 i 0 (G i).length c 1, .s 1 k 0 (G' k).length c' 1] [rFm N G, rFm M G'] (.v (.bool (decide (G i = G' k)))) := by
  refine pu_of_ex true [] mixed Try.call56 Try.func56 rfl Try.ntmps56 Try.results56 (by decide +kernel) rfl rfl rfl ?_
  simp only [push_cast, ↓branch_true, ↓branch_false, Nat.reduceBEq, Nat.reduceAdd, Nat.reduceMul, Nat.reduceSub, Int.reduceToNat, reduceCtorEq, branch_decide, branch_not, branch_beq, branch_bne]
  refine ⟨fun h => ?_, fun h => ?_⟩
  rotate_left
  · have : ¬ G i = G' k := fun e => h (by rw [e])
    simp [this]
  have hl : (G i).length = (G' k).length := by omega
  refine tr_loop0 mixed (by kernel_rfl) (fun (j : Nat) => [(5, .v (.int .i64 j)), (0, .s 0 i 0 (G i).length c 1), (1, .s 1 k 0 (G' k).length c' 1)]) (fun j => j ≤ (G i).length ∧ ∀ q, q < j → ix (G i) q = ix (G' k) q) (fun j => (G i).length - j) 0 ⟨Nat.zero_le _, fun j h => by omega⟩ ?_ ?_
  · simp only [push_cast, ↓branch_true, ↓branch_false, Nat.reduceBEq, Nat.reduceAdd, Nat.reduceMul, Nat.reduceSub, Int.reduceToNat, reduceCtorEq, branch_decide, branch_not, branch_beq, branch_bne]
  rintro j ⟨hj, hn⟩
  simp only [push_cast, ↓branch_true, ↓branch_false, Nat.reduceBEq, Nat.reduceAdd, Nat.reduceMul, Nat.reduceSub, Int.reduceToNat, reduceCtorEq, branch_decide, branch_not, branch_beq, branch_bne]
  refine ⟨fun h1 => ?_, fun h1 => ?_⟩
  · repeat (with_reducible refine And.intro (by omega) ?_)
    refine ⟨fun h2 => ?_, fun h2 => ?_⟩
    · repeat (with_reducible refine And.intro (by omega) ?_)
      refine lp0_normal (j + 1) ⟨by omega, fun q hq => ?_⟩ (by omega) ?_
      · by_cases e : q = j
        · rw [e]; exact h2
        · exact hn q (by omega)
      · simp only [push_cast, ↓branch_true, ↓branch_false, Nat.reduceBEq, Nat.reduceAdd, Nat.reduceMul, Nat.reduceSub, Int.reduceToNat, reduceCtorEq, branch_decide, branch_not, branch_beq, branch_bne]
    · have : ¬ G i = G' k := fun e => h2 (by rw [e])
      simp [this]
  · have : G i = G' k := list_ext hl fun q hq => hn q (by omega)
    simp [this]
/-- A fact that the memory shows. -/
theorem sp_know {P : Program} {p : Prop} {f : FuncId} {args : List SV} {H : List Ob} {K : SV → List Ob → Prop} (h1 : ∀ vs w, (callFunc f vs).run P w = .ok (.enter f vs) w) (hf : ∀ β w vals, Inv β H w → OkL β args vals → p) (hs : p → Sp P f args H K) : Sp P f args H K :=
  ⟨h1, fun β w vals hI ha => (hs (hf β w vals hI ha)).2 β w vals hI ha⟩
theorem okL_cap {β : Bs} {j i o n c sz : Nat} {l : List SV} {vals : List Value} (h : OkL β (.s j i o n c sz :: l) vals) : n ≤ c := by
  simp only [OkL, Ok] at h
  obtain ⟨_, _, _, ⟨_, _, h, _⟩, _⟩ := h
  exact h
theorem clone_sp (N : Nat) (G : Nat → List Int) (i c : Nat) (hi : i < N) (h0 : 0 < (G i).length) (hn : (G i).length ≤ 100000) : Sp Try.prog 81 [.s 0 i 0 (G i).length c 1] [rFm N G] (fun r H => ∃ cap, (G i).length ≤ cap ∧ r = .s 1 0 0 (G i).length cap 1 ∧ H = [rFm N G, rIO (G i) cap]) := by
  refine sp_know (p := (G i).length ≤ c) Try.call81 (fun β w vals _ h => okL_cap h) fun hc => ?_
  refine sp_weak ?_
  refine sp_of_ex true [] mixed Try.call81 Try.func81 rfl Try.ntmps81 Try.results81 (by decide +kernel) rfl ?_
  simp only [push_cast, ↓branch_true, ↓branch_false, Nat.reduceBEq, Nat.reduceAdd, Nat.reduceMul, Nat.reduceSub, Int.reduceToNat, reduceCtorEq, branch_decide, branch_not, branch_beq, branch_bne]
  intro b hb
  rw [hb (by omega)]
  simp only [push_cast, ↓branch_true, ↓branch_false, Nat.reduceBEq, Nat.reduceAdd, Nat.reduceMul, Nat.reduceSub, Int.reduceToNat, reduceCtorEq, branch_decide, branch_not, branch_beq, branch_bne]
  repeat (with_reducible refine And.intro (by omega) ?_)
  refine ⟨?_, appZ_of (fun h => by omega) fun _ => .inl ⟨by omega, by omega, fun cap hcap => ?_⟩⟩
  · unfold srcOk
    split <;> simp [lenP, lenIs, ones, one1]
  · refine ⟨_, _, [0, 2], ?_, by kernel_rfl, ?_, cap, hcap, rfl, rfl⟩
    · simp only [push_cast, ↓branch_true, ↓branch_false, Nat.reduceBEq, Nat.reduceAdd, Nat.reduceMul, Nat.reduceSub, Int.reduceToNat, reduceCtorEq, branch_decide, branch_not, branch_beq, branch_bne]
    · simp only [push_cast, ↓branch_true, ↓branch_false, Nat.reduceBEq, Nat.reduceAdd, Nat.reduceMul, Nat.reduceSub, Int.reduceToNat, reduceCtorEq, branch_decide, branch_not, branch_beq, branch_bne]
end Go.Proofs.Ythlpfjcjfhdmaaa
