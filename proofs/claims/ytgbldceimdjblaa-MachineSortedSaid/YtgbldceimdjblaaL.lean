/- Contracts: the sort, and Johnson's order. -/
import Derived.Test.YtgbldceimdjblaaK
set_option maxRecDepth 100000
set_option linter.unusedSimpArgs false
set_option linter.unusedVariables false
namespace Go.Proofs.Ytgbldceimdjblaa
open Go.RowKit
theorem sort_sp (g : FuncId) (fs cs : List SV) (n cap : Nat) (H : List Ob) (V : Int → Prop) (O : Int → Int → Prop) (cm : Int → Int → Int) (K : Int → Int) (f : Nat → Int)
    (hC : Cmp g fs cs n cap H V cm) (hK : Kn V O cm K) (hV : allV V f 0 n) (hO : ∀ p q, p < q → q < n → O (f p) (f q)) (hro : roB H = true) (hn : n ≤ cap) (hcap : n ≤ 1152921504606846976) :
    Sp Try.prog 34 [.s 0 0 0 n cap 1, .f (.func g) fs cs] (rOwn 3 n cap f :: H) (fun r H' => ∃ f', r = .t [] ∧ H' = rOwn 3 n cap f' :: H ∧ InI K f 0 n f') := by
  have hs := stable_sp g fs cs n cap H V O cm K f (fun _ f a m b => merge_ok g fs cs n cap H V O cm K hC hK hro hn hcap _ f a m b rfl) hC hK hV hO hro hn hcap
  refine sp_of_ex true [] mixed Try.call34 Try.func34 rfl Try.ntmps34 Try.results34 (by decide +kernel) rfl ?_
  simp only [push_cast, ↓branch_true, ↓branch_false, Nat.reduceBEq, Nat.reduceAdd, Nat.reduceMul, Nat.reduceSub, Int.reduceToNat, reduceCtorEq, branch_decide, branch_not, branch_beq, branch_bne]
  refine sp_mono hs ?_
  rintro r H' ⟨f5, rfl, rfl, i5⟩
  simp only [push_cast, ↓branch_true, ↓branch_false, Nat.reduceBEq, Nat.reduceAdd, Nat.reduceMul, Nat.reduceSub, Int.reduceToNat, reduceCtorEq, branch_decide, branch_not, branch_beq, branch_bne]
  exact ⟨f5, rfl, i5⟩
theorem isNaN_pu (x : Int) : Pu Try.prog 57 [.v (.int .i64 x)] [] (.v (.bool false)) := by
  refine pu_of_ex true [] mixed Try.call57 Try.func57 rfl Try.ntmps57 Try.results57 (by decide +kernel) rfl rfl rfl ?_
  simp only [push_cast, ↓branch_true, ↓branch_false, Nat.reduceBEq, Nat.reduceAdd, Nat.reduceMul, Nat.reduceSub, Int.reduceToNat, reduceCtorEq, branch_decide, branch_not, branch_beq, branch_bne]
  simp
def cmpI (x y : Int) : Int := if x < y then -1 else if y < x then 1 else 0
theorem cmpI_pu (x y : Int) : Pu Try.prog 36 [.v (.int .i64 x), .v (.int .i64 y)] [] (.v (.int .i64 (cmpI x y))) := by
  refine pu_of_ex true [] mixed Try.call36 Try.func36 rfl Try.ntmps36 Try.results36 (by decide +kernel) rfl rfl rfl ?_
  simp only [push_cast, ↓branch_true, ↓branch_false, Nat.reduceBEq, Nat.reduceAdd, Nat.reduceMul, Nat.reduceSub, Int.reduceToNat, reduceCtorEq, branch_decide, branch_not, branch_beq, branch_bne]
  refine sp_call (isNaN_pu x) rfl [] rfl (by simp only [push_cast, ↓branch_true, ↓branch_false, Nat.reduceBEq, Nat.reduceAdd, Nat.reduceMul, Nat.reduceSub, Int.reduceToNat, reduceCtorEq, branch_decide, branch_not, branch_beq, branch_bne]) (by simp only [push_cast, ↓branch_true, ↓branch_false, Nat.reduceBEq, Nat.reduceAdd, Nat.reduceMul, Nat.reduceSub, Int.reduceToNat, reduceCtorEq, branch_decide, branch_not, branch_beq, branch_bne]) ?_
  simp only [push_cast, ↓branch_true, ↓branch_false, Nat.reduceBEq, Nat.reduceAdd, Nat.reduceMul, Nat.reduceSub, Int.reduceToNat, reduceCtorEq, branch_decide, branch_not, branch_beq, branch_bne]
  refine sp_call (isNaN_pu y) rfl [] rfl (by simp only [push_cast, ↓branch_true, ↓branch_false, Nat.reduceBEq, Nat.reduceAdd, Nat.reduceMul, Nat.reduceSub, Int.reduceToNat, reduceCtorEq, branch_decide, branch_not, branch_beq, branch_bne]) (by simp only [push_cast, ↓branch_true, ↓branch_false, Nat.reduceBEq, Nat.reduceAdd, Nat.reduceMul, Nat.reduceSub, Int.reduceToNat, reduceCtorEq, branch_decide, branch_not, branch_beq, branch_bne]) ?_
  simp only [push_cast, ↓branch_true, ↓branch_false, Nat.reduceBEq, Nat.reduceAdd, Nat.reduceMul, Nat.reduceSub, Int.reduceToNat, reduceCtorEq, branch_decide, branch_not, branch_beq, branch_bne]
  refine ⟨fun h => by simp [cmpI, h], fun h => ⟨fun h2 => by simp [cmpI, h, h2], fun h2 => by simp [cmpI, h, h2]⟩⟩
theorem cmpI_neg (x y : Int) : cmpI x y < 0 ↔ x < y := by
  unfold cmpI
  split
  · simp [*]
  · split <;> simp <;> omega
/-- A variable that holds jobs. -/
def rBoxJ (j : Nat) (n c : Nat) : Ob := ⟨22, true, .st [.s j 0 0 n c 3]⟩
attribute [push_cast] rBoxJ
theorem cut_pu (l : List Jb) (c : Nat) (x y : Int) (hx : 0 ≤ x ∧ x < l.length) (hy : 0 ≤ y ∧ y < l.length) : Pu Try.prog 40 [.v (.int .i64 x), .v (.int .i64 y), .p 0 0 0] [rBoxJ 1 l.length c, rJb l] (.v (.int .i64 (cmpI (ix l x.toNat).cut (ix l y.toNat).cut))) := by
  refine pu_of_ex true [] mixed Try.call40 Try.func40 rfl Try.ntmps40 Try.results40 (by decide +kernel) rfl rfl rfl ?_
  simp only [push_cast, ↓branch_true, ↓branch_false, Nat.reduceBEq, Nat.reduceAdd, Nat.reduceMul, Nat.reduceSub, Int.reduceToNat, reduceCtorEq, branch_decide, branch_not, branch_beq, branch_bne]
  repeat (with_reducible refine And.intro (by omega) ?_)
  refine qc_call (cmpI_pu (ix l x.toNat).cut (ix l y.toNat).cut) rfl [] rfl (by simp only [push_cast, ↓branch_true, ↓branch_false, Nat.reduceBEq, Nat.reduceAdd, Nat.reduceMul, Nat.reduceSub, Int.reduceToNat, reduceCtorEq, branch_decide, branch_not, branch_beq, branch_bne]) (by simp only [push_cast, ↓branch_true, ↓branch_false, Nat.reduceBEq, Nat.reduceAdd, Nat.reduceMul, Nat.reduceSub, Int.reduceToNat, reduceCtorEq, branch_decide, branch_not, branch_beq, branch_bne]) ?_
  simp only [push_cast, ↓branch_true, ↓branch_false, Nat.reduceBEq, Nat.reduceAdd, Nat.reduceMul, Nat.reduceSub, Int.reduceToNat, reduceCtorEq, branch_decide, branch_not, branch_beq, branch_bne]
theorem bend_pu (l : List Jb) (c : Nat) (x y : Int) (hx : 0 ≤ x ∧ x < l.length) (hy : 0 ≤ y ∧ y < l.length) : Pu Try.prog 41 [.v (.int .i64 x), .v (.int .i64 y), .p 0 0 0] [rBoxJ 1 l.length c, rJb l] (.v (.int .i64 (cmpI (ix l y.toNat).bend (ix l x.toNat).bend))) := by
  refine pu_of_ex true [] mixed Try.call41 Try.func41 rfl Try.ntmps41 Try.results41 (by decide +kernel) rfl rfl rfl ?_
  simp only [push_cast, ↓branch_true, ↓branch_false, Nat.reduceBEq, Nat.reduceAdd, Nat.reduceMul, Nat.reduceSub, Int.reduceToNat, reduceCtorEq, branch_decide, branch_not, branch_beq, branch_bne]
  repeat (with_reducible refine And.intro (by omega) ?_)
  refine qc_call (cmpI_pu (ix l y.toNat).bend (ix l x.toNat).bend) rfl [] rfl (by simp only [push_cast, ↓branch_true, ↓branch_false, Nat.reduceBEq, Nat.reduceAdd, Nat.reduceMul, Nat.reduceSub, Int.reduceToNat, reduceCtorEq, branch_decide, branch_not, branch_beq, branch_bne]) (by simp only [push_cast, ↓branch_true, ↓branch_false, Nat.reduceBEq, Nat.reduceAdd, Nat.reduceMul, Nat.reduceSub, Int.reduceToNat, reduceCtorEq, branch_decide, branch_not, branch_beq, branch_bne]) ?_
  simp only [push_cast, ↓branch_true, ↓branch_false, Nat.reduceBEq, Nat.reduceAdd, Nat.reduceMul, Nat.reduceSub, Int.reduceToNat, reduceCtorEq, branch_decide, branch_not, branch_beq, branch_bne]
def VJ (l : List Jb) (x : Int) : Prop := 0 ≤ x ∧ x < l.length
theorem cut_cmp (l : List Jb) (c n cap : Nat) : Cmp 40 [] [.p 1 0 0] n cap [rBoxJ 2 l.length c, rJb l] (VJ l) (fun x y => cmpI (ix l x.toNat).cut (ix l y.toNat).cut) := fun f x y hx hy =>
  pu_at (cut_pu l c x y hx hy) rfl [1, 2] rfl (by (simp only [push_cast, ↓branch_true, ↓branch_false, Nat.reduceBEq, Nat.reduceAdd, Nat.reduceMul, Nat.reduceSub, Int.reduceToNat, reduceCtorEq, branch_decide, branch_not, branch_beq, branch_bne])) (by (simp only [push_cast, ↓branch_true, ↓branch_false, Nat.reduceBEq, Nat.reduceAdd, Nat.reduceMul, Nat.reduceSub, Int.reduceToNat, reduceCtorEq, branch_decide, branch_not, branch_beq, branch_bne]))
theorem bend_cmp (l : List Jb) (c n cap : Nat) : Cmp 41 [] [.p 1 0 0] n cap [rBoxJ 2 l.length c, rJb l] (VJ l) (fun x y => cmpI (ix l y.toNat).bend (ix l x.toNat).bend) := fun f x y hx hy =>
  pu_at (bend_pu l c x y hx hy) rfl [1, 2] rfl (by (simp only [push_cast, ↓branch_true, ↓branch_false, Nat.reduceBEq, Nat.reduceAdd, Nat.reduceMul, Nat.reduceSub, Int.reduceToNat, reduceCtorEq, branch_decide, branch_not, branch_beq, branch_bne])) (by (simp only [push_cast, ↓branch_true, ↓branch_false, Nat.reduceBEq, Nat.reduceAdd, Nat.reduceMul, Nat.reduceSub, Int.reduceToNat, reduceCtorEq, branch_decide, branch_not, branch_beq, branch_bne]))
def K1 (l : List Jb) (x : Int) : Int := (ix l x.toNat).cut * 100 + x
def K2 (l : List Jb) (x : Int) : Int := -(ix l x.toNat).bend * 100 + x
theorem kn1 {l : List Jb} (h : l.length ≤ 100) : Kn (VJ l) (fun y x => y < x) (fun x y => cmpI (ix l x.toNat).cut (ix l y.toNat).cut) (K1 l) := ⟨fun x y hx hy hO => by
  obtain ⟨x1, x2⟩ := hx
  obtain ⟨y1, y2⟩ := hy
  simp only [cmpI_neg, K1]
  omega⟩
theorem kn2 {l : List Jb} (h : l.length ≤ 100) : Kn (VJ l) (fun y x => y < x) (fun x y => cmpI (ix l y.toNat).bend (ix l x.toNat).bend) (K2 l) := ⟨fun x y hx hy hO => by
  obtain ⟨x1, x2⟩ := hx
  obtain ⟨y1, y2⟩ := hy
  simp only [cmpI_neg, K2]
  omega⟩
/-- The jobs of one kind, in the order of the list. -/
def picks (l : List Jb) (b : Bool) (n : Nat) : List Int := ((List.range n).filter fun i => decide ((ix l i).cut ≤ (ix l i).bend) == b).map fun (i : Nat) => (i : Int)
theorem picks_succ (l : List Jb) (b : Bool) (n : Nat) : picks l b (n + 1) = if decide ((ix l n).cut ≤ (ix l n).bend) == b then picks l b n ++ [(n : Int)] else picks l b n := by
  simp only [picks, List.range_succ, List.filter_append, List.map_append]
  by_cases h : (decide ((ix l n).cut ≤ (ix l n).bend) == b) = true
  · rw [if_pos h]
    simp [h]
  · rw [if_neg h]
    simp [h]
theorem picks_at {l : List Jb} {b : Bool} {n : Nat} {x : Int} (h : x ∈ picks l b n) : 0 ≤ x ∧ x < n := by
  simp only [picks, List.mem_map, List.mem_filter, List.mem_range] at h
  obtain ⟨i, ⟨h1, h2⟩, rfl⟩ := h
  omega
theorem picks_len (l : List Jb) (b : Bool) (n : Nat) : (picks l b n).length ≤ n := by
  simp only [picks, List.length_map]
  have := List.length_filter_le (fun i => decide ((ix l i).cut ≤ (ix l i).bend) == b) (List.range n)
  simpa using this
theorem picks_up (l : List Jb) (b : Bool) (n : Nat) : (picks l b n).Pairwise fun x y => x < y := by
  simp only [picks, List.pairwise_map]
  refine List.Pairwise.filter _ ?_
  refine List.Pairwise.imp ?_ List.pairwise_lt_range
  intro a b h
  omega
/-- Johnson's order. -/
def johnE (l : List Jb) : List Int := sortK (K1 l) (picks l true l.length) ++ sortK (K2 l) (picks l false l.length)
end Go.Proofs.Ytgbldceimdjblaa
