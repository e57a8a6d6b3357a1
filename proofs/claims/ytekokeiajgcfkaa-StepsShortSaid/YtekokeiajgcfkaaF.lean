/- Contracts: Add, Least, Below. -/
import Derived.Test.YtekokeiajgcfkaaE
set_option maxRecDepth 100000
set_option linter.unusedSimpArgs false
set_option linter.unusedVariables false
namespace Go.Proofs.Ytekokeiajgcfkaa
open Go.RowKit
def addF (x y : Int) : Int := x + y
def minF (x y : Int) : Int := min x y
theorem add1_pu (x y : Int) (h1 : 0 ≤ x) (h2 : x ≤ 1099511627776) (h3 : 0 ≤ y) (h4 : y ≤ 1099511627776) : Pu Try.prog 40 [.v (.int .i64 x), .v (.int .i64 y)] [] (.v (.int .i64 (addF x y))) := by
  refine pu_of_ex true [] mixed Try.call40 Try.func40 rfl Try.ntmps40 Try.results40 (by decide +kernel) rfl rfl rfl ?_
  simp only [push_cast, ↓branch_true, ↓branch_false, Nat.reduceBEq, Nat.reduceAdd, Nat.reduceMul, Nat.reduceSub, Int.reduceToNat, reduceCtorEq, branch_decide, branch_not, branch_beq, branch_bne]
  exact ⟨⟨by omega, by omega⟩, rfl⟩
theorem least1_pu (x y : Int) : Pu Try.prog 41 [.v (.int .i64 x), .v (.int .i64 y)] [] (.v (.int .i64 (minF x y))) := by
  refine pu_of_ex true [] mixed Try.call41 Try.func41 rfl Try.ntmps41 Try.results41 (by decide +kernel) rfl rfl rfl ?_
  simp only [push_cast, ↓branch_true, ↓branch_false, Nat.reduceBEq, Nat.reduceAdd, Nat.reduceMul, Nat.reduceSub, Int.reduceToNat, reduceCtorEq, branch_decide, branch_not, branch_beq, branch_bne]
  rfl
theorem add_sp (a b : List Stp) (c d : Nat) (hla : a.length ≤ 250) (hlb : b.length ≤ 250) : Sp Try.prog 13 [.s 0 0 0 a.length c 2, .s 1 0 0 b.length d 2] [rSt a, rSt b] (fun r H => ∃ cap, (joinR addF a b).length ≤ cap ∧ r = .t [.s 2 0 0 (joinR addF a b).length cap 2, .v (.int .i64 (joinE addF a b))] ∧ H = [rSt a, rSt b, rSO (joinR addF a b) cap]) := by
  refine sp_weak ?_
  refine sp_of_ex true [] mixed Try.call13 Try.func13 rfl Try.ntmps13 Try.results13 (by decide +kernel) rfl ?_
  simp only [push_cast, ↓branch_true, ↓branch_false, Nat.reduceBEq, Nat.reduceAdd, Nat.reduceMul, Nat.reduceSub, Int.reduceToNat, reduceCtorEq, branch_decide, branch_not, branch_beq, branch_bne]
  refine sp_at (joined_sp addF a b c d 40 hla hlb fun x y h1 h2 h3 h4 => add1_pu x y h1 h2 h3 h4) [0, 1] rfl ?_ ?_ ?_
  · simp only [push_cast, ↓branch_true, ↓branch_false, Nat.reduceBEq, Nat.reduceAdd, Nat.reduceMul, Nat.reduceSub, Int.reduceToNat, reduceCtorEq, branch_decide, branch_not, branch_beq, branch_bne]
  · simp only [push_cast, ↓branch_true, ↓branch_false, Nat.reduceBEq, Nat.reduceAdd, Nat.reduceMul, Nat.reduceSub, Int.reduceToNat, reduceCtorEq, branch_decide, branch_not, branch_beq, branch_bne]
  rintro _ _ ⟨cap, hcap, rfl, rfl⟩
  simp only [push_cast, ↓branch_true, ↓branch_false, Nat.reduceBEq, Nat.reduceAdd, Nat.reduceMul, Nat.reduceSub, Int.reduceToNat, reduceCtorEq, branch_decide, branch_not, branch_beq, branch_bne]
  refine ⟨_, _, [0, 1, 2], ?_, by kernel_rfl, ?_, cap, hcap, rfl, rfl⟩
  · simp only [push_cast, ↓branch_true, ↓branch_false, Nat.reduceBEq, Nat.reduceAdd, Nat.reduceMul, Nat.reduceSub, Int.reduceToNat, reduceCtorEq, branch_decide, branch_not, branch_beq, branch_bne]
  · simp only [push_cast, ↓branch_true, ↓branch_false, Nat.reduceBEq, Nat.reduceAdd, Nat.reduceMul, Nat.reduceSub, Int.reduceToNat, reduceCtorEq, branch_decide, branch_not, branch_beq, branch_bne]
theorem least_sp (a b : List Stp) (c d : Nat) (hla : a.length ≤ 250) (hlb : b.length ≤ 250) : Sp Try.prog 14 [.s 0 0 0 a.length c 2, .s 1 0 0 b.length d 2] [rSt a, rSt b] (fun r H => ∃ cap, (joinR minF a b).length ≤ cap ∧ r = .t [.s 2 0 0 (joinR minF a b).length cap 2, .v (.int .i64 (joinE minF a b))] ∧ H = [rSt a, rSt b, rSO (joinR minF a b) cap]) := by
  refine sp_weak ?_
  refine sp_of_ex true [] mixed Try.call14 Try.func14 rfl Try.ntmps14 Try.results14 (by decide +kernel) rfl ?_
  simp only [push_cast, ↓branch_true, ↓branch_false, Nat.reduceBEq, Nat.reduceAdd, Nat.reduceMul, Nat.reduceSub, Int.reduceToNat, reduceCtorEq, branch_decide, branch_not, branch_beq, branch_bne]
  refine sp_at (joined_sp minF a b c d 41 hla hlb fun x y h1 h2 h3 h4 => least1_pu x y) [0, 1] rfl ?_ ?_ ?_
  · simp only [push_cast, ↓branch_true, ↓branch_false, Nat.reduceBEq, Nat.reduceAdd, Nat.reduceMul, Nat.reduceSub, Int.reduceToNat, reduceCtorEq, branch_decide, branch_not, branch_beq, branch_bne]
  · simp only [push_cast, ↓branch_true, ↓branch_false, Nat.reduceBEq, Nat.reduceAdd, Nat.reduceMul, Nat.reduceSub, Int.reduceToNat, reduceCtorEq, branch_decide, branch_not, branch_beq, branch_bne]
  rintro _ _ ⟨cap, hcap, rfl, rfl⟩
  simp only [push_cast, ↓branch_true, ↓branch_false, Nat.reduceBEq, Nat.reduceAdd, Nat.reduceMul, Nat.reduceSub, Int.reduceToNat, reduceCtorEq, branch_decide, branch_not, branch_beq, branch_bne]
  refine ⟨_, _, [0, 1, 2], ?_, by kernel_rfl, ?_, cap, hcap, rfl, rfl⟩
  · simp only [push_cast, ↓branch_true, ↓branch_false, Nat.reduceBEq, Nat.reduceAdd, Nat.reduceMul, Nat.reduceSub, Int.reduceToNat, reduceCtorEq, branch_decide, branch_not, branch_beq, branch_bne]
  · simp only [push_cast, ↓branch_true, ↓branch_false, Nat.reduceBEq, Nat.reduceAdd, Nat.reduceMul, Nat.reduceSub, Int.reduceToNat, reduceCtorEq, branch_decide, branch_not, branch_beq, branch_bne]
/-- Below's answer. -/
def lowB (a b : List Stp) (lo hi x : Int) : Bool := decide (lo < x) && (decide (x ≤ hi) && decide (atL a x < atL b x))
def rngB (lo hi : Int) : Bool := placeB lo && (placeB hi && decide (lo ≤ hi))
def belR (a b : List Stp) (lo hi : Int) : Int × Int :=
  if (validB a && validB b) = false then (0, 1) else if rngB lo hi = false then (0, 2) else if atL a lo < atL b lo then (lo, 0) else
  match (brk a b).find? (lowB a b lo hi) with
  | some x => (x, 0)
  | none => (0, 12)
theorem rnd_ret {N : Nat} {σ : Sl} {H : List Ob} {KN KR : List Ob → Prop} (rl : List Nat) (H' : List Ob) (hk : (keepB 0 rl N && nodupB (liveL rl H') && Nat.beq rl.length H'.length) = true) (ho : obsM rl H rl H') (hn : KR H') : rndK N KN KR .ret σ H :=
  ⟨H', wk_mt rl hk ho fun _ _ _ d => by simp only [look, Ok], hn⟩
theorem below_sp (a b : List Stp) (lo hi : Int) (c d : Nat) (hla : a.length ≤ 250) (hlb : b.length ≤ 250) :
    Sp Try.prog 19 [.s 0 0 0 a.length c 2, .s 1 0 0 b.length d 2, .v (.int .i64 lo), .v (.int .i64 hi)] [rSt a, rSt b] (fun r H => r = .t [.v (.int .i64 (belR a b lo hi).1), .v (.int .i64 (belR a b lo hi).2)] ∧ H = [rSt a, rSt b]) := by
  refine sp_weak ?_
  refine sp_of_ex true [] mixed Try.call19 Try.func19 rfl Try.ntmps19 Try.results19 (by decide +kernel) rfl ?_
  simp only [push_cast, ↓branch_true, ↓branch_false, Nat.reduceBEq, Nat.reduceAdd, Nat.reduceMul, Nat.reduceSub, Int.reduceToNat, reduceCtorEq, branch_decide, branch_not, branch_beq, branch_bne]
  refine sp_call (valid_pu a c (by omega)) rfl [0] rfl (by simp only [push_cast, ↓branch_true, ↓branch_false, Nat.reduceBEq, Nat.reduceAdd, Nat.reduceMul, Nat.reduceSub, Int.reduceToNat, reduceCtorEq, branch_decide, branch_not, branch_beq, branch_bne]) (by simp only [push_cast, ↓branch_true, ↓branch_false, Nat.reduceBEq, Nat.reduceAdd, Nat.reduceMul, Nat.reduceSub, Int.reduceToNat, reduceCtorEq, branch_decide, branch_not, branch_beq, branch_bne]) ?_
  simp only [push_cast, ↓branch_true, ↓branch_false, Nat.reduceBEq, Nat.reduceAdd, Nat.reduceMul, Nat.reduceSub, Int.reduceToNat, reduceCtorEq, branch_decide, branch_not, branch_beq, branch_bne]
  cases hva : validB a with
  | false =>
    simp only [push_cast, ↓branch_true, ↓branch_false, Nat.reduceBEq, Nat.reduceAdd, Nat.reduceMul, Nat.reduceSub, Int.reduceToNat, reduceCtorEq, branch_decide, branch_not, branch_beq, branch_bne]
    have he : belR a b lo hi = (0, 1) := by simp [belR, hva]
    rw [he]
    refine ⟨_, _, [0, 1], ?_, by kernel_rfl, ?_, rfl, rfl⟩ <;> (simp only [push_cast, ↓branch_true, ↓branch_false, Nat.reduceBEq, Nat.reduceAdd, Nat.reduceMul, Nat.reduceSub, Int.reduceToNat, reduceCtorEq, branch_decide, branch_not, branch_beq, branch_bne])
  | true =>
  simp only [push_cast, ↓branch_true, ↓branch_false, Nat.reduceBEq, Nat.reduceAdd, Nat.reduceMul, Nat.reduceSub, Int.reduceToNat, reduceCtorEq, branch_decide, branch_not, branch_beq, branch_bne]
  refine sp_call (valid_pu b d (by omega)) rfl [1] rfl (by simp only [push_cast, ↓branch_true, ↓branch_false, Nat.reduceBEq, Nat.reduceAdd, Nat.reduceMul, Nat.reduceSub, Int.reduceToNat, reduceCtorEq, branch_decide, branch_not, branch_beq, branch_bne]) (by simp only [push_cast, ↓branch_true, ↓branch_false, Nat.reduceBEq, Nat.reduceAdd, Nat.reduceMul, Nat.reduceSub, Int.reduceToNat, reduceCtorEq, branch_decide, branch_not, branch_beq, branch_bne]) ?_
  simp only [push_cast, ↓branch_true, ↓branch_false, Nat.reduceBEq, Nat.reduceAdd, Nat.reduceMul, Nat.reduceSub, Int.reduceToNat, reduceCtorEq, branch_decide, branch_not, branch_beq, branch_bne]
  cases hvb : validB b with
  | false =>
    simp only [push_cast, ↓branch_true, ↓branch_false, Nat.reduceBEq, Nat.reduceAdd, Nat.reduceMul, Nat.reduceSub, Int.reduceToNat, reduceCtorEq, branch_decide, branch_not, branch_beq, branch_bne]
    have he : belR a b lo hi = (0, 1) := by simp [belR, hvb]
    rw [he]
    refine ⟨_, _, [0, 1], ?_, by kernel_rfl, ?_, rfl, rfl⟩ <;> (simp only [push_cast, ↓branch_true, ↓branch_false, Nat.reduceBEq, Nat.reduceAdd, Nat.reduceMul, Nat.reduceSub, Int.reduceToNat, reduceCtorEq, branch_decide, branch_not, branch_beq, branch_bne])
  | true =>
  have ha200 := (valid_yes.1 hva).1
  have hb200 := (valid_yes.1 hvb).1
  have haa := asc_of (valid_yes.1 hva).2
  have hab := asc_of (valid_yes.1 hvb).2
  simp only [push_cast, ↓branch_true, ↓branch_false, Nat.reduceBEq, Nat.reduceAdd, Nat.reduceMul, Nat.reduceSub, Int.reduceToNat, reduceCtorEq, branch_decide, branch_not, branch_beq, branch_bne]
  have bad : rngB lo hi = false → belR a b lo hi = (0, 2) := fun h => by simp [belR, hva, hvb, h]
  refine sp_call (place_pu lo) rfl [] rfl (by simp only [push_cast, ↓branch_true, ↓branch_false, Nat.reduceBEq, Nat.reduceAdd, Nat.reduceMul, Nat.reduceSub, Int.reduceToNat, reduceCtorEq, branch_decide, branch_not, branch_beq, branch_bne]) (by simp only [push_cast, ↓branch_true, ↓branch_false, Nat.reduceBEq, Nat.reduceAdd, Nat.reduceMul, Nat.reduceSub, Int.reduceToNat, reduceCtorEq, branch_decide, branch_not, branch_beq, branch_bne]) ?_
  simp only [push_cast, ↓branch_true, ↓branch_false, Nat.reduceBEq, Nat.reduceAdd, Nat.reduceMul, Nat.reduceSub, Int.reduceToNat, reduceCtorEq, branch_decide, branch_not, branch_beq, branch_bne]
  cases hp1 : placeB lo with
  | false =>
    simp only [push_cast, ↓branch_true, ↓branch_false, Nat.reduceBEq, Nat.reduceAdd, Nat.reduceMul, Nat.reduceSub, Int.reduceToNat, reduceCtorEq, branch_decide, branch_not, branch_beq, branch_bne]
    rw [bad (by simp [rngB, hp1])]
    refine ⟨_, _, [0, 1], ?_, by kernel_rfl, ?_, rfl, rfl⟩ <;> (simp only [push_cast, ↓branch_true, ↓branch_false, Nat.reduceBEq, Nat.reduceAdd, Nat.reduceMul, Nat.reduceSub, Int.reduceToNat, reduceCtorEq, branch_decide, branch_not, branch_beq, branch_bne])
  | true =>
  simp only [push_cast, ↓branch_true, ↓branch_false, Nat.reduceBEq, Nat.reduceAdd, Nat.reduceMul, Nat.reduceSub, Int.reduceToNat, reduceCtorEq, branch_decide, branch_not, branch_beq, branch_bne]
  refine sp_call (place_pu hi) rfl [] rfl (by simp only [push_cast, ↓branch_true, ↓branch_false, Nat.reduceBEq, Nat.reduceAdd, Nat.reduceMul, Nat.reduceSub, Int.reduceToNat, reduceCtorEq, branch_decide, branch_not, branch_beq, branch_bne]) (by simp only [push_cast, ↓branch_true, ↓branch_false, Nat.reduceBEq, Nat.reduceAdd, Nat.reduceMul, Nat.reduceSub, Int.reduceToNat, reduceCtorEq, branch_decide, branch_not, branch_beq, branch_bne]) ?_
  simp only [push_cast, ↓branch_true, ↓branch_false, Nat.reduceBEq, Nat.reduceAdd, Nat.reduceMul, Nat.reduceSub, Int.reduceToNat, reduceCtorEq, branch_decide, branch_not, branch_beq, branch_bne]
  cases hp2 : placeB hi with
  | false =>
    simp only [push_cast, ↓branch_true, ↓branch_false, Nat.reduceBEq, Nat.reduceAdd, Nat.reduceMul, Nat.reduceSub, Int.reduceToNat, reduceCtorEq, branch_decide, branch_not, branch_beq, branch_bne]
    rw [bad (by simp [rngB, hp2])]
    refine ⟨_, _, [0, 1], ?_, by kernel_rfl, ?_, rfl, rfl⟩ <;> (simp only [push_cast, ↓branch_true, ↓branch_false, Nat.reduceBEq, Nat.reduceAdd, Nat.reduceMul, Nat.reduceSub, Int.reduceToNat, reduceCtorEq, branch_decide, branch_not, branch_beq, branch_bne])
  | true =>
  simp only [push_cast, ↓branch_true, ↓branch_false, Nat.reduceBEq, Nat.reduceAdd, Nat.reduceMul, Nat.reduceSub, Int.reduceToNat, reduceCtorEq, branch_decide, branch_not, branch_beq, branch_bne]
  refine ⟨fun h1 => ?_, fun h1 => ?_⟩
  · rw [bad (by simp [rngB]; omega)]
    refine ⟨_, _, [0, 1], ?_, by kernel_rfl, ?_, rfl, rfl⟩ <;> (simp only [push_cast, ↓branch_true, ↓branch_false, Nat.reduceBEq, Nat.reduceAdd, Nat.reduceMul, Nat.reduceSub, Int.reduceToNat, reduceCtorEq, branch_decide, branch_not, branch_beq, branch_bne])
  have hr : rngB lo hi = true := by
    simp [rngB, hp1, hp2]
    omega
  refine qc_call (at_pu a lo c (by omega) haa) rfl [0] rfl (by simp only [push_cast, ↓branch_true, ↓branch_false, Nat.reduceBEq, Nat.reduceAdd, Nat.reduceMul, Nat.reduceSub, Int.reduceToNat, reduceCtorEq, branch_decide, branch_not, branch_beq, branch_bne]) (by simp only [push_cast, ↓branch_true, ↓branch_false, Nat.reduceBEq, Nat.reduceAdd, Nat.reduceMul, Nat.reduceSub, Int.reduceToNat, reduceCtorEq, branch_decide, branch_not, branch_beq, branch_bne]) ?_
  simp only [push_cast, ↓branch_true, ↓branch_false, Nat.reduceBEq, Nat.reduceAdd, Nat.reduceMul, Nat.reduceSub, Int.reduceToNat, reduceCtorEq, branch_decide, branch_not, branch_beq, branch_bne]
  refine qc_call (at_pu b lo d (by omega) hab) rfl [1] rfl (by simp only [push_cast, ↓branch_true, ↓branch_false, Nat.reduceBEq, Nat.reduceAdd, Nat.reduceMul, Nat.reduceSub, Int.reduceToNat, reduceCtorEq, branch_decide, branch_not, branch_beq, branch_bne]) (by simp only [push_cast, ↓branch_true, ↓branch_false, Nat.reduceBEq, Nat.reduceAdd, Nat.reduceMul, Nat.reduceSub, Int.reduceToNat, reduceCtorEq, branch_decide, branch_not, branch_beq, branch_bne]) ?_
  simp only [push_cast, ↓branch_true, ↓branch_false, Nat.reduceBEq, Nat.reduceAdd, Nat.reduceMul, Nat.reduceSub, Int.reduceToNat, reduceCtorEq, branch_decide, branch_not, branch_beq, branch_bne]
  refine ⟨fun h2 => ?_, fun h2 => ?_⟩
  · have he : belR a b lo hi = (lo, 0) := by simp [belR, hva, hvb, hr, h2]
    rw [he]
    refine ⟨_, _, [0, 1], ?_, by kernel_rfl, ?_, rfl, rfl⟩ <;> (simp only [push_cast, ↓branch_true, ↓branch_false, Nat.reduceBEq, Nat.reduceAdd, Nat.reduceMul, Nat.reduceSub, Int.reduceToNat, reduceCtorEq, branch_decide, branch_not, branch_beq, branch_bne])
  refine sp_at (breaks_sp a b c d) [0, 1] rfl ?_ ?_ ?_
  · simp only [push_cast, ↓branch_true, ↓branch_false, Nat.reduceBEq, Nat.reduceAdd, Nat.reduceMul, Nat.reduceSub, Int.reduceToNat, reduceCtorEq, branch_decide, branch_not, branch_beq, branch_bne]
  · simp only [push_cast, ↓branch_true, ↓branch_false, Nat.reduceBEq, Nat.reduceAdd, Nat.reduceMul, Nat.reduceSub, Int.reduceToNat, reduceCtorEq, branch_decide, branch_not, branch_beq, branch_bne]
  rintro _ _ ⟨rfl, rfl⟩
  simp only [push_cast, ↓branch_true, ↓branch_false, Nat.reduceBEq, Nat.reduceAdd, Nat.reduceMul, Nat.reduceSub, Int.reduceToNat, reduceCtorEq, branch_decide, branch_not, branch_beq, branch_bne]
  have hbel : belR a b lo hi = match (brk a b).find? (lowB a b lo hi) with
      | some x => (x, 0)
      | none => (0, 12) := by simp [belR, hva, hvb, hr, h2]
  refine tr_mt (σ' := [(44, .f (.func 59) [] [.p 2 0 0, .p 3 0 0]), (4, .p 4 0 0), (5, .p 5 0 0), (6, .p 6 0 0), (7, .p 7 0 0), (8, .p 8 0 0), (9, .p 9 0 0)]) (H' := brO a b ⟨0, a.length, c, 0, b.length, d⟩ ++ [bxS 0 0 a.length c, bxS 1 0 b.length d, ⟨3, false, .st [.v (.int .i64 lo)]⟩, ⟨3, false, .st [.v (.int .i64 hi)]⟩, ⟨3, false, .st [.v (.int .i64 0)]⟩, ⟨25, false, .st [.v (.int .i64 0)]⟩]) [0, 1, 8, 9, 2, 3, 4, 5, 6, 7] ⟨by kernel_rfl, ?_, ?_⟩ ?_
  · simp only [push_cast, ↓branch_true, ↓branch_false, Nat.reduceBEq, Nat.reduceAdd, Nat.reduceMul, Nat.reduceSub, Int.reduceToNat, reduceCtorEq, branch_decide, branch_not, branch_beq, branch_bne]
  · simp only [push_cast, ↓branch_true, ↓branch_false, Nat.reduceBEq, Nat.reduceAdd, Nat.reduceMul, Nat.reduceSub, Int.reduceToNat, reduceCtorEq, branch_decide, branch_not, branch_beq, branch_bne, brO, List.cons_append, List.nil_append]
  refine tr_range 10 (fun dd T => ∃ (D : List Int), dd = D.map (Value.int .i64) ∧ (∀ y ∈ D, lowB a b lo hi y = false) ∧ T = [bxS 0 0 a.length c, bxS 1 0 b.length d, ⟨3, false, .st [.v (.int .i64 lo)]⟩, ⟨3, false, .st [.v (.int .i64 hi)]⟩, ⟨3, false, .st [.v (.int .i64 0)]⟩, ⟨25, false, .st [.v (.int .i64 0)]⟩]) mixed (breaks_it a b c d (by omega) (by omega)) (fun _ _ => rfl) rfl Try.call59 (by decide +kernel) rfl (by simp [brO]) ⟨[], rfl, fun y hy => by simp at hy, rfl⟩ ?_ ?_
  · rintro dd v rest ⟨bi, bp, bc, bj, bq, bd⟩ T hv ⟨D, rfl, hD, rfl⟩
    obtain ⟨x, xs, hx, rfl⟩ := map_split hv
    have go : lowB a b lo hi x = false → ∀ y ∈ D ++ [x], lowB a b lo hi y = false := fun h y hy => by
      rcases List.mem_append.1 hy with h' | h'
      · exact hD y h'
      · rw [List.mem_singleton.1 h']; exact h
    have hit : lowB a b lo hi x = true → belR a b lo hi = (x, 0) := fun h => by
      have : (brk a b).find? (lowB a b lo hi) = some x := by
        rw [hx, List.find?_append, List.find?_eq_none.2 (fun y hy => by simp [hD y hy]), List.find?_cons_of_pos h]
        rfl
      rw [hbel, this]
    simp only [push_cast, ↓branch_true, ↓branch_false, Nat.reduceBEq, Nat.reduceAdd, Nat.reduceMul, Nat.reduceSub, Int.reduceToNat, reduceCtorEq, branch_decide, branch_not, branch_beq, branch_bne, brO, List.cons_append, List.nil_append]
    refine ⟨fun h5 => ⟨fun h6 => ?_, fun h6 => ?_⟩, fun h5 => ?_⟩
    · refine qc_call (at_pu a x c (by omega) haa) rfl [0] rfl (by simp only [push_cast, ↓branch_true, ↓branch_false, Nat.reduceBEq, Nat.reduceAdd, Nat.reduceMul, Nat.reduceSub, Int.reduceToNat, reduceCtorEq, branch_decide, branch_not, branch_beq, branch_bne]) (by simp only [push_cast, ↓branch_true, ↓branch_false, Nat.reduceBEq, Nat.reduceAdd, Nat.reduceMul, Nat.reduceSub, Int.reduceToNat, reduceCtorEq, branch_decide, branch_not, branch_beq, branch_bne]) ?_
      simp only [push_cast, ↓branch_true, ↓branch_false, Nat.reduceBEq, Nat.reduceAdd, Nat.reduceMul, Nat.reduceSub, Int.reduceToNat, reduceCtorEq, branch_decide, branch_not, branch_beq, branch_bne]
      refine qc_call (at_pu b x d (by omega) hab) rfl [1] rfl (by simp only [push_cast, ↓branch_true, ↓branch_false, Nat.reduceBEq, Nat.reduceAdd, Nat.reduceMul, Nat.reduceSub, Int.reduceToNat, reduceCtorEq, branch_decide, branch_not, branch_beq, branch_bne]) (by simp only [push_cast, ↓branch_true, ↓branch_false, Nat.reduceBEq, Nat.reduceAdd, Nat.reduceMul, Nat.reduceSub, Int.reduceToNat, reduceCtorEq, branch_decide, branch_not, branch_beq, branch_bne]) ?_
      simp only [push_cast, ↓branch_true, ↓branch_false, Nat.reduceBEq, Nat.reduceAdd, Nat.reduceMul, Nat.reduceSub, Int.reduceToNat, reduceCtorEq, branch_decide, branch_not, branch_beq, branch_bne]
      refine ⟨fun h7 => ?_, fun h7 => ?_⟩
      · refine rnd_ret [0, 1, 2, 3, 4, 5, 6, 7, 8, 9] (brO a b ⟨bi, bp, bc, bj, bq, bd⟩ ++ [bxS 0 0 a.length c, bxS 1 0 b.length d, ⟨3, false, .st [.v (.int .i64 lo)]⟩, ⟨3, false, .st [.v (.int .i64 hi)]⟩, ⟨3, false, .st [.v (.int .i64 x)]⟩, ⟨25, false, .st [.v (.int .i64 0)]⟩]) (by kernel_rfl) ?_ ?_
        · simp only [push_cast, ↓branch_true, ↓branch_false, Nat.reduceBEq, Nat.reduceAdd, Nat.reduceMul, Nat.reduceSub, Int.reduceToNat, reduceCtorEq, branch_decide, branch_not, branch_beq, branch_bne, brO, List.cons_append, List.nil_append]
        · simp only [push_cast, ↓branch_true, ↓branch_false, Nat.reduceBEq, Nat.reduceAdd, Nat.reduceMul, Nat.reduceSub, Int.reduceToNat, reduceCtorEq, branch_decide, branch_not, branch_beq, branch_bne, brO, List.cons_append, List.nil_append]
          have he := hit (by simp [lowB]; omega)
          simp only [he]
          refine ⟨_, _, [0, 1], ?_, by kernel_rfl, ?_, rfl, rfl⟩ <;> (simp only [push_cast, ↓branch_true, ↓branch_false, Nat.reduceBEq, Nat.reduceAdd, Nat.reduceMul, Nat.reduceSub, Int.reduceToNat, reduceCtorEq, branch_decide, branch_not, branch_beq, branch_bne])
      · refine rnd_next [0, 1, 2, 3, 4, 5, 6, 7, 8, 9] (brO a b ⟨bi, bp, bc, bj, bq, bd⟩ ++ [bxS 0 0 a.length c, bxS 1 0 b.length d, ⟨3, false, .st [.v (.int .i64 lo)]⟩, ⟨3, false, .st [.v (.int .i64 hi)]⟩, ⟨3, false, .st [.v (.int .i64 0)]⟩, ⟨25, false, .st [.v (.int .i64 0)]⟩]) (by kernel_rfl) ?_ ⟨_, rfl, D ++ [x], by simp, go (by simp [lowB]; omega), rfl⟩
        simp only [push_cast, ↓branch_true, ↓branch_false, Nat.reduceBEq, Nat.reduceAdd, Nat.reduceMul, Nat.reduceSub, Int.reduceToNat, reduceCtorEq, branch_decide, branch_not, branch_beq, branch_bne, brO, List.cons_append, List.nil_append]
    · refine rnd_next [0, 1, 2, 3, 4, 5, 6, 7, 8, 9] (brO a b ⟨bi, bp, bc, bj, bq, bd⟩ ++ [bxS 0 0 a.length c, bxS 1 0 b.length d, ⟨3, false, .st [.v (.int .i64 lo)]⟩, ⟨3, false, .st [.v (.int .i64 hi)]⟩, ⟨3, false, .st [.v (.int .i64 0)]⟩, ⟨25, false, .st [.v (.int .i64 0)]⟩]) (by kernel_rfl) ?_ ⟨_, rfl, D ++ [x], by simp, go (by simp [lowB]; omega), rfl⟩
      simp only [push_cast, ↓branch_true, ↓branch_false, Nat.reduceBEq, Nat.reduceAdd, Nat.reduceMul, Nat.reduceSub, Int.reduceToNat, reduceCtorEq, branch_decide, branch_not, branch_beq, branch_bne, brO, List.cons_append, List.nil_append]
    · refine rnd_next [0, 1, 2, 3, 4, 5, 6, 7, 8, 9] (brO a b ⟨bi, bp, bc, bj, bq, bd⟩ ++ [bxS 0 0 a.length c, bxS 1 0 b.length d, ⟨3, false, .st [.v (.int .i64 lo)]⟩, ⟨3, false, .st [.v (.int .i64 hi)]⟩, ⟨3, false, .st [.v (.int .i64 0)]⟩, ⟨25, false, .st [.v (.int .i64 0)]⟩]) (by kernel_rfl) ?_ ⟨_, rfl, D ++ [x], by simp, go (by simp [lowB]; omega), rfl⟩
      simp only [push_cast, ↓branch_true, ↓branch_false, Nat.reduceBEq, Nat.reduceAdd, Nat.reduceMul, Nat.reduceSub, Int.reduceToNat, reduceCtorEq, branch_decide, branch_not, branch_beq, branch_bne, brO, List.cons_append, List.nil_append]
  · rintro ⟨bi, bp, bc, bj, bq, bd⟩ T ⟨D, hv, hD, rfl⟩
    obtain rfl := map_inj64 hv
    simp only [push_cast, ↓branch_true, ↓branch_false, Nat.reduceBEq, Nat.reduceAdd, Nat.reduceMul, Nat.reduceSub, Int.reduceToNat, reduceCtorEq, branch_decide, branch_not, branch_beq, branch_bne, brO, List.cons_append, List.nil_append]
    have : (brk a b).find? (lowB a b lo hi) = none := List.find?_eq_none.2 fun y hy => by simp [hD y hy]
    rw [this] at hbel
    simp only [hbel]
    refine ⟨_, _, [0, 1], ?_, by kernel_rfl, ?_, rfl, rfl⟩ <;> (simp only [push_cast, ↓branch_true, ↓branch_false, Nat.reduceBEq, Nat.reduceAdd, Nat.reduceMul, Nat.reduceSub, Int.reduceToNat, reduceCtorEq, branch_decide, branch_not, branch_beq, branch_bne])
end Go.Proofs.Ytekokeiajgcfkaa
