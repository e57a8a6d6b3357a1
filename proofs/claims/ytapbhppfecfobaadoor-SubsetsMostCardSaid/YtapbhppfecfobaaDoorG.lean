/- Contracts: Find, Zero. -/
import Derived.Test.YtapbhppfecfobaaDoorF
set_option maxRecDepth 100000
set_option linter.unusedSimpArgs false
set_option linter.unusedVariables false
namespace Go.Proofs.YtapbhppfecfobaaDoor
open Go.RowKit
theorem firstT_congr {f g : Nat → Int} {sum least : Int} : ∀ {k : Nat}, (∀ i, i < k → f i = g i) → firstT f sum least k = firstT g sum least k
  | 0, _ => rfl
  | k + 1, h => by
    unfold firstT
    rw [firstT_congr (k := k) fun i hi => h i (by omega), h k (by omega)]
def firstO (l : List Int) (sum least : Int) : Option Nat := firstT (sumS l) sum least (2 ^ l.length)
def findE (l : List Int) (sum least : Int) : Int := if givE l ≠ 0 then givE l else if (firstO l sum least).isSome then 0 else 12
def findL (l : List Int) (sum least : Int) : List Int := if givE l ≠ 0 then [] else match firstO l sum least with
  | none => []
  | some s => bL s
set_option maxHeartbeats 1000000 in
theorem find_sp (l : List Int) (sum least : Int) (c : Nat) (hl : l.length ≤ 9223372036854775807) : Sp Tryd.prog 38 [.s 0 0 0 l.length c 1, .v (.int .i64 sum), .v (.int .i64 least)] [rR l]
    (fun r H => ∃ cap, (findL l sum least).length ≤ cap ∧ r = .t [.s 1 0 0 (findL l sum least).length cap 1, .v (.int .i64 (findE l sum least))] ∧ H = [rR l, rIO (findL l sum least) cap]) := by
  have key : ∀ e σH, σH.length ≤ 900 → findE l sum least = e → findL l sum least = [] → ∃ r H2 rl, mt rl r (.t [.v (.slice none 0 0), .v (.int .i64 e)]) ∧ (keepB 0 rl 1 && nodupB (liveL rl H2) && rl.length.beq H2.length) = true ∧ obsM rl ([rR l] ++ σH) rl H2 ∧ ∃ cap, (findL l sum least).length ≤ cap ∧ r = .t [.s 1 0 0 (findL l sum least).length cap 1, .v (.int .i64 (findE l sum least))] ∧ H2 = [rR l, rIO (findL l sum least) cap] := by
    intro e σH hσ he h0
    rw [h0, he]
    refine ⟨_, _, [0, 1000], ?_, by kernel_rfl, ?_, 0, Nat.le_refl _, rfl, rfl⟩
    · simp only [push_cast, ↓branch_true, ↓branch_false, Nat.reduceBEq, Nat.reduceAdd, Nat.reduceMul, Nat.reduceSub, Int.reduceToNat, reduceCtorEq, branch_decide, branch_not, branch_beq, branch_bne]
    · simp only [push_cast, ↓branch_true, ↓branch_false, Nat.reduceBEq, Nat.reduceAdd, Nat.reduceMul, Nat.reduceSub, Int.reduceToNat, reduceCtorEq, branch_decide, branch_not, branch_beq, branch_bne]
      rw [obAt_out (show σH.length ≤ 999 by omega)]
      simp only [push_cast, ↓branch_true, ↓branch_false, Nat.reduceBEq, Nat.reduceAdd, Nat.reduceMul, Nat.reduceSub, Int.reduceToNat, reduceCtorEq, branch_decide, branch_not, branch_beq, branch_bne]
      omega
  refine sp_weak ?_
  refine sp_of_ex true [] mixed Tryd.call38 Tryd.func38 rfl Tryd.ntmps38 Tryd.results38 (by decide +kernel) rfl ?_
  simp only [push_cast, ↓branch_true, ↓branch_false, Nat.reduceBEq, Nat.reduceAdd, Nat.reduceMul, Nat.reduceSub, Int.reduceToNat, reduceCtorEq, branch_decide, branch_not, branch_beq, branch_bne]
  refine sp_call (given_pu l c hl) rfl [0] rfl (by simp only [push_cast, ↓branch_true, ↓branch_false, Nat.reduceBEq, Nat.reduceAdd, Nat.reduceMul, Nat.reduceSub, Int.reduceToNat, reduceCtorEq, branch_decide, branch_not, branch_beq, branch_bne]) (by simp only [push_cast, ↓branch_true, ↓branch_false, Nat.reduceBEq, Nat.reduceAdd, Nat.reduceMul, Nat.reduceSub, Int.reduceToNat, reduceCtorEq, branch_decide, branch_not, branch_beq, branch_bne]) ?_
  simp only [push_cast, ↓branch_true, ↓branch_false, Nat.reduceBEq, Nat.reduceAdd, Nat.reduceMul, Nat.reduceSub, Int.reduceToNat, reduceCtorEq, branch_decide, branch_not, branch_beq, branch_bne]
  by_cases hg : givE l = 0
  rotate_left
  · refine ⟨fun h => absurd h hg, fun _ => ?_⟩
    exact key (givE l) [] (by simp) (if_pos hg) (if_pos hg)
  refine ⟨fun _ => ?_, fun h => absurd hg h⟩
  obtain ⟨h1, h2⟩ := given_0 hg
  have hN : 2 ^ l.length ≤ 65536 := Nat.pow_le_pow_right (n := 2) (by decide) (i := l.length) (j := 16) h1
  refine sp_at (sums_sp l c h1 h2) [0] rfl ?_ ?_ ?_
  · simp only [push_cast, ↓branch_true, ↓branch_false, Nat.reduceBEq, Nat.reduceAdd, Nat.reduceMul, Nat.reduceSub, Int.reduceToNat, reduceCtorEq, branch_decide, branch_not, branch_beq, branch_bne]
  · simp only [push_cast, ↓branch_true, ↓branch_false, Nat.reduceBEq, Nat.reduceAdd, Nat.reduceMul, Nat.reduceSub, Int.reduceToNat, reduceCtorEq, branch_decide, branch_not, branch_beq, branch_bne]
  rintro _ _ ⟨rfl, rfl⟩
  simp only [push_cast, ↓branch_true, ↓branch_false, Nat.reduceBEq, Nat.reduceAdd, Nat.reduceMul, Nat.reduceSub, Int.reduceToNat, reduceCtorEq, branch_decide, branch_not, branch_beq, branch_bne]
  have hfp := first_pu (allS l (2 ^ l.length)) sum least (2 ^ l.length) (by rw [allS_len]; exact hN)
  rw [allS_len, firstT_congr (g := sumS l) fun i hi => allS_ix l hi] at hfp
  have hfl : ∀ s, firstO l sum least = some s → s < 65536 := fun s hs => Nat.lt_of_lt_of_le (firstT_lt hs) hN
  refine sp_call hfp rfl [1] rfl ?_ ?_ ?_
  · simp only [push_cast, ↓branch_true, ↓branch_false, Nat.reduceBEq, Nat.reduceAdd, Nat.reduceMul, Nat.reduceSub, Int.reduceToNat, reduceCtorEq, branch_decide, branch_not, branch_beq, branch_bne]
  · simp only [push_cast, ↓branch_true, ↓branch_false, Nat.reduceBEq, Nat.reduceAdd, Nat.reduceMul, Nat.reduceSub, Int.reduceToNat, reduceCtorEq, branch_decide, branch_not, branch_beq, branch_bne, allS_len]
    try exact ⟨rfl, fun _ _ => trivial⟩
  rw [show firstT (sumS l) sum least (2 ^ l.length) = firstO l sum least from rfl]
  cases ho : firstO l sum least with
  | none =>
    simp only [push_cast, ↓branch_true, ↓branch_false, Nat.reduceBEq, Nat.reduceAdd, Nat.reduceMul, Nat.reduceSub, Int.reduceToNat, reduceCtorEq, branch_decide, branch_not, branch_beq, branch_bne]
    exact key 12 [_] (by simp) (by rw [findE, if_neg (by simp [hg]), ho]; rfl) (by rw [findL, if_neg (by simp [hg]), ho])
  | some s =>
  have hs := hfl s ho
  simp only [push_cast, ↓branch_true, ↓branch_false, Nat.reduceBEq, Nat.reduceAdd, Nat.reduceMul, Nat.reduceSub, Int.reduceToNat, reduceCtorEq, branch_decide, branch_not, branch_beq, branch_bne]
  refine sp_at (list_sp s hs) [] rfl ?_ ?_ ?_
  · simp only [push_cast, ↓branch_true, ↓branch_false, Nat.reduceBEq, Nat.reduceAdd, Nat.reduceMul, Nat.reduceSub, Int.reduceToNat, reduceCtorEq, branch_decide, branch_not, branch_beq, branch_bne, Option.getD_some]
  · simp only [push_cast, ↓branch_true, ↓branch_false, Nat.reduceBEq, Nat.reduceAdd, Nat.reduceMul, Nat.reduceSub, Int.reduceToNat, reduceCtorEq, branch_decide, branch_not, branch_beq, branch_bne]
  rintro _ _ ⟨cap, hcap, rfl, rfl⟩
  simp only [push_cast, ↓branch_true, ↓branch_false, Nat.reduceBEq, Nat.reduceAdd, Nat.reduceMul, Nat.reduceSub, Int.reduceToNat, reduceCtorEq, branch_decide, branch_not, branch_beq, branch_bne]
  have e1 : findL l sum least = bL s := by rw [findL, if_neg (by simp [hg]), ho]
  have e2 : findE l sum least = 0 := by rw [findE, if_neg (by simp [hg]), ho]; rfl
  rw [e1, e2]
  refine ⟨_, _, [0, 2], ?_, by kernel_rfl, ?_, cap, hcap, rfl, rfl⟩
  · simp only [push_cast, ↓branch_true, ↓branch_false, Nat.reduceBEq, Nat.reduceAdd, Nat.reduceMul, Nat.reduceSub, Int.reduceToNat, reduceCtorEq, branch_decide, branch_not, branch_beq, branch_bne]
  · simp only [push_cast, ↓branch_true, ↓branch_false, Nat.reduceBEq, Nat.reduceAdd, Nat.reduceMul, Nat.reduceSub, Int.reduceToNat, reduceCtorEq, branch_decide, branch_not, branch_beq, branch_bne]
theorem Find_sp (l : List Int) (sum : Int) (c : Nat) (hl : l.length ≤ 9223372036854775807) : Sp Tryd.prog 11 [.s 0 0 0 l.length c 1, .v (.int .i64 sum)] [rR l]
    (fun r H => ∃ cap, (findL l sum 0).length ≤ cap ∧ r = .t [.s 1 0 0 (findL l sum 0).length cap 1, .v (.int .i64 (findE l sum 0))] ∧ H = [rR l, rIO (findL l sum 0) cap]) := by
  refine sp_weak ?_
  refine sp_of_ex true [] mixed Tryd.call11 Tryd.func11 rfl Tryd.ntmps11 Tryd.results11 (by decide +kernel) rfl ?_
  simp only [push_cast, ↓branch_true, ↓branch_false, Nat.reduceBEq, Nat.reduceAdd, Nat.reduceMul, Nat.reduceSub, Int.reduceToNat, reduceCtorEq, branch_decide, branch_not, branch_beq, branch_bne]
  refine sp_at (find_sp l sum 0 c hl) [0] rfl ?_ ?_ ?_
  · simp only [push_cast, ↓branch_true, ↓branch_false, Nat.reduceBEq, Nat.reduceAdd, Nat.reduceMul, Nat.reduceSub, Int.reduceToNat, reduceCtorEq, branch_decide, branch_not, branch_beq, branch_bne]
  · simp only [push_cast, ↓branch_true, ↓branch_false, Nat.reduceBEq, Nat.reduceAdd, Nat.reduceMul, Nat.reduceSub, Int.reduceToNat, reduceCtorEq, branch_decide, branch_not, branch_beq, branch_bne]
  rintro _ _ ⟨cap, hcap, rfl, rfl⟩
  simp only [push_cast, ↓branch_true, ↓branch_false, Nat.reduceBEq, Nat.reduceAdd, Nat.reduceMul, Nat.reduceSub, Int.reduceToNat, reduceCtorEq, branch_decide, branch_not, branch_beq, branch_bne]
  refine ⟨_, _, [0, 1], ?_, by kernel_rfl, ?_, cap, hcap, rfl, rfl⟩
  · simp only [push_cast, ↓branch_true, ↓branch_false, Nat.reduceBEq, Nat.reduceAdd, Nat.reduceMul, Nat.reduceSub, Int.reduceToNat, reduceCtorEq, branch_decide, branch_not, branch_beq, branch_bne]
  · simp only [push_cast, ↓branch_true, ↓branch_false, Nat.reduceBEq, Nat.reduceAdd, Nat.reduceMul, Nat.reduceSub, Int.reduceToNat, reduceCtorEq, branch_decide, branch_not, branch_beq, branch_bne]
theorem Zero_sp (l : List Int) (c : Nat) (hl : l.length ≤ 9223372036854775807) : Sp Tryd.prog 12 [.s 0 0 0 l.length c 1] [rR l]
    (fun r H => ∃ cap, (findL l 0 1).length ≤ cap ∧ r = .t [.s 1 0 0 (findL l 0 1).length cap 1, .v (.int .i64 (findE l 0 1))] ∧ H = [rR l, rIO (findL l 0 1) cap]) := by
  refine sp_weak ?_
  refine sp_of_ex true [] mixed Tryd.call12 Tryd.func12 rfl Tryd.ntmps12 Tryd.results12 (by decide +kernel) rfl ?_
  simp only [push_cast, ↓branch_true, ↓branch_false, Nat.reduceBEq, Nat.reduceAdd, Nat.reduceMul, Nat.reduceSub, Int.reduceToNat, reduceCtorEq, branch_decide, branch_not, branch_beq, branch_bne]
  refine sp_at (find_sp l 0 1 c hl) [0] rfl ?_ ?_ ?_
  · simp only [push_cast, ↓branch_true, ↓branch_false, Nat.reduceBEq, Nat.reduceAdd, Nat.reduceMul, Nat.reduceSub, Int.reduceToNat, reduceCtorEq, branch_decide, branch_not, branch_beq, branch_bne]
  · simp only [push_cast, ↓branch_true, ↓branch_false, Nat.reduceBEq, Nat.reduceAdd, Nat.reduceMul, Nat.reduceSub, Int.reduceToNat, reduceCtorEq, branch_decide, branch_not, branch_beq, branch_bne]
  rintro _ _ ⟨cap, hcap, rfl, rfl⟩
  simp only [push_cast, ↓branch_true, ↓branch_false, Nat.reduceBEq, Nat.reduceAdd, Nat.reduceMul, Nat.reduceSub, Int.reduceToNat, reduceCtorEq, branch_decide, branch_not, branch_beq, branch_bne]
  refine ⟨_, _, [0, 1], ?_, by kernel_rfl, ?_, cap, hcap, rfl, rfl⟩
  · simp only [push_cast, ↓branch_true, ↓branch_false, Nat.reduceBEq, Nat.reduceAdd, Nat.reduceMul, Nat.reduceSub, Int.reduceToNat, reduceCtorEq, branch_decide, branch_not, branch_beq, branch_bne]
  · simp only [push_cast, ↓branch_true, ↓branch_false, Nat.reduceBEq, Nat.reduceAdd, Nat.reduceMul, Nat.reduceSub, Int.reduceToNat, reduceCtorEq, branch_decide, branch_not, branch_beq, branch_bne]
end Go.Proofs.YtapbhppfecfobaaDoor
