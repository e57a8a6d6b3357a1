/- Contracts: IndexFunc of ints, Best. -/
import Derived.Test.YtdeaaonppokgkaaGreatG9
set_option maxRecDepth 100000
set_option linter.unusedSimpArgs false
set_option linter.unusedVariables false
-- 
namespace Go.Proofs.YtdeaaonppokgkaaGreat.Pat
open Go.RowKit
def badP (n : Int) : Bool := decide (n < 0) || decide (1073741824 < n)
theorem badP_pu (n : Int) : Pu Tryz.prog 75 [.v (.int .i64 n)] [] (.v (.bool (badP n))) := by
  refine pu_of_ex true [] mixed Tryz.call75 Tryz.func75 rfl Tryz.ntmps75 Tryz.results75 (by decide +kernel) rfl rfl rfl ?_
  refine sxo ?_
  try with_reducible exact trivial
  unfold badP
  exact ⟨fun h => by simp [h], fun h => by simp [h]⟩
theorem indexI_pu (l : List Int) (c : Nat) (g : FuncId) (fs cs : List SV) (H : List Ob) (p : Int → Bool) (hro : roB H = true) (hl : l.length ≤ 9223372036854775807)
    (hp : ∀ x ∈ l, Pu Tryz.prog g (fs ++ [.v (.int .i64 x)] ++ cs) (rInt 3 l :: H) (.v (.bool (p x)))) : Pu Tryz.prog 74 [.s 0 0 0 l.length c 1, .f (.func g) fs cs] (rInt 3 l :: H) (.v (.int .i64 (idxB p l 0))) := by
  refine pu_of_ex true [] mixed Tryz.call74 Tryz.func74 rfl Tryz.ntmps74 Tryz.results74 (by decide +kernel) rfl (by simp [roB, hro, rInt]) rfl ?_
  refine sxo ?_
  try with_reducible exact trivial
  refine tr_loop0 mixed (by kernel_rfl) (fun (k : Nat) => [(8, .v (.int .i64 k)), (7, .v (.int .i64 l.length)), (0, .s 0 0 0 l.length c 1), (1, .f (.func g) fs cs)]) (fun k => k ≤ l.length ∧ ∀ j, j < k → p (ix l j) = false) (fun k => l.length - k) 0 ⟨Nat.zero_le _, fun j h => by omega⟩ ?_ ?_
  · refine sxo ?_
    try with_reducible exact trivial
  · rintro k ⟨hk, hn⟩
    refine sxo ?_
    try with_reducible exact trivial
    refine ⟨fun h1 => ?_, fun h1 => ?_⟩
    · repeat (with_reducible refine And.intro (by omega) ?_)
      have hp1 := hp _ (ix_mem (l := l) (k := k) (by omega))
      refine sp_pu (by simpa only [push_cast] using hp1) ?_
      refine sxo ?_
      try with_reducible exact trivial
      simp only [branch]
      refine ⟨fun h2 => ?_, fun h2 => ?_⟩
      · rw [idxB_at p l 0 k (by omega) hn h2]; simp
      · repeat (with_reducible refine And.intro (by omega) ?_)
        refine lp0_normal (k + 1) ⟨by omega, fun j hj => ?_⟩ (by omega) ?_
        · by_cases e : j = k
          · rw [e]; exact h2
          · exact hn j (by omega)
        · refine sxo ?_
          try with_reducible exact trivial
    · rw [idxB_none p l 0 fun j hj => hn j (by omega)]
theorem containsI_pu (l : List Int) (c : Nat) (g : FuncId) (fs cs : List SV) (H : List Ob) (p : Int → Bool) (hro : roB H = true) (hl : l.length ≤ 9223372036854775807)
    (hp : ∀ x ∈ l, Pu Tryz.prog g (fs ++ [.v (.int .i64 x)] ++ cs) (rInt 3 l :: H) (.v (.bool (p x)))) : Pu Tryz.prog 39 [.s 0 0 0 l.length c 1, .f (.func g) fs cs] (rInt 3 l :: H) (.v (.bool (l.any p))) := by
  refine pu_of_ex true [] mixed Tryz.call39 Tryz.func39 rfl Tryz.ntmps39 Tryz.results39 (by decide +kernel) rfl (by simp [roB, hro, rInt]) rfl ?_
  refine sxo ?_
  try with_reducible exact trivial
  refine sp_pu (indexI_pu l c g fs cs H p hro hl hp) ?_
  refine sxo ?_
  try with_reducible exact trivial
  rw [idxB_any p l 0 (Int.le_refl 0)]
/-- The error of Best, and its answer. -/
def bestE (length : Int) (l : List Pc) (pr : List Int) : Int := if givenE length l pr.length ≠ 0 then givenE length l pr.length else if pr.any badP = true then 2 else if 10 < l.length then 6 else 0
def bestS (length : Int) (l : List Pc) (pr : List Int) : Bst := if bestE length l pr = 0 then dearG l pr [] length 0 ([], -1) else ([], 0)
theorem bestX_sp (length : Int) (l : List Pc) (c : Nat) (pr : List Int) (cp : Nat) (hl : l.length ≤ 9223372036854775807) (hl2 : pr.length ≤ 9223372036854775807) : Sp Tryz.prog 41 [.v (.int .i64 length), .s 0 0 0 l.length c 2, .s 1 0 0 pr.length cp 1] [rPc l, rInt 3 pr]
    (fun r H => ∃ nb bi bl bc caps bf, r = .t [.s 2 bi 0 bl bc 1, .v (.int .i64 (bestS length l pr).2), .v (.int .i64 (bestE length l pr))] ∧ BstOk l.length nb bi bl bc caps bf (bestS length l pr) ∧ (bestE length l pr = 0 → -1 ≤ (bestS length l pr).2 ∧ (bestS length l pr).2 ≤ 1125899906842624 * l.length) ∧ H = [rPc l, rInt 3 pr, oFam l.length nb caps bf]) := by
  refine sp_wk ?_
  refine sp_of_ex true [] mixed Tryz.call41 Tryz.func41 rfl Tryz.ntmps41 Tryz.results41 (by decide +kernel) rfl ?_
  refine sxo ?_
  try with_reducible exact trivial
  refine sp_call (given_pu length pr.length l c hl) rfl [0] rfl (by simp only [push_cast, ↓branch_true, ↓branch_false, Nat.reduceBEq, Nat.reduceAdd, Nat.reduceMul, Nat.reduceSub, Int.reduceToNat, reduceCtorEq, branch_decide, branch_not, branch_beq, branch_bne]) (by simp only [push_cast, ↓branch_true, ↓branch_false, Nat.reduceBEq, Nat.reduceAdd, Nat.reduceMul, Nat.reduceSub, Int.reduceToNat, reduceCtorEq, branch_decide, branch_not, branch_beq, branch_bne]) ?_
  refine sxo ?_
  try with_reducible exact trivial
  refine ⟨fun h => ?_, fun h => ?_⟩
  · obtain ⟨ho, hl0, hl1, hpl⟩ := given_ok h
    refine sp_call (containsI_pu pr cp 75 [] [] [] badP rfl hl2 (fun x _ => pu_at (badP_pu x) rfl [] rfl (by (simp only [push_cast, ↓branch_true, ↓branch_false, Nat.reduceBEq, Nat.reduceAdd, Nat.reduceMul, Nat.reduceSub, Int.reduceToNat, reduceCtorEq, branch_decide, branch_not, branch_beq, branch_bne])) (by (simp only [push_cast, ↓branch_true, ↓branch_false, Nat.reduceBEq, Nat.reduceAdd, Nat.reduceMul, Nat.reduceSub, Int.reduceToNat, reduceCtorEq, branch_decide, branch_not, branch_beq, branch_bne])))) rfl [1] rfl (by simp only [push_cast, ↓branch_true, ↓branch_false, Nat.reduceBEq, Nat.reduceAdd, Nat.reduceMul, Nat.reduceSub, Int.reduceToNat, reduceCtorEq, branch_decide, branch_not, branch_beq, branch_bne]) (by simp only [push_cast, ↓branch_true, ↓branch_false, Nat.reduceBEq, Nat.reduceAdd, Nat.reduceMul, Nat.reduceSub, Int.reduceToNat, reduceCtorEq, branch_decide, branch_not, branch_beq, branch_bne]) ?_
    refine sxo ?_
    try with_reducible exact trivial
    simp only [branch]
    refine ⟨fun hb => ?_, fun hb => ?_⟩
    · have e1 : bestE length l pr = 2 := by
        unfold bestE
        rw [if_neg (by omega), if_pos hb]
      have e2 : bestS length l pr = ([], 0) := by
        unfold bestS
        rw [if_neg (by omega)]
      rw [e1, e2]
      refine ⟨_, _, vwk_mt [0, 1, 2] ?_ ?_ ?_, 0, 0, 0, 0, fun _ => 0, [], rfl, ⟨rfl, .inl ⟨rfl, rfl, rfl⟩⟩, (fun h => by omega), rfl⟩
      · refine sxo ?_
        try with_reducible exact trivial
      · kernel_rfl
      · refine sxo ?_
        try with_reducible exact trivial
    · have hb : ¬ pr.any badP = true := by rw [hb]; simp
      refine ⟨fun h10 => ?_, fun h10 => ?_⟩
      · have e1 : bestE length l pr = 6 := by
          unfold bestE
          rw [if_neg (by omega), if_neg hb, if_pos (by omega)]
        have e2 : bestS length l pr = ([], 0) := by
          unfold bestS
          rw [if_neg (by omega)]
        rw [e1, e2]
        refine ⟨_, _, vwk_mt [0, 1, 2] ?_ ?_ ?_, 0, 0, 0, 0, fun _ => 0, [], rfl, ⟨rfl, .inl ⟨rfl, rfl, rfl⟩⟩, (fun h => by omega), rfl⟩
        · refine sxo ?_
          try with_reducible exact trivial
        · kernel_rfl
        · refine sxo ?_
          try with_reducible exact trivial
      · have e1 : bestE length l pr = 0 := by
          unfold bestE
          rw [if_neg (by omega), if_neg hb, if_neg (by omega)]
        have e2 : bestS length l pr = dearG l pr [] length 0 ([], -1) := by
          unfold bestS
          rw [if_pos e1]
        have hpq : ∀ q ∈ pr, 0 ≤ q ∧ q ≤ 1073741824 := fun q hq => by
          have : ¬ badP q = true := fun hbq => hb (List.any_eq_true.2 ⟨q, hq, hbq⟩)
          unfold badP at this
          simp at this
          omega
        rw [e1, e2]
        refine (begin_sp l pr c cp ho).mono ?_
        rintro r0 H1 ⟨rfl, rfl⟩
        refine sxo ?_
        try with_reducible exact trivial
        have h0 := dearest_sp l pr c cp ho (by omega) hpq l.length 0 length 0 (fun _ => 0) [] (fun _ => 0) 0 0 0 ([], -1) (by omega) (by omega) hl1 (by omega) (by omega) (by simp) (by simp only; omega) ⟨rfl, .inl ⟨rfl, rfl, rfl⟩⟩
        refine sp_pre_mt (args' := [.p 4 0 0, .v (.int .i64 ((0 : Nat) : Int)), .v (.int .i64 length), .v (.int .i64 0)]) (H' := [rPc l, rInt 3 pr, rOwn 3 l.length l.length (fun _ => 0), rOwn 3 (l.length + 1) (l.length + 1) (fun k => aft (l.drop k)), oB l.length c pr.length cp 0 0 0 (-1), oFam l.length ([] : List (List Int)).length (fun _ => 0) []]) [0, 1, 2, 3, 4, 5] ?_ (by kernel_rfl) ?_ (h0.mono ?_)
        · refine sxo ?_
          try with_reducible exact trivial
        · refine sxo ?_
          try with_reducible exact trivial
        rintro r0 H1 ⟨nf', bf, caps, bi, bl, bc, s', rfl, q1, q2, q2b, q3, rfl⟩
        have q2 : s' = dearG l pr [] length 0 ([], -1) := by simpa [preF] using q2
        refine sxo ?_
        try with_reducible exact trivial
        refine ⟨_, _, vwk_mt [0, 1, 5] ?_ ?_ ?_, bf.length, bi, bl, bc, caps, bf, rfl, by rw [← q2]; exact q3, fun _ => ⟨dearG_ge _ _ _ _ _ _, by rw [← q2]; exact q2b⟩, rfl⟩
        · rw [← q2]
          refine sxo ?_
          try with_reducible exact trivial
        · kernel_rfl
        · refine sxo ?_
          try with_reducible exact trivial
  · have e1 : bestE length l pr = givenE length l pr.length := by
      unfold bestE
      rw [if_pos h]
    have e2 : bestS length l pr = ([], 0) := by
      unfold bestS
      rw [if_neg (by rw [e1]; exact h)]
    rw [e1, e2]
    refine ⟨_, _, vwk_mt [0, 1, 2] ?_ ?_ ?_, 0, 0, 0, 0, fun _ => 0, [], rfl, ⟨rfl, .inl ⟨rfl, rfl, rfl⟩⟩, (fun h => by omega), rfl⟩
    · refine sxo ?_
      try with_reducible exact trivial
    · kernel_rfl
    · refine sxo ?_
      try with_reducible exact trivial
end Go.Proofs.YtdeaaonppokgkaaGreat.Pat
