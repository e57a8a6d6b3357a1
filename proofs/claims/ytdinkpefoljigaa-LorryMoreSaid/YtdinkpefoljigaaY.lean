/- Contracts: what is wrong with loads. -/
import Derived.Test.YtdinkpefoljigaaX
set_option maxRecDepth 100000
set_option linter.unusedSimpArgs false
set_option linter.unusedVariables false
namespace Go.Proofs.Ytdinkpefoljigaa
open Go.RowKit
theorem containsI_pu (l : List Int) (c : Nat) (g : FuncId) (fs cs : List SV) (H : List Ob) (p : Int → Bool) (hro : roB H = true) (hl : l.length ≤ 9223372036854775807)
    (hp : ∀ x ∈ l, Pu Try.prog g (fs ++ [.v (.int .i64 x)] ++ cs) (rIR l :: H) (.v (.bool (p x)))) : Pu Try.prog 66 [.s 0 0 0 l.length c 1, .f (.func g) fs cs] (rIR l :: H) (.v (.bool (l.any p))) := by
  refine pu_of_ex true [] mixed Try.call66 Try.func66 rfl Try.ntmps66 Try.results66 (by decide +kernel) rfl (by simp [roB, hro, rIR]) rfl ?_
  simp only [push_cast, ↓branch_true, ↓branch_false, Nat.reduceBEq, Nat.reduceAdd, Nat.reduceMul, Nat.reduceSub, Int.reduceToNat, reduceCtorEq, branch_decide, branch_not, branch_beq, branch_bne]
  refine sp_pu (indexI_pu l c g fs cs H p hro hl hp) ?_
  simp only [push_cast, ↓branch_true, ↓branch_false, Nat.reduceBEq, Nat.reduceAdd, Nat.reduceMul, Nat.reduceSub, Int.reduceToNat, reduceCtorEq, branch_decide, branch_not, branch_beq, branch_bne]
  rw [idxB_any p l 0 (Int.le_refl 0)]
def outB (l : List Bun) (i : Int) : Bool := decide (i < 0) || decide ((l.length : Int) ≤ i)
theorem outB_iff {l : List Bun} {i : Int} : outB l i = false ↔ 0 ≤ i ∧ i < l.length := by
  unfold outB; simp
theorem tcl_pu (l : List Bun) (c : Nat) (i : Int) (hl : l.length ≤ 9223372036854775807) : Pu Try.prog 67 [.v (.int .i64 i), .p 0 0 0] [rBoxB 1 l.length c, rB l] (.v (.bool (outB l i))) := by
  refine pu_of_ex true [] mixed Try.call67 Try.func67 rfl Try.ntmps67 Try.results67 (by decide +kernel) rfl rfl rfl ?_
  simp only [push_cast, ↓branch_true, ↓branch_false, Nat.reduceBEq, Nat.reduceAdd, Nat.reduceMul, Nat.reduceSub, Int.reduceToNat, reduceCtorEq, branch_decide, branch_not, branch_beq, branch_bne]
  unfold outB
  refine ⟨fun h => ?_, fun h => ?_⟩
  · simp [h]
  · simp [h]
/-- The error number of loads. -/
def loadsE (l : List Bun) (loads : List (List Int)) : Int := if 1000 < loads.length ∨ 1000 < loads.flatten.length then 4 else if loads.flatten.any (outB l) = true then 2 else if loads.flatten.Nodup then 0 else 10
def toldE (l : List Bun) (loads : List (List Int)) : Int := if vB l = false then 1 else loadsE l loads
theorem told_pu (l : List Bun) (loads : List (List Int)) (c lc N : Nat) (cp : Nat → Nat) (hs : strOk l) (hl : l.length ≤ 9223372036854775807) (hN : loads.length ≤ N) (hln : loads.length ≤ 2000) (hx : ∀ x ∈ loads, x.length ≤ 400000) :
    Pu Try.prog 50 [.s 0 0 0 l.length c 4, .s 1 0 0 loads.length lc 1] [rB l, rOut 2 loads cp, rFa N loads] (.v (.int .i64 (toldE l loads))) := by
  have hfl := flt_len_le hx loads.length
  rw [flt_all] at hfl
  refine pu_of_ex true [] mixed Try.call50 Try.func50 rfl Try.ntmps50 Try.results50 (by decide +kernel) rfl rfl rfl ?_
  simp only [push_cast, ↓branch_true, ↓branch_false, Nat.reduceBEq, Nat.reduceAdd, Nat.reduceMul, Nat.reduceSub, Int.reduceToNat, reduceCtorEq, branch_decide, branch_not, branch_beq, branch_bne]
  refine sp_call (valid_pu l c hs hl) rfl [0] rfl (by simp only [push_cast, ↓branch_true, ↓branch_false, Nat.reduceBEq, Nat.reduceAdd, Nat.reduceMul, Nat.reduceSub, Int.reduceToNat, reduceCtorEq, branch_decide, branch_not, branch_beq, branch_bne]) (by simp only [push_cast, ↓branch_true, ↓branch_false, Nat.reduceBEq, Nat.reduceAdd, Nat.reduceMul, Nat.reduceSub, Int.reduceToNat, reduceCtorEq, branch_decide, branch_not, branch_beq, branch_bne]) ?_
  simp only [push_cast, ↓branch_true, ↓branch_false, Nat.reduceBEq, Nat.reduceAdd, Nat.reduceMul, Nat.reduceSub, Int.reduceToNat, reduceCtorEq, branch_decide, branch_not, branch_beq, branch_bne]
  cases hv : vB l with
  | false =>
    simp only [push_cast, ↓branch_true, ↓branch_false, Nat.reduceBEq, Nat.reduceAdd, Nat.reduceMul, Nat.reduceSub, Int.reduceToNat, reduceCtorEq, branch_decide, branch_not, branch_beq, branch_bne]
    simp [toldE, hv]
  | true =>
  have ht : toldE l loads = loadsE l loads := by simp [toldE, hv]
  rw [ht]
  simp only [push_cast, ↓branch_true, ↓branch_false, Nat.reduceBEq, Nat.reduceAdd, Nat.reduceMul, Nat.reduceSub, Int.reduceToNat, reduceCtorEq, branch_decide, branch_not, branch_beq, branch_bne]
  refine sp_at (concat_sp loads lc N cp hN hln hx) [1, 2] rfl ?_ ?_ ?_
  · simp only [push_cast, ↓branch_true, ↓branch_false, Nat.reduceBEq, Nat.reduceAdd, Nat.reduceMul, Nat.reduceSub, Int.reduceToNat, reduceCtorEq, branch_decide, branch_not, branch_beq, branch_bne]
  · simp only [push_cast, ↓branch_true, ↓branch_false, Nat.reduceBEq, Nat.reduceAdd, Nat.reduceMul, Nat.reduceSub, Int.reduceToNat, reduceCtorEq, branch_decide, branch_not, branch_beq, branch_bne]
  rintro _ _ ⟨ac, hac, rfl, rfl⟩
  simp only [push_cast, ↓branch_true, ↓branch_false, Nat.reduceBEq, Nat.reduceAdd, Nat.reduceMul, Nat.reduceSub, Int.reduceToNat, reduceCtorEq, branch_decide, branch_not, branch_beq, branch_bne]
  refine ⟨fun h => ?_, fun h => ⟨fun h2 => ?_, fun h2 => ?_⟩⟩
  · rw [loadsE, if_pos (by omega)]
  · rw [loadsE, if_pos (by omega)]
  have h3 : ¬ (1000 < loads.length ∨ 1000 < loads.flatten.length) := by omega
  refine sp_call (containsI_pu loads.flatten ac 67 [] [.p 1 0 0] [rBoxB 2 l.length c, rB l] (outB l) rfl (by omega) fun x hx => ?_) rfl [4, 3, 0] rfl ?_ ?_ ?_
  · exact pu_at (tcl_pu l c x hl) rfl [1, 2] rfl (by (simp only [push_cast, ↓branch_true, ↓branch_false, Nat.reduceBEq, Nat.reduceAdd, Nat.reduceMul, Nat.reduceSub, Int.reduceToNat, reduceCtorEq, branch_decide, branch_not, branch_beq, branch_bne])) (by (simp only [push_cast, ↓branch_true, ↓branch_false, Nat.reduceBEq, Nat.reduceAdd, Nat.reduceMul, Nat.reduceSub, Int.reduceToNat, reduceCtorEq, branch_decide, branch_not, branch_beq, branch_bne]))
  · simp only [push_cast, ↓branch_true, ↓branch_false, Nat.reduceBEq, Nat.reduceAdd, Nat.reduceMul, Nat.reduceSub, Int.reduceToNat, reduceCtorEq, branch_decide, branch_not, branch_beq, branch_bne]
  · simp only [push_cast, ↓branch_true, ↓branch_false, Nat.reduceBEq, Nat.reduceAdd, Nat.reduceMul, Nat.reduceSub, Int.reduceToNat, reduceCtorEq, branch_decide, branch_not, branch_beq, branch_bne]
  cases hany : loads.flatten.any (outB l) with
  | true =>
    simp only [push_cast, ↓branch_true, ↓branch_false, Nat.reduceBEq, Nat.reduceAdd, Nat.reduceMul, Nat.reduceSub, Int.reduceToNat, reduceCtorEq, branch_decide, branch_not, branch_beq, branch_bne]
    rw [loadsE, if_neg h3, hany, if_pos rfl]
  | false =>
  simp only [push_cast, ↓branch_true, ↓branch_false, Nat.reduceBEq, Nat.reduceAdd, Nat.reduceMul, Nat.reduceSub, Int.reduceToNat, reduceCtorEq, branch_decide, branch_not, branch_beq, branch_bne]
  have hin : ∀ i ∈ loads.flatten, 0 ≤ i ∧ i < l.length := fun i hi => outB_iff.1 (by rw [List.any_eq_false] at hany; simpa using hany i hi)
  refine tr_loop mixed (by kernel_rfl) (fun (j : Nat) => [(28, .v (.int .i64 j)), (27, .v (.int .i64 loads.flatten.length)), (26, .s 4 0 0 loads.flatten.length ac 1), (6, .m 5), (0, .s 0 0 0 l.length c 4), (1, .s 1 0 0 loads.length lc 1)])
    (fun j => [rB l, rOut 2 loads cp, rFa N loads, rBoxB 0 l.length c, rIO loads.flatten ac, ⟨69, false, .mp (.int .i64) (loads.flatten.take j).length (gI (hasI (loads.flatten.take j)))⟩])
    (fun j => j ≤ loads.flatten.length ∧ (loads.flatten.take j).Nodup) (fun j => loads.flatten.length - j) 0 ⟨Nat.zero_le _, by simp⟩ (Mt.wk (rl := [0, 1, 2, 3, 4, 5]) ⟨by kernel_rfl, ?_, ?_⟩) ?_
  · simp only [push_cast, ↓branch_true, ↓branch_false, Nat.reduceBEq, Nat.reduceAdd, Nat.reduceMul, Nat.reduceSub, Int.reduceToNat, reduceCtorEq, branch_decide, branch_not, branch_beq, branch_bne]
  · simp only [push_cast, ↓branch_true, ↓branch_false, Nat.reduceBEq, Nat.reduceAdd, Nat.reduceMul, Nat.reduceSub, Int.reduceToNat, reduceCtorEq, branch_decide, branch_not, branch_beq, branch_bne]
    exact gI_no (fun x => rfl) _
  rintro j ⟨g1, g2⟩
  simp only [push_cast, ↓branch_true, ↓branch_false, Nat.reduceBEq, Nat.reduceAdd, Nat.reduceMul, Nat.reduceSub, Int.reduceToNat, reduceCtorEq, branch_decide, branch_not, branch_beq, branch_bne]
  refine ⟨fun h => ?_, fun h => ?_⟩
  · have hj : j < loads.flatten.length := by omega
    have etk := take_snoc hj
    repeat (with_reducible refine And.intro (by omega) ?_)
    cases hh : hasI (loads.flatten.take j) (ix loads.flatten j) with
    | true =>
      simp only [push_cast, ↓branch_true, ↓branch_false, Nat.reduceBEq, Nat.reduceAdd, Nat.reduceMul, Nat.reduceSub, Int.reduceToNat, reduceCtorEq, branch_decide, branch_not, branch_beq, branch_bne]
      have hnn : ¬ loads.flatten.Nodup := fun hn => by
        rw [← List.take_append_drop j loads.flatten, drop_ix hj, List.nodup_append] at hn
        exact hn.2.2 _ (hasI_iff.1 hh) _ List.mem_cons_self rfl
      rw [loadsE, if_neg h3, hany, if_neg (by simp), if_neg hnn]
    | false =>
      simp only [push_cast, ↓branch_true, ↓branch_false, Nat.reduceBEq, Nat.reduceAdd, Nat.reduceMul, Nat.reduceSub, Int.reduceToNat, reduceCtorEq, branch_decide, branch_not, branch_beq, branch_bne]
      have hni : ix loads.flatten j ∉ loads.flatten.take j := fun e => by rw [hasI_iff.2 e] at hh; cases hh
      repeat (with_reducible refine And.intro (by omega) ?_)
      refine lpK_normal (j + 1) [0, 1, 2, 3, 4, 5] ⟨by omega, ?_⟩ (by omega) (by kernel_rfl) ?_ ?_
      · rw [etk, List.nodup_append]
        exact ⟨g2, by simp, fun a ha b hb e => by simp at hb; subst hb e; exact hni ha⟩
      · simp only [push_cast, ↓branch_true, ↓branch_false, Nat.reduceBEq, Nat.reduceAdd, Nat.reduceMul, Nat.reduceSub, Int.reduceToNat, reduceCtorEq, branch_decide, branch_not, branch_beq, branch_bne]
      · simp only [push_cast, ↓branch_true, ↓branch_false, Nat.reduceBEq, Nat.reduceAdd, Nat.reduceMul, Nat.reduceSub, Int.reduceToNat, reduceCtorEq, branch_decide, branch_not, branch_beq, branch_bne]
        refine ⟨?_, gI_up fun x => ?_⟩
        · rw [etk]; simp
        · rw [etk, hasI_snoc]
  · obtain rfl : j = loads.flatten.length := by omega
    rw [List.take_length] at g2
    rw [loadsE, if_neg h3, hany, if_neg (by simp), if_pos g2]
end Go.Proofs.Ytdinkpefoljigaa
