/- Contracts: Where. -/
import Derived.Test.YtdinkpefoljigaaAB
set_option maxRecDepth 100000
set_option linter.unusedSimpArgs false
set_option linter.unusedVariables false
namespace Go.Proofs.Ytdinkpefoljigaa
open Go.RowKit
/-- The load with a bundle. -/
def whI (loads : List (List Int)) (v : Int) : Int := idxB (fun x => hasI x v) loads 0
theorem rwhere_pu (loads : List (List Int)) (v : Int) (lc N : Nat) (cp : Nat → Nat) (hN : loads.length ≤ N) (hln : loads.length ≤ 2000) (hx : ∀ x ∈ loads, x.length ≤ 400000) :
    Pu Try.prog 35 [.s 0 0 0 loads.length lc 1, .v (.int .i64 v)] [rOut 1 loads cp, rFa N loads] (.v (.int .i64 (whI loads v))) := by
  refine pu_of_ex true [] mixed Try.call35 Try.func35 rfl Try.ntmps35 Try.results35 (by decide +kernel) rfl rfl rfl ?_
  simp only [push_cast, ↓branch_true, ↓branch_false, Nat.reduceBEq, Nat.reduceAdd, Nat.reduceMul, Nat.reduceSub, Int.reduceToNat, reduceCtorEq, branch_decide, branch_not, branch_beq, branch_bne]
  refine tr_loop0 mixed (by kernel_rfl) (fun (k : Nat) => [(5, .v (.int .i64 k)), (0, .s 0 0 0 loads.length lc 1), (1, .v (.int .i64 v))]) (fun k => k ≤ loads.length ∧ ∀ i, i < k → hasI (ix loads i) v = false) (fun k => loads.length - k) 0 ⟨Nat.zero_le _, fun i hi => by omega⟩ ?_ ?_
  · simp only [push_cast, ↓branch_true, ↓branch_false, Nat.reduceBEq, Nat.reduceAdd, Nat.reduceMul, Nat.reduceSub, Int.reduceToNat, reduceCtorEq, branch_decide, branch_not, branch_beq, branch_bne]
  rintro k ⟨g1, g2⟩
  simp only [push_cast, ↓branch_true, ↓branch_false, Nat.reduceBEq, Nat.reduceAdd, Nat.reduceMul, Nat.reduceSub, Int.reduceToNat, reduceCtorEq, branch_decide, branch_not, branch_beq, branch_bne]
  refine ⟨fun h3 => ?_, fun h3 => ?_⟩
  · have hk : k < loads.length := by omega
    have hxk := hx _ (ix_mem hk)
    refine tr_loop0 mixed (by kernel_rfl) (fun (q : Nat) => [(6, .v (.int .i64 q)), (5, .v (.int .i64 k)), (0, .s 0 0 0 loads.length lc 1), (1, .v (.int .i64 v))]) (fun q => q ≤ (ix loads k).length ∧ v ∉ (ix loads k).take q) (fun q => (ix loads k).length - q) 0 ⟨Nat.zero_le _, by simp⟩ ?_ ?_
    · simp only [push_cast, ↓branch_true, ↓branch_false, Nat.reduceBEq, Nat.reduceAdd, Nat.reduceMul, Nat.reduceSub, Int.reduceToNat, reduceCtorEq, branch_decide, branch_not, branch_beq, branch_bne]
    rintro q ⟨g3, g4⟩
    simp only [push_cast, ↓branch_true, ↓branch_false, Nat.reduceBEq, Nat.reduceAdd, Nat.reduceMul, Nat.reduceSub, Int.reduceToNat, reduceCtorEq, branch_decide, branch_not, branch_beq, branch_bne]
    repeat (with_reducible refine And.intro (by omega) ?_)
    refine ⟨fun h5 => ?_, fun h5 => ?_⟩
    · have hq : q < (ix loads k).length := by omega
      repeat (with_reducible refine And.intro (by omega) ?_)
      refine ⟨fun h6 => ?_, fun h6 => ?_⟩
      · have : hasI (ix loads k) v = true := hasI_iff.2 (by rw [← h6]; exact ix_mem hq)
        rw [whI, idxB_at (fun x => hasI x v) loads 0 k hk g2 this]
        simp
      · repeat (with_reducible refine And.intro (by omega) ?_)
        refine lp0_normal (q + 1) ⟨by omega, ?_⟩ (by omega) ?_
        · rw [take_snoc hq]
          intro hi
          rcases List.mem_append.1 hi with hi | hi
          · exact g4 hi
          · simp at hi; exact h6 hi.symm
        · simp only [push_cast, ↓branch_true, ↓branch_false, Nat.reduceBEq, Nat.reduceAdd, Nat.reduceMul, Nat.reduceSub, Int.reduceToNat, reduceCtorEq, branch_decide, branch_not, branch_beq, branch_bne]
    · obtain rfl : q = (ix loads k).length := by omega
      rw [List.take_length] at g4
      repeat (with_reducible refine And.intro (by omega) ?_)
      refine lp0_normal (k + 1) ⟨by omega, fun i hi => ?_⟩ (by omega) ?_
      · by_cases e : i = k
        · subst e
          cases hh : hasI (ix loads i) v with
          | false => rfl
          | true => exact absurd (hasI_iff.1 hh) g4
        · exact g2 i (by omega)
      · simp only [push_cast, ↓branch_true, ↓branch_false, Nat.reduceBEq, Nat.reduceAdd, Nat.reduceMul, Nat.reduceSub, Int.reduceToNat, reduceCtorEq, branch_decide, branch_not, branch_beq, branch_bne]
  · have : whI loads v = -1 := idxB_none _ _ _ fun j hj => g2 j (by omega)
    rw [this]
theorem index1_pu (x : List (List Int)) (N a : Nat) (v : Int) (cp : Nat) (ha : a < N) (hl : (ix x a).length ≤ 9223372036854775807) :
    Pu Try.prog 70 [.s 0 a 0 (ix x a).length cp 1, .v (.int .i64 v)] [rFa N x] (.v (.int .i64 (idxB (fun y => v == y) (ix x a) 0))) := by
  refine pu_of_ex true [] mixed Try.call70 Try.func70 rfl Try.ntmps70 Try.results70 (by decide +kernel) rfl rfl rfl ?_
  simp only [push_cast, ↓branch_true, ↓branch_false, Nat.reduceBEq, Nat.reduceAdd, Nat.reduceMul, Nat.reduceSub, Int.reduceToNat, reduceCtorEq, branch_decide, branch_not, branch_beq, branch_bne]
  refine tr_loop0 mixed (by kernel_rfl) (fun (k : Nat) => [(8, .v (.int .i64 k)), (7, .v (.int .i64 (ix x a).length)), (0, .s 0 a 0 (ix x a).length cp 1), (1, .v (.int .i64 v))]) (fun k => k ≤ (ix x a).length ∧ ∀ j, j < k → (v == ix (ix x a) j) = false) (fun k => (ix x a).length - k) 0 ⟨Nat.zero_le _, fun j h => by omega⟩ ?_ ?_
  · simp only [push_cast, ↓branch_true, ↓branch_false, Nat.reduceBEq, Nat.reduceAdd, Nat.reduceMul, Nat.reduceSub, Int.reduceToNat, reduceCtorEq, branch_decide, branch_not, branch_beq, branch_bne]
  · rintro k ⟨hk, hn⟩
    simp only [push_cast, ↓branch_true, ↓branch_false, Nat.reduceBEq, Nat.reduceAdd, Nat.reduceMul, Nat.reduceSub, Int.reduceToNat, reduceCtorEq, branch_decide, branch_not, branch_beq, branch_bne]
    refine ⟨fun h1 => ?_, fun h1 => ?_⟩
    · repeat (with_reducible refine And.intro (by omega) ?_)
      refine ⟨fun h2 => ?_, fun h2 => ?_⟩
      · rw [idxB_at (fun y => v == y) (ix x a) 0 k (by omega) hn (by simpa using h2)]; simp
      · repeat (with_reducible refine And.intro (by omega) ?_)
        refine lp0_normal (k + 1) ⟨by omega, fun j hj => ?_⟩ (by omega) ?_
        · by_cases e : j = k
          · rw [e]; simpa using h2
          · exact hn j (by omega)
        · simp only [push_cast, ↓branch_true, ↓branch_false, Nat.reduceBEq, Nat.reduceAdd, Nat.reduceMul, Nat.reduceSub, Int.reduceToNat, reduceCtorEq, branch_decide, branch_not, branch_beq, branch_bne]
    · rw [idxB_none (fun y => v == y) (ix x a) 0 fun j hj => hn j (by omega)]
theorem contains1_pu (x : List (List Int)) (N a : Nat) (v : Int) (cp : Nat) (ha : a < N) (hl : (ix x a).length ≤ 9223372036854775807) :
    Pu Try.prog 54 [.s 0 a 0 (ix x a).length cp 1, .v (.int .i64 v)] [rFa N x] (.v (.bool (hasI (ix x a) v))) := by
  refine pu_of_ex true [] mixed Try.call54 Try.func54 rfl Try.ntmps54 Try.results54 (by decide +kernel) rfl rfl rfl ?_
  simp only [push_cast, ↓branch_true, ↓branch_false, Nat.reduceBEq, Nat.reduceAdd, Nat.reduceMul, Nat.reduceSub, Int.reduceToNat, reduceCtorEq, branch_decide, branch_not, branch_beq, branch_bne]
  refine sp_call (index1_pu x N a v cp ha hl) rfl [0] rfl (by simp only [push_cast, ↓branch_true, ↓branch_false, Nat.reduceBEq, Nat.reduceAdd, Nat.reduceMul, Nat.reduceSub, Int.reduceToNat, reduceCtorEq, branch_decide, branch_not, branch_beq, branch_bne]) (by simp only [push_cast, ↓branch_true, ↓branch_false, Nat.reduceBEq, Nat.reduceAdd, Nat.reduceMul, Nat.reduceSub, Int.reduceToNat, reduceCtorEq, branch_decide, branch_not, branch_beq, branch_bne]) ?_
  simp only [push_cast, ↓branch_true, ↓branch_false, Nat.reduceBEq, Nat.reduceAdd, Nat.reduceMul, Nat.reduceSub, Int.reduceToNat, reduceCtorEq, branch_decide, branch_not, branch_beq, branch_bne]
  rw [idxB_any (fun y => v == y) (ix x a) 0 (Int.le_refl 0)]
  congr 2
  unfold hasI
  rw [List.any_beq]
theorem wcl_pu (loads : List (List Int)) (N k : Nat) (v : Int) (cp : Nat → Nat) (hN : loads.length ≤ N) (hk : k < loads.length) (hl : (ix loads k).length ≤ 9223372036854775807) :
    Pu Try.prog 53 [.s 1 k 0 (ix loads k).length (cp k) 1, .p 2 0 0] [rOut 1 loads cp, rFa N loads, oI v] (.v (.bool (hasI (ix loads k) v))) := by
  refine pu_of_ex true [] mixed Try.call53 Try.func53 rfl Try.ntmps53 Try.results53 (by decide +kernel) rfl rfl rfl ?_
  simp only [push_cast, ↓branch_true, ↓branch_false, Nat.reduceBEq, Nat.reduceAdd, Nat.reduceMul, Nat.reduceSub, Int.reduceToNat, reduceCtorEq, branch_decide, branch_not, branch_beq, branch_bne]
  refine sp_call (contains1_pu loads N k v (cp k) (by omega) hl) rfl [1] rfl (by simp only [push_cast, ↓branch_true, ↓branch_false, Nat.reduceBEq, Nat.reduceAdd, Nat.reduceMul, Nat.reduceSub, Int.reduceToNat, reduceCtorEq, branch_decide, branch_not, branch_beq, branch_bne]) (by simp only [push_cast, ↓branch_true, ↓branch_false, Nat.reduceBEq, Nat.reduceAdd, Nat.reduceMul, Nat.reduceSub, Int.reduceToNat, reduceCtorEq, branch_decide, branch_not, branch_beq, branch_bne]) ?_
  simp only [push_cast, ↓branch_true, ↓branch_false, Nat.reduceBEq, Nat.reduceAdd, Nat.reduceMul, Nat.reduceSub, Int.reduceToNat, reduceCtorEq, branch_decide, branch_not, branch_beq, branch_bne]
/-- A variable that holds a string. -/
def oT (s : ByteArray) : Ob := ⟨9, true, .st [.v (.string s)]⟩
attribute [push_cast] oT
def tagB (s : ByteArray) (b : Bun) : Bool := decide (b.tag = s)
theorem fcl_pu (b : Bun) (s : ByteArray) : Pu Try.prog 69 [.a (cB b), .p 0 0 0] [oT s] (.v (.bool (tagB s b))) := by
  refine pu_of_ex true [] mixed Try.call69 Try.func69 rfl Try.ntmps69 Try.results69 (by decide +kernel) rfl rfl rfl ?_
  simp only [push_cast, ↓branch_true, ↓branch_false, Nat.reduceBEq, Nat.reduceAdd, Nat.reduceMul, Nat.reduceSub, Int.reduceToNat, reduceCtorEq, branch_decide, branch_not, branch_beq, branch_bne]
  unfold tagB
  rfl
theorem idxB_find {α : Type} (p : α → Bool) : ∀ (l : List α) (i : Int), idxB p l i = match l.findIdx? p with | some k => i + k | none => -1
  | [], i => rfl
  | x :: l, i => by
    rw [idxB, idxB_find p l (i + 1), List.findIdx?_cons]
    cases p x with
    | true => simp
    | false =>
      simp only [cond_false, Bool.false_eq_true, if_false]
      cases l.findIdx? p with
      | none => rfl
      | some k =>
        show i + 1 + (k : Int) = i + ((k + 1 : Nat) : Int)
        omega
theorem fnd_idx (l : List Bun) (s : ByteArray) : idxB (tagB s) l 0 = fnd l s := by
  rw [idxB_find, fnd]
  have : tagB s = fun b => b.tag == s := by
    funext b
    unfold tagB
    rw [Bool.eq_iff_iff]; simp
  rw [this]
  cases l.findIdx? (fun b => b.tag == s) <;> simp
def findE (l : List Bun) (s : ByteArray) : Int := if vB l = false then 1 else if fnd l s < 0 then 9 else 0
def findR (l : List Bun) (s : ByteArray) : Int := if findE l s = 0 then fnd l s else 0
theorem find_pu (l : List Bun) (s : ByteArray) (c : Nat) (hs : strOk l) (hl : l.length ≤ 9223372036854775807) :
    Pu Try.prog 51 [.s 0 0 0 l.length c 4, .v (.string s)] [rB l] (.t [.v (.int .i64 (findR l s)), .v (.int .i64 (findE l s))]) := by
  refine pu_of_ex true [] mixed Try.call51 Try.func51 rfl Try.ntmps51 Try.results51 (by decide +kernel) rfl rfl rfl ?_
  simp only [push_cast, ↓branch_true, ↓branch_false, Nat.reduceBEq, Nat.reduceAdd, Nat.reduceMul, Nat.reduceSub, Int.reduceToNat, reduceCtorEq, branch_decide, branch_not, branch_beq, branch_bne]
  refine sp_call (valid_pu l c hs hl) rfl [0] rfl (by simp only [push_cast, ↓branch_true, ↓branch_false, Nat.reduceBEq, Nat.reduceAdd, Nat.reduceMul, Nat.reduceSub, Int.reduceToNat, reduceCtorEq, branch_decide, branch_not, branch_beq, branch_bne]) (by simp only [push_cast, ↓branch_true, ↓branch_false, Nat.reduceBEq, Nat.reduceAdd, Nat.reduceMul, Nat.reduceSub, Int.reduceToNat, reduceCtorEq, branch_decide, branch_not, branch_beq, branch_bne]) ?_
  simp only [push_cast, ↓branch_true, ↓branch_false, Nat.reduceBEq, Nat.reduceAdd, Nat.reduceMul, Nat.reduceSub, Int.reduceToNat, reduceCtorEq, branch_decide, branch_not, branch_beq, branch_bne]
  cases hv : vB l with
  | false =>
    have : findE l s = 1 := by simp [findE, hv]
    rw [findR, this]
    simp only [push_cast, ↓branch_true, ↓branch_false, Nat.reduceBEq, Nat.reduceAdd, Nat.reduceMul, Nat.reduceSub, Int.reduceToNat, reduceCtorEq, branch_decide, branch_not, branch_beq, branch_bne]
    simp
  | true =>
  simp only [push_cast, ↓branch_true, ↓branch_false, Nat.reduceBEq, Nat.reduceAdd, Nat.reduceMul, Nat.reduceSub, Int.reduceToNat, reduceCtorEq, branch_decide, branch_not, branch_beq, branch_bne]
  refine sp_call (indexB_pu l c 69 [] [.p 1 0 0] [oT s] (tagB s) rfl hl fun x hx => ?_) rfl [0, 1] rfl ?_ ?_ ?_
  · exact pu_at (fcl_pu x s) rfl [1] rfl (by (simp only [push_cast, ↓branch_true, ↓branch_false, Nat.reduceBEq, Nat.reduceAdd, Nat.reduceMul, Nat.reduceSub, Int.reduceToNat, reduceCtorEq, branch_decide, branch_not, branch_beq, branch_bne])) (by (simp only [push_cast, ↓branch_true, ↓branch_false, Nat.reduceBEq, Nat.reduceAdd, Nat.reduceMul, Nat.reduceSub, Int.reduceToNat, reduceCtorEq, branch_decide, branch_not, branch_beq, branch_bne]))
  · simp only [push_cast, ↓branch_true, ↓branch_false, Nat.reduceBEq, Nat.reduceAdd, Nat.reduceMul, Nat.reduceSub, Int.reduceToNat, reduceCtorEq, branch_decide, branch_not, branch_beq, branch_bne]
  · simp only [push_cast, ↓branch_true, ↓branch_false, Nat.reduceBEq, Nat.reduceAdd, Nat.reduceMul, Nat.reduceSub, Int.reduceToNat, reduceCtorEq, branch_decide, branch_not, branch_beq, branch_bne]
  rw [fnd_idx]
  simp only [push_cast, ↓branch_true, ↓branch_false, Nat.reduceBEq, Nat.reduceAdd, Nat.reduceMul, Nat.reduceSub, Int.reduceToNat, reduceCtorEq, branch_decide, branch_not, branch_beq, branch_bne]
  refine ⟨fun h => ?_, fun h => ?_⟩
  · have : findE l s = 9 := by rw [findE, hv, if_neg (by simp), if_pos h]
    rw [findR, this]
    simp
  · have : findE l s = 0 := by rw [findE, hv, if_neg (by simp), if_neg h]
    rw [findR, this]
    simp
def whE (l : List Bun) (loads : List (List Int)) (s : ByteArray) : Int := if toldE l loads = 0 then (if findE l s = 0 then (if whI loads (fnd l s) < 0 then 12 else 0) else findE l s) else toldE l loads
def whR (l : List Bun) (loads : List (List Int)) (s : ByteArray) : Int := if whE l loads s = 0 then whI loads (fnd l s) else 0
theorem where_pu (l : List Bun) (loads : List (List Int)) (s : ByteArray) (c lc N : Nat) (cp : Nat → Nat) (hs : strOk l) (hl : l.length ≤ 9223372036854775807) (hN : loads.length ≤ N) (hln : loads.length ≤ 2000) (hx : ∀ x ∈ loads, x.length ≤ 400000) :
    Pu Try.prog 29 [.s 0 0 0 l.length c 4, .s 1 0 0 loads.length lc 1, .v (.string s)] [rB l, rOut 2 loads cp, rFa N loads] (.t [.v (.int .i64 (whR l loads s)), .v (.int .i64 (whE l loads s))]) := by
  refine pu_of_ex true [] mixed Try.call29 Try.func29 rfl Try.ntmps29 Try.results29 (by decide +kernel) rfl rfl rfl ?_
  simp only [push_cast, ↓branch_true, ↓branch_false, Nat.reduceBEq, Nat.reduceAdd, Nat.reduceMul, Nat.reduceSub, Int.reduceToNat, reduceCtorEq, branch_decide, branch_not, branch_beq, branch_bne]
  refine sp_call (told_pu l loads c lc N cp hs hl hN hln hx) rfl [0, 1, 2] rfl (by simp only [push_cast, ↓branch_true, ↓branch_false, Nat.reduceBEq, Nat.reduceAdd, Nat.reduceMul, Nat.reduceSub, Int.reduceToNat, reduceCtorEq, branch_decide, branch_not, branch_beq, branch_bne]) (by simp only [push_cast, ↓branch_true, ↓branch_false, Nat.reduceBEq, Nat.reduceAdd, Nat.reduceMul, Nat.reduceSub, Int.reduceToNat, reduceCtorEq, branch_decide, branch_not, branch_beq, branch_bne]) ?_
  simp only [push_cast, ↓branch_true, ↓branch_false, Nat.reduceBEq, Nat.reduceAdd, Nat.reduceMul, Nat.reduceSub, Int.reduceToNat, reduceCtorEq, branch_decide, branch_not, branch_beq, branch_bne]
  by_cases ht : toldE l loads = 0
  rotate_left
  · have e : whE l loads s = toldE l loads := by rw [whE, if_neg ht]
    rw [whR, e, if_neg ht]
    simp only [push_cast, ↓branch_true, ↓branch_false, Nat.reduceBEq, Nat.reduceAdd, Nat.reduceMul, Nat.reduceSub, Int.reduceToNat, reduceCtorEq, branch_decide, branch_not, branch_beq, branch_bne]
    exact fun h => absurd h ht
  rw [ht]
  simp only [push_cast, ↓branch_true, ↓branch_false, Nat.reduceBEq, Nat.reduceAdd, Nat.reduceMul, Nat.reduceSub, Int.reduceToNat, reduceCtorEq, branch_decide, branch_not, branch_beq, branch_bne]
  intro _
  refine sp_call (find_pu l s c hs hl) rfl [0] rfl (by simp only [push_cast, ↓branch_true, ↓branch_false, Nat.reduceBEq, Nat.reduceAdd, Nat.reduceMul, Nat.reduceSub, Int.reduceToNat, reduceCtorEq, branch_decide, branch_not, branch_beq, branch_bne]) (by simp only [push_cast, ↓branch_true, ↓branch_false, Nat.reduceBEq, Nat.reduceAdd, Nat.reduceMul, Nat.reduceSub, Int.reduceToNat, reduceCtorEq, branch_decide, branch_not, branch_beq, branch_bne]) ?_
  simp only [push_cast, ↓branch_true, ↓branch_false, Nat.reduceBEq, Nat.reduceAdd, Nat.reduceMul, Nat.reduceSub, Int.reduceToNat, reduceCtorEq, branch_decide, branch_not, branch_beq, branch_bne]
  by_cases hf : findE l s = 0
  rotate_left
  · have e : whE l loads s = findE l s := by rw [whE, if_pos ht, if_neg hf]
    rw [whR, e, if_neg hf]
    simp only [push_cast, ↓branch_true, ↓branch_false, Nat.reduceBEq, Nat.reduceAdd, Nat.reduceMul, Nat.reduceSub, Int.reduceToNat, reduceCtorEq, branch_decide, branch_not, branch_beq, branch_bne]
    exact fun h => absurd h hf
  have hr : findR l s = fnd l s := by rw [findR, if_pos hf]
  rw [hf, hr]
  simp only [push_cast, ↓branch_true, ↓branch_false, Nat.reduceBEq, Nat.reduceAdd, Nat.reduceMul, Nat.reduceSub, Int.reduceToNat, reduceCtorEq, branch_decide, branch_not, branch_beq, branch_bne]
  intro _
  refine sp_call (indexL_pu loads lc N cp 53 [] [.p 2 0 0] [oI (fnd l s)] (fun x => hasI x (fnd l s)) rfl (by omega) fun k hk => ?_) rfl [1, 2, 3] rfl ?_ ?_ ?_
  · exact wcl_pu loads N k (fnd l s) cp hN hk (by have := hx _ (ix_mem hk); omega)
  · simp only [push_cast, ↓branch_true, ↓branch_false, Nat.reduceBEq, Nat.reduceAdd, Nat.reduceMul, Nat.reduceSub, Int.reduceToNat, reduceCtorEq, branch_decide, branch_not, branch_beq, branch_bne]
  · simp only [push_cast, ↓branch_true, ↓branch_false, Nat.reduceBEq, Nat.reduceAdd, Nat.reduceMul, Nat.reduceSub, Int.reduceToNat, reduceCtorEq, branch_decide, branch_not, branch_beq, branch_bne]
  simp only [push_cast, ↓branch_true, ↓branch_false, Nat.reduceBEq, Nat.reduceAdd, Nat.reduceMul, Nat.reduceSub, Int.reduceToNat, reduceCtorEq, branch_decide, branch_not, branch_beq, branch_bne]
  rw [show idxB (fun x => hasI x (fnd l s)) loads 0 = whI loads (fnd l s) from rfl]
  refine ⟨fun h => ?_, fun h => ?_⟩
  · have e : whE l loads s = 12 := by rw [whE, if_pos ht, if_pos hf, if_pos h]
    rw [whR, e]
    simp
  · have e : whE l loads s = 0 := by rw [whE, if_pos ht, if_pos hf, if_neg h]
    rw [whR, e]
    simp
end Go.Proofs.Ytdinkpefoljigaa
