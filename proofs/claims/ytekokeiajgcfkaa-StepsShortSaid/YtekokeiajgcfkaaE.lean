/- Contracts: breaks, joined. -/
import Derived.Test.YtekokeiajgcfkaaDA
set_option maxRecDepth 100000
set_option linter.unusedSimpArgs false
set_option linter.unusedVariables false
namespace Go.Proofs.Ytekokeiajgcfkaa
open Go.RowKit
theorem breaks_sp (a b : List Stp) (c d : Nat) : Sp Try.prog 48 [.s 0 0 0 a.length c 2, .s 1 0 0 b.length d 2] [rSt a, rSt b] (fun r H => r = .f (.func 59) [] [.p 2 0 0, .p 3 0 0] ∧ H = [rSt a, rSt b, bxS 0 0 a.length c, bxS 1 0 b.length d]) := by
  refine sp_of_ex true [] mixed Try.call48 Try.func48 rfl Try.ntmps48 Try.results48 (by decide +kernel) rfl ?_
  simp only [push_cast, ↓branch_true, ↓branch_false, Nat.reduceBEq, Nat.reduceAdd, Nat.reduceMul, Nat.reduceSub, Int.reduceToNat, reduceCtorEq, branch_decide, branch_not, branch_beq, branch_bne]
/-- What joined yields, step by step. -/
def opL (f : Int → Int → Int) (a b : List Stp) (l : List Int) : List Stp := l.map fun x => ⟨x, f (atL a x) (atL b x)⟩
def joinL (f : Int → Int → Int) (a b : List Stp) : List Stp := shortL 0 (opL f a b (brk a b))
def bigB (p : Stp) : Bool := decide (1099511627776 < p.v)
def joinE (f : Int → Int → Int) (a b : List Stp) : Int := if (validB a && validB b) = false then 1 else if (joinL f a b).any bigB then 5 else if 200 < (joinL f a b).length then 4 else 0
def joinR (f : Int → Int → Int) (a b : List Stp) : List Stp := if joinE f a b = 0 then joinL f a b else []
theorem joinR_err {f : Int → Int → Int} {a b : List Stp} {e : Int} (h : joinE f a b = e) (he : e ≠ 0) : joinR f a b = [] := by rw [joinR, if_neg (by rw [h]; exact he)]
theorem joinR_ok {f : Int → Int → Int} {a b : List Stp} (h : joinE f a b = 0) : joinR f a b = joinL f a b := by rw [joinR, if_pos h]
theorem joined1_pu (p : Stp) : Pu Try.prog 56 [.a (cSt p)] [] (.v (.bool (bigB p))) := by
  refine pu_of_ex true [] mixed Try.call56 Try.func56 rfl Try.ntmps56 Try.results56 (by decide +kernel) rfl rfl rfl ?_
  simp only [push_cast, ↓branch_true, ↓branch_false, Nat.reduceBEq, Nat.reduceAdd, Nat.reduceMul, Nat.reduceSub, Int.reduceToNat, reduceCtorEq, branch_decide, branch_not, branch_beq, branch_bne]
  unfold bigB
  rfl
theorem asgK_normal {E : Env} {body : Code} {K : Kt} {σ : Sl} {H : List Ob} : asgK E body K .normal σ H = ex E body σ H K := rfl
attribute [push_cast] asgK_normal
theorem at_range {l : List Stp} (h : validB l = true) (x : Int) : 0 ≤ atL l x ∧ atL l x ≤ 1099511627776 := by
  have hv := (valid_yes.1 h).2
  have c3 := (cntLe_ix (x := x) (asc_of hv)).2.2 0
  have hle := cntLe_le x l
  rw [atL, c3]
  split
  · omega
  · have := hv (cntLe x l - 1) (by omega)
    simp only [okAt, Bool.and_eq_true, decide_eq_true_eq] at this
    omega
theorem opL_len {f : Int → Int → Int} {a b : List Stp} {l : List Int} : (opL f a b l).length = l.length := by simp [opL]
theorem rnd_next {N : Nat} {σ : Sl} {H : List Ob} {KN KR : List Ob → Prop} (rl : List Nat) (H' : List Ob) (hk : (keepB 0 rl N && nodupB (liveL rl H') && Nat.beq rl.length H'.length) = true) (ho : obsM rl H rl H') (hn : KN H') : rndK N KN KR .normal σ H :=
  ⟨H', wk_mt rl hk ho fun _ _ _ d => by simp only [look, Ok], hn⟩
theorem brkF_len : ∀ (n : Nat) (a b : List Stp), (brkF n a b).length ≤ n
  | 0, _, _ => Nat.le_refl _
  | n + 1, a, b => by
    rw [brkF]
    split
    · exact Nat.zero_le _
    · have := brkF_len n (drp (nxt a b) a) (drp (nxt a b) b)
      simp only [List.length_cons]
      omega
theorem brk_len (a b : List Stp) : (brk a b).length ≤ a.length + b.length := brkF_len _ a b
theorem map_inj64 : ∀ {l m : List Int}, l.map (Value.int .i64) = m.map (Value.int .i64) → l = m
  | [], [], _ => rfl
  | [], _ :: _, h => by simp at h
  | _ :: _, [], h => by simp at h
  | x :: l, y :: m, h => by
    simp only [List.map_cons, List.cons.injEq, Value.int.injEq, true_and] at h
    rw [h.1, map_inj64 h.2]
theorem map_split : ∀ {D l : List Int} {v : Value} {rest : List Value}, l.map (Value.int .i64) = D.map (Value.int .i64) ++ v :: rest → ∃ x xs, l = D ++ x :: xs ∧ v = .int .i64 x
  | [], [], _, _, h => by simp at h
  | [], x :: l, v, rest, h => by
    simp only [List.map_cons, List.map_nil, List.nil_append, List.cons.injEq] at h
    exact ⟨x, l, rfl, h.1.symm⟩
  | _ :: _, [], _, _, h => by simp at h
  | d :: D, x :: l, v, rest, h => by
    simp only [List.map_cons, List.cons_append, List.cons.injEq, Value.int.injEq, true_and] at h
    obtain ⟨y, ys, h1, h2⟩ := map_split h.2
    exact ⟨y, ys, by rw [h.1, h1]; rfl, h2⟩
set_option maxHeartbeats 8000000 in
theorem joined_sp (f : Int → Int → Int) (a b : List Stp) (c d : Nat) (g : FuncId) (hla : a.length ≤ 250) (hlb : b.length ≤ 250)
    (hop : ∀ x y : Int, 0 ≤ x → x ≤ 1099511627776 → 0 ≤ y → y ≤ 1099511627776 → Pu Try.prog g [.v (.int .i64 x), .v (.int .i64 y)] [] (.v (.int .i64 (f x y)))) :
    Sp Try.prog 39 [.s 0 0 0 a.length c 2, .s 1 0 0 b.length d 2, .f (.func g) [] []] [rSt a, rSt b] (fun r H => ∃ cap, (joinR f a b).length ≤ cap ∧ r = .t [.s 2 0 0 (joinR f a b).length cap 2, .v (.int .i64 (joinE f a b))] ∧ H = [rSt a, rSt b, rSO (joinR f a b) cap]) := by
  refine sp_weak ?_
  refine sp_of_ex true [(6, .one 1 (.one 4 (.one 7 (.alt [(0, .alt [(2, .alt [(3, .alt [(5, .one 6 (.one 8 (.one 9 (.one 10 (.one 11 (.one 12 (.one 13 .fin))))))), (6, .one 5 (.one 8 (.one 9 (.one 10 (.one 11 (.one 12 (.one 13 .fin)))))))]), (6, .one 3 (.one 5 (.one 8 (.one 9 (.one 10 (.one 11 (.one 12 (.one 13 .fin))))))))]), (3, .alt [(2, .alt [(5, .one 6 (.one 8 (.one 9 (.one 10 (.one 11 (.one 12 (.one 13 .fin))))))), (6, .one 5 (.one 8 (.one 9 (.one 10 (.one 11 (.one 12 (.one 13 .fin)))))))]), (5, .alt [(2, .one 6 (.one 8 (.one 9 (.one 10 (.one 11 (.one 12 (.one 13 .fin))))))), (6, .alt [(2, .one 8 (.one 9 (.one 10 (.one 11 (.one 12 (.one 13 .fin)))))), (8, .one 2 (.one 9 (.one 10 (.one 11 (.one 12 (.one 13 .fin))))))])]), (6, .alt [(2, .one 5 (.one 8 (.one 9 (.one 10 (.one 11 (.one 12 (.one 13 .fin))))))), (5, .alt [(2, .one 8 (.one 9 (.one 10 (.one 11 (.one 12 (.one 13 .fin)))))), (8, .one 2 (.one 9 (.one 10 (.one 11 (.one 12 (.one 13 .fin))))))])])]), (6, .alt [(2, .one 3 (.one 5 (.one 8 (.one 9 (.one 10 (.one 11 (.one 12 (.one 13 .fin)))))))), (3, .alt [(2, .one 5 (.one 8 (.one 9 (.one 10 (.one 11 (.one 12 (.one 13 .fin))))))), (5, .alt [(2, .one 8 (.one 9 (.one 10 (.one 11 (.one 12 (.one 13 .fin)))))), (8, .one 2 (.one 9 (.one 10 (.one 11 (.one 12 (.one 13 .fin))))))])])])]), (2, .alt [(0, .alt [(3, .alt [(5, .one 6 (.one 8 (.one 9 (.one 10 (.one 11 (.one 12 (.one 13 .fin))))))), (6, .one 5 (.one 8 (.one 9 (.one 10 (.one 11 (.one 12 (.one 13 .fin)))))))]), (6, .one 3 (.one 5 (.one 8 (.one 9 (.one 10 (.one 11 (.one 12 (.one 13 .fin))))))))]), (3, .alt [(0, .alt [(5, .one 6 (.one 8 (.one 9 (.one 10 (.one 11 (.one 12 (.one 13 .fin))))))), (6, .one 5 (.one 8 (.one 9 (.one 10 (.one 11 (.one 12 (.one 13 .fin)))))))]), (5, .alt [(0, .one 6 (.one 8 (.one 9 (.one 10 (.one 11 (.one 12 (.one 13 .fin))))))), (6, .alt [(0, .one 8 (.one 9 (.one 10 (.one 11 (.one 12 (.one 13 .fin)))))), (8, .alt [(0, .one 9 (.one 10 (.one 11 (.one 12 (.one 13 .fin))))), (9, .one 10 (.alt [(0, .one 11 (.one 12 (.one 13 .fin))), (11, .one 0 (.one 12 (.one 13 .fin)))]))])])]), (6, .alt [(0, .one 5 (.one 8 (.one 9 (.one 10 (.one 11 (.one 12 (.one 13 .fin))))))), (5, .alt [(0, .one 8 (.one 9 (.one 10 (.one 11 (.one 12 (.one 13 .fin)))))), (8, .alt [(0, .one 9 (.one 10 (.one 11 (.one 12 (.one 13 .fin))))), (9, .one 10 (.alt [(0, .one 11 (.one 12 (.one 13 .fin))), (11, .one 0 (.one 12 (.one 13 .fin)))]))])])])]), (6, .alt [(0, .one 3 (.one 5 (.one 8 (.one 9 (.one 10 (.one 11 (.one 12 (.one 13 .fin)))))))), (3, .alt [(0, .one 5 (.one 8 (.one 9 (.one 10 (.one 11 (.one 12 (.one 13 .fin))))))), (5, .alt [(0, .one 8 (.one 9 (.one 10 (.one 11 (.one 12 (.one 13 .fin)))))), (8, .alt [(0, .one 9 (.one 10 (.one 11 (.one 12 (.one 13 .fin))))), (9, .one 10 (.alt [(0, .one 11 (.one 12 (.one 13 .fin))), (11, .one 0 (.one 12 (.one 13 .fin)))]))])])])])]), (3, .alt [(0, .alt [(2, .alt [(5, .one 6 (.one 8 (.one 9 (.one 10 (.one 11 (.one 12 (.one 13 .fin))))))), (6, .one 5 (.one 8 (.one 9 (.one 10 (.one 11 (.one 12 (.one 13 .fin)))))))]), (5, .alt [(2, .one 6 (.one 8 (.one 9 (.one 10 (.one 11 (.one 12 (.one 13 .fin))))))), (6, .alt [(2, .one 8 (.one 9 (.one 10 (.one 11 (.one 12 (.one 13 .fin)))))), (8, .one 2 (.one 9 (.one 10 (.one 11 (.one 12 (.one 13 .fin))))))])]), (6, .alt [(2, .one 5 (.one 8 (.one 9 (.one 10 (.one 11 (.one 12 (.one 13 .fin))))))), (5, .alt [(2, .one 8 (.one 9 (.one 10 (.one 11 (.one 12 (.one 13 .fin)))))), (8, .one 2 (.one 9 (.one 10 (.one 11 (.one 12 (.one 13 .fin))))))])])]), (2, .alt [(0, .alt [(5, .one 6 (.one 8 (.one 9 (.one 10 (.one 11 (.one 12 (.one 13 .fin))))))), (6, .one 5 (.one 8 (.one 9 (.one 10 (.one 11 (.one 12 (.one 13 .fin)))))))]), (5, .alt [(0, .one 6 (.one 8 (.one 9 (.one 10 (.one 11 (.one 12 (.one 13 .fin))))))), (6, .alt [(0, .one 8 (.one 9 (.one 10 (.one 11 (.one 12 (.one 13 .fin)))))), (8, .alt [(0, .one 9 (.one 10 (.one 11 (.one 12 (.one 13 .fin))))), (9, .one 10 (.alt [(0, .one 11 (.one 12 (.one 13 .fin))), (11, .one 0 (.one 12 (.one 13 .fin)))]))])])]), (6, .alt [(0, .one 5 (.one 8 (.one 9 (.one 10 (.one 11 (.one 12 (.one 13 .fin))))))), (5, .alt [(0, .one 8 (.one 9 (.one 10 (.one 11 (.one 12 (.one 13 .fin)))))), (8, .alt [(0, .one 9 (.one 10 (.one 11 (.one 12 (.one 13 .fin))))), (9, .one 10 (.alt [(0, .one 11 (.one 12 (.one 13 .fin))), (11, .one 0 (.one 12 (.one 13 .fin)))]))])])])]), (5, .alt [(0, .alt [(2, .one 6 (.one 8 (.one 9 (.one 10 (.one 11 (.one 12 (.one 13 .fin))))))), (6, .alt [(2, .one 8 (.one 9 (.one 10 (.one 11 (.one 12 (.one 13 .fin)))))), (8, .one 2 (.one 9 (.one 10 (.one 11 (.one 12 (.one 13 .fin))))))])]), (2, .alt [(0, .one 6 (.one 8 (.one 9 (.one 10 (.one 11 (.one 12 (.one 13 .fin))))))), (6, .alt [(0, .one 8 (.one 9 (.one 10 (.one 11 (.one 12 (.one 13 .fin)))))), (8, .alt [(0, .one 9 (.one 10 (.one 11 (.one 12 (.one 13 .fin))))), (9, .one 10 (.alt [(0, .one 11 (.one 12 (.one 13 .fin))), (11, .one 0 (.one 12 (.one 13 .fin)))]))])])]), (6, .alt [(0, .alt [(2, .one 8 (.one 9 (.one 10 (.one 11 (.one 12 (.one 13 .fin)))))), (8, .one 2 (.one 9 (.one 10 (.one 11 (.one 12 (.one 13 .fin))))))]), (2, .alt [(0, .one 8 (.one 9 (.one 10 (.one 11 (.one 12 (.one 13 .fin)))))), (8, .alt [(0, .one 9 (.one 10 (.one 11 (.one 12 (.one 13 .fin))))), (9, .one 10 (.alt [(0, .one 11 (.one 12 (.one 13 .fin))), (11, .one 0 (.one 12 (.one 13 .fin)))]))])]), (8, .alt [(0, .one 2 (.one 9 (.one 10 (.one 11 (.one 12 (.one 13 .fin)))))), (2, .alt [(0, .one 9 (.one 10 (.one 11 (.one 12 (.one 13 .fin))))), (9, .one 10 (.alt [(0, .one 11 (.one 12 (.one 13 .fin))), (11, .one 0 (.one 12 (.one 13 .fin)))]))])])])]), (6, .alt [(0, .alt [(2, .one 5 (.one 8 (.one 9 (.one 10 (.one 11 (.one 12 (.one 13 .fin))))))), (5, .alt [(2, .one 8 (.one 9 (.one 10 (.one 11 (.one 12 (.one 13 .fin)))))), (8, .one 2 (.one 9 (.one 10 (.one 11 (.one 12 (.one 13 .fin))))))])]), (2, .alt [(0, .one 5 (.one 8 (.one 9 (.one 10 (.one 11 (.one 12 (.one 13 .fin))))))), (5, .alt [(0, .one 8 (.one 9 (.one 10 (.one 11 (.one 12 (.one 13 .fin)))))), (8, .alt [(0, .one 9 (.one 10 (.one 11 (.one 12 (.one 13 .fin))))), (9, .one 10 (.alt [(0, .one 11 (.one 12 (.one 13 .fin))), (11, .one 0 (.one 12 (.one 13 .fin)))]))])])]), (5, .alt [(0, .alt [(2, .one 8 (.one 9 (.one 10 (.one 11 (.one 12 (.one 13 .fin)))))), (8, .one 2 (.one 9 (.one 10 (.one 11 (.one 12 (.one 13 .fin))))))]), (2, .alt [(0, .one 8 (.one 9 (.one 10 (.one 11 (.one 12 (.one 13 .fin)))))), (8, .alt [(0, .one 9 (.one 10 (.one 11 (.one 12 (.one 13 .fin))))), (9, .one 10 (.alt [(0, .one 11 (.one 12 (.one 13 .fin))), (11, .one 0 (.one 12 (.one 13 .fin)))]))])]), (8, .alt [(0, .one 2 (.one 9 (.one 10 (.one 11 (.one 12 (.one 13 .fin)))))), (2, .alt [(0, .one 9 (.one 10 (.one 11 (.one 12 (.one 13 .fin))))), (9, .one 10 (.alt [(0, .one 11 (.one 12 (.one 13 .fin))), (11, .one 0 (.one 12 (.one 13 .fin)))]))])])])])]), (6, .alt [(0, .alt [(2, .one 3 (.one 5 (.one 8 (.one 9 (.one 10 (.one 11 (.one 12 (.one 13 .fin)))))))), (3, .alt [(2, .one 5 (.one 8 (.one 9 (.one 10 (.one 11 (.one 12 (.one 13 .fin))))))), (5, .alt [(2, .one 8 (.one 9 (.one 10 (.one 11 (.one 12 (.one 13 .fin)))))), (8, .one 2 (.one 9 (.one 10 (.one 11 (.one 12 (.one 13 .fin))))))])])]), (2, .alt [(0, .one 3 (.one 5 (.one 8 (.one 9 (.one 10 (.one 11 (.one 12 (.one 13 .fin)))))))), (3, .alt [(0, .one 5 (.one 8 (.one 9 (.one 10 (.one 11 (.one 12 (.one 13 .fin))))))), (5, .alt [(0, .one 8 (.one 9 (.one 10 (.one 11 (.one 12 (.one 13 .fin)))))), (8, .alt [(0, .one 9 (.one 10 (.one 11 (.one 12 (.one 13 .fin))))), (9, .one 10 (.alt [(0, .one 11 (.one 12 (.one 13 .fin))), (11, .one 0 (.one 12 (.one 13 .fin)))]))])])])]), (3, .alt [(0, .alt [(2, .one 5 (.one 8 (.one 9 (.one 10 (.one 11 (.one 12 (.one 13 .fin))))))), (5, .alt [(2, .one 8 (.one 9 (.one 10 (.one 11 (.one 12 (.one 13 .fin)))))), (8, .one 2 (.one 9 (.one 10 (.one 11 (.one 12 (.one 13 .fin))))))])]), (2, .alt [(0, .one 5 (.one 8 (.one 9 (.one 10 (.one 11 (.one 12 (.one 13 .fin))))))), (5, .alt [(0, .one 8 (.one 9 (.one 10 (.one 11 (.one 12 (.one 13 .fin)))))), (8, .alt [(0, .one 9 (.one 10 (.one 11 (.one 12 (.one 13 .fin))))), (9, .one 10 (.alt [(0, .one 11 (.one 12 (.one 13 .fin))), (11, .one 0 (.one 12 (.one 13 .fin)))]))])])]), (5, .alt [(0, .alt [(2, .one 8 (.one 9 (.one 10 (.one 11 (.one 12 (.one 13 .fin)))))), (8, .one 2 (.one 9 (.one 10 (.one 11 (.one 12 (.one 13 .fin))))))]), (2, .alt [(0, .one 8 (.one 9 (.one 10 (.one 11 (.one 12 (.one 13 .fin)))))), (8, .alt [(0, .one 9 (.one 10 (.one 11 (.one 12 (.one 13 .fin))))), (9, .one 10 (.alt [(0, .one 11 (.one 12 (.one 13 .fin))), (11, .one 0 (.one 12 (.one 13 .fin)))]))])]), (8, .alt [(0, .one 2 (.one 9 (.one 10 (.one 11 (.one 12 (.one 13 .fin)))))), (2, .alt [(0, .one 9 (.one 10 (.one 11 (.one 12 (.one 13 .fin))))), (9, .one 10 (.alt [(0, .one 11 (.one 12 (.one 13 .fin))), (11, .one 0 (.one 12 (.one 13 .fin)))]))])])])])])]))))] mixed Try.call39 Try.func39 rfl Try.ntmps39 Try.results39 (by decide +kernel) rfl ?_
  simp only [push_cast, ↓branch_true, ↓branch_false, Nat.reduceBEq, Nat.reduceAdd, Nat.reduceMul, Nat.reduceSub, Int.reduceToNat, reduceCtorEq, branch_decide, branch_not, branch_beq, branch_bne]
  refine sp_call (valid_pu a c (by omega)) rfl [0] rfl (by simp only [push_cast, ↓branch_true, ↓branch_false, Nat.reduceBEq, Nat.reduceAdd, Nat.reduceMul, Nat.reduceSub, Int.reduceToNat, reduceCtorEq, branch_decide, branch_not, branch_beq, branch_bne]) (by simp only [push_cast, ↓branch_true, ↓branch_false, Nat.reduceBEq, Nat.reduceAdd, Nat.reduceMul, Nat.reduceSub, Int.reduceToNat, reduceCtorEq, branch_decide, branch_not, branch_beq, branch_bne]) ?_
  simp only [push_cast, ↓branch_true, ↓branch_false, Nat.reduceBEq, Nat.reduceAdd, Nat.reduceMul, Nat.reduceSub, Int.reduceToNat, reduceCtorEq, branch_decide, branch_not, branch_beq, branch_bne]
  cases hva : validB a with
  | false =>
    simp only [push_cast, ↓branch_true, ↓branch_false, Nat.reduceBEq, Nat.reduceAdd, Nat.reduceMul, Nat.reduceSub, Int.reduceToNat, reduceCtorEq, branch_decide, branch_not, branch_beq, branch_bne]
    have he : joinE f a b = 1 := by simp [joinE, hva]
    have hr := joinR_err he (by decide)
    rw [he, hr]
    refine ⟨_, _, [0, 1, 5], ?_, by kernel_rfl, ?_, 0, Nat.le_refl _, rfl, rfl⟩
    · simp only [push_cast, ↓branch_true, ↓branch_false, Nat.reduceBEq, Nat.reduceAdd, Nat.reduceMul, Nat.reduceSub, Int.reduceToNat, reduceCtorEq, branch_decide, branch_not, branch_beq, branch_bne]
    · simp only [push_cast, ↓branch_true, ↓branch_false, Nat.reduceBEq, Nat.reduceAdd, Nat.reduceMul, Nat.reduceSub, Int.reduceToNat, reduceCtorEq, branch_decide, branch_not, branch_beq, branch_bne]
  | true =>
  simp only [push_cast, ↓branch_true, ↓branch_false, Nat.reduceBEq, Nat.reduceAdd, Nat.reduceMul, Nat.reduceSub, Int.reduceToNat, reduceCtorEq, branch_decide, branch_not, branch_beq, branch_bne]
  refine sp_call (valid_pu b d (by omega)) rfl [1] rfl (by simp only [push_cast, ↓branch_true, ↓branch_false, Nat.reduceBEq, Nat.reduceAdd, Nat.reduceMul, Nat.reduceSub, Int.reduceToNat, reduceCtorEq, branch_decide, branch_not, branch_beq, branch_bne]) (by simp only [push_cast, ↓branch_true, ↓branch_false, Nat.reduceBEq, Nat.reduceAdd, Nat.reduceMul, Nat.reduceSub, Int.reduceToNat, reduceCtorEq, branch_decide, branch_not, branch_beq, branch_bne]) ?_
  simp only [push_cast, ↓branch_true, ↓branch_false, Nat.reduceBEq, Nat.reduceAdd, Nat.reduceMul, Nat.reduceSub, Int.reduceToNat, reduceCtorEq, branch_decide, branch_not, branch_beq, branch_bne]
  cases hvb : validB b with
  | false =>
    simp only [push_cast, ↓branch_true, ↓branch_false, Nat.reduceBEq, Nat.reduceAdd, Nat.reduceMul, Nat.reduceSub, Int.reduceToNat, reduceCtorEq, branch_decide, branch_not, branch_beq, branch_bne]
    have he : joinE f a b = 1 := by simp [joinE, hvb]
    have hr := joinR_err he (by decide)
    rw [he, hr]
    refine ⟨_, _, [0, 1, 5], ?_, by kernel_rfl, ?_, 0, Nat.le_refl _, rfl, rfl⟩
    · simp only [push_cast, ↓branch_true, ↓branch_false, Nat.reduceBEq, Nat.reduceAdd, Nat.reduceMul, Nat.reduceSub, Int.reduceToNat, reduceCtorEq, branch_decide, branch_not, branch_beq, branch_bne]
    · simp only [push_cast, ↓branch_true, ↓branch_false, Nat.reduceBEq, Nat.reduceAdd, Nat.reduceMul, Nat.reduceSub, Int.reduceToNat, reduceCtorEq, branch_decide, branch_not, branch_beq, branch_bne]
  | true =>
  have ha200 := (valid_yes.1 hva).1
  have hb200 := (valid_yes.1 hvb).1
  simp only [push_cast, ↓branch_true, ↓branch_false, Nat.reduceBEq, Nat.reduceAdd, Nat.reduceMul, Nat.reduceSub, Int.reduceToNat, reduceCtorEq, branch_decide, branch_not, branch_beq, branch_bne]
  refine sp_at (breaks_sp a b c d) [0, 1] rfl ?_ ?_ ?_
  · simp only [push_cast, ↓branch_true, ↓branch_false, Nat.reduceBEq, Nat.reduceAdd, Nat.reduceMul, Nat.reduceSub, Int.reduceToNat, reduceCtorEq, branch_decide, branch_not, branch_beq, branch_bne]
  · simp only [push_cast, ↓branch_true, ↓branch_false, Nat.reduceBEq, Nat.reduceAdd, Nat.reduceMul, Nat.reduceSub, Int.reduceToNat, reduceCtorEq, branch_decide, branch_not, branch_beq, branch_bne]
  rintro _ _ ⟨rfl, rfl⟩
  simp only [push_cast, ↓branch_true, ↓branch_false, Nat.reduceBEq, Nat.reduceAdd, Nat.reduceMul, Nat.reduceSub, Int.reduceToNat, reduceCtorEq, branch_decide, branch_not, branch_beq, branch_bne]
  refine tr_mt (σ' := [(20, .f (.func 59) [] [.p 2 0 0, .p 3 0 0]), (8, .p 7 0 0), (5, .p 6 0 0), (4, .p 5 0 0), (3, .p 4 0 0), (7, .v (.int .i64 0)), (6, .v (.slice none 0 0))]) (H' := brO a b ⟨0, a.length, c, 0, b.length, d⟩ ++ [bxS 0 0 a.length c, bxS 1 0 b.length d, ⟨37, false, .st [.f (.func g) [] []]⟩, ⟨22, false, .st [.s 8 0 0 0 0 2]⟩, rSO [] 0]) [0, 1, 6, 7, 2, 3, 4, 5, 8] ⟨by kernel_rfl, ?_, ?_⟩ ?_
  · simp only [push_cast, ↓branch_true, ↓branch_false, Nat.reduceBEq, Nat.reduceAdd, Nat.reduceMul, Nat.reduceSub, Int.reduceToNat, reduceCtorEq, branch_decide, branch_not, branch_beq, branch_bne]
  · simp only [push_cast, ↓branch_true, ↓branch_false, Nat.reduceBEq, Nat.reduceAdd, Nat.reduceMul, Nat.reduceSub, Int.reduceToNat, reduceCtorEq, branch_decide, branch_not, branch_beq, branch_bne, brO, List.cons_append, List.nil_append]
  refine tr_range 8 (fun dd T => ∃ (D : List Int) (cap : Nat), dd = D.map (Value.int .i64) ∧ D.length ≤ cap ∧ T = [bxS 0 0 a.length c, bxS 1 0 b.length d, ⟨37, false, .st [.f (.func g) [] []]⟩, ⟨22, false, .st [.s 8 0 0 D.length cap 2]⟩, rSO (opL f a b D) cap]) mixed (breaks_it a b c d (by omega) (by omega)) (fun _ _ => rfl) rfl Try.call59 (by decide +kernel) rfl (by simp [brO]) ⟨[], 0, rfl, Nat.le_refl _, rfl⟩ ?_ ?_
  · rintro dd v rest ⟨bi, bp, bc, bj, bq, bd⟩ T hv ⟨D, cap, rfl, hD, rfl⟩
    obtain ⟨x, xs, hx, rfl⟩ := map_split hv
    have hDl : D.length ≤ 400 := by
      have h1 := brk_len a b
      rw [hx] at h1
      simp only [List.length_append, List.length_cons] at h1
      omega
    have h1 := at_pu a x c (by omega) (asc_of (valid_yes.1 hva).2)
    have h2 := at_pu b x d (by omega) (asc_of (valid_yes.1 hvb).2)
    have h3 := hop (atL a x) (atL b x) (at_range hva x).1 (at_range hva x).2 (at_range hvb x).1 (at_range hvb x).2
    simp only [push_cast, ↓branch_true, ↓branch_false, Nat.reduceBEq, Nat.reduceAdd, Nat.reduceMul, Nat.reduceSub, Int.reduceToNat, reduceCtorEq, branch_decide, branch_not, branch_beq, branch_bne, brO, List.cons_append, List.nil_append]
    repeat' first
      | with_reducible apply And.intro
      | (refine sp_call h1 rfl [0] rfl ?_ ?_ ?_; (· (simp only [push_cast, ↓branch_true, ↓branch_false, Nat.reduceBEq, Nat.reduceAdd, Nat.reduceMul, Nat.reduceSub, Int.reduceToNat, reduceCtorEq, branch_decide, branch_not, branch_beq, branch_bne])); (· (simp only [push_cast, ↓branch_true, ↓branch_false, Nat.reduceBEq, Nat.reduceAdd, Nat.reduceMul, Nat.reduceSub, Int.reduceToNat, reduceCtorEq, branch_decide, branch_not, branch_beq, branch_bne])); (simp only [push_cast, ↓branch_true, ↓branch_false, Nat.reduceBEq, Nat.reduceAdd, Nat.reduceMul, Nat.reduceSub, Int.reduceToNat, reduceCtorEq, branch_decide, branch_not, branch_beq, branch_bne]))
      | (refine sp_call h2 rfl [1] rfl ?_ ?_ ?_; (· (simp only [push_cast, ↓branch_true, ↓branch_false, Nat.reduceBEq, Nat.reduceAdd, Nat.reduceMul, Nat.reduceSub, Int.reduceToNat, reduceCtorEq, branch_decide, branch_not, branch_beq, branch_bne])); (· (simp only [push_cast, ↓branch_true, ↓branch_false, Nat.reduceBEq, Nat.reduceAdd, Nat.reduceMul, Nat.reduceSub, Int.reduceToNat, reduceCtorEq, branch_decide, branch_not, branch_beq, branch_bne])); (simp only [push_cast, ↓branch_true, ↓branch_false, Nat.reduceBEq, Nat.reduceAdd, Nat.reduceMul, Nat.reduceSub, Int.reduceToNat, reduceCtorEq, branch_decide, branch_not, branch_beq, branch_bne]))
      | (refine sp_call h3 rfl [] rfl ?_ ?_ ?_; (· (simp only [push_cast, ↓branch_true, ↓branch_false, Nat.reduceBEq, Nat.reduceAdd, Nat.reduceMul, Nat.reduceSub, Int.reduceToNat, reduceCtorEq, branch_decide, branch_not, branch_beq, branch_bne])); (· (simp only [push_cast, ↓branch_true, ↓branch_false, Nat.reduceBEq, Nat.reduceAdd, Nat.reduceMul, Nat.reduceSub, Int.reduceToNat, reduceCtorEq, branch_decide, branch_not, branch_beq, branch_bne])); (simp only [push_cast, ↓branch_true, ↓branch_false, Nat.reduceBEq, Nat.reduceAdd, Nat.reduceMul, Nat.reduceSub, Int.reduceToNat, reduceCtorEq, branch_decide, branch_not, branch_beq, branch_bne]))
      | (with_reducible refine Or.inr ?_)
      | (with_reducible intro _ _)
    all_goals first | omega | (rw [opL_len]; done) | skip
    all_goals
      rename_i cap2 hcap2
      refine rnd_next [0, 1, 2, 3, 4, 5, 6, 7, 10] (brO a b ⟨bi, bp, bc, bj, bq, bd⟩ ++ [bxS 0 0 a.length c, bxS 1 0 b.length d, ⟨37, false, .st [.f (.func g) [] []]⟩, ⟨22, false, .st [.s 8 0 0 (D ++ [x]).length cap2 2]⟩, rSO (opL f a b (D ++ [x])) cap2]) (by kernel_rfl) ?_ ⟨_, rfl, D ++ [x], cap2, by simp, by simp only [List.length_append, List.length_cons, List.length_nil]; omega, rfl⟩
      simp only [push_cast, ↓branch_true, ↓branch_false, Nat.reduceBEq, Nat.reduceAdd, Nat.reduceMul, Nat.reduceSub, Int.reduceToNat, reduceCtorEq, branch_decide, branch_not, branch_beq, branch_bne, brO, List.cons_append, List.nil_append]
      have hap := app_st (p := opL f a b D) (q := opL f a b (D ++ [x])) (v := ⟨x, f (atL a x) (atL b x)⟩) (by simp [opL]) [0, 1, 2, 3, 4, 5, 6, 7, 10]
      simp only [opL_len] at hap ⊢
      exact ⟨by simp, fun i hi => hap⟩
  · rintro ⟨bi, bp, bc, bj, bq, bd⟩ T ⟨D, cap, hv, hD, rfl⟩
    obtain rfl := map_inj64 hv
    have hDl := brk_len a b
    simp only [push_cast, ↓branch_true, ↓branch_false, Nat.reduceBEq, Nat.reduceAdd, Nat.reduceMul, Nat.reduceSub, Int.reduceToNat, reduceCtorEq, branch_decide, branch_not, branch_beq, branch_bne, brO, List.cons_append, List.nil_append]
    refine sp_at (short_sp (opL f a b (brk a b)) cap (by rw [opL_len]; omega)) [8] rfl ?_ ?_ ?_
    · simp only [push_cast, ↓branch_true, ↓branch_false, Nat.reduceBEq, Nat.reduceAdd, Nat.reduceMul, Nat.reduceSub, Int.reduceToNat, reduceCtorEq, branch_decide, branch_not, branch_beq, branch_bne, opL_len]
    · simp only [push_cast, ↓branch_true, ↓branch_false, Nat.reduceBEq, Nat.reduceAdd, Nat.reduceMul, Nat.reduceSub, Int.reduceToNat, reduceCtorEq, branch_decide, branch_not, branch_beq, branch_bne]
    rintro _ _ ⟨cap2, hcap2, rfl, rfl⟩
    simp only [push_cast, ↓branch_true, ↓branch_false, Nat.reduceBEq, Nat.reduceAdd, Nat.reduceMul, Nat.reduceSub, Int.reduceToNat, reduceCtorEq, branch_decide, branch_not, branch_beq, branch_bne]
    have hJl := shortL_len (opL f a b (brk a b)) 0
    rw [opL_len] at hJl
    obtain ⟨J, hJ⟩ : ∃ J, J = shortL 0 (opL f a b (brk a b)) := ⟨_, rfl⟩
    have hJ2 : joinL f a b = J := by rw [hJ]; rfl
    rw [← hJ] at hcap2 hJl ⊢
    have hc : Pu Try.prog 55 [.s 0 0 0 J.length cap2 2, .f (.func 56) [] []] [rSt J] (.v (.bool (J.any bigB))) := containsSt_pu J cap2 56 [] [] [] bigB rfl (by omega) fun p _ => by
      refine pu_at (joined1_pu p) rfl [] rfl ?_ ?_ <;> (simp only [push_cast, ↓branch_true, ↓branch_false, Nat.reduceBEq, Nat.reduceAdd, Nat.reduceMul, Nat.reduceSub, Int.reduceToNat, reduceCtorEq, branch_decide, branch_not, branch_beq, branch_bne])
    refine sp_call (hc) rfl [9] rfl (by simp only [push_cast, ↓branch_true, ↓branch_false, Nat.reduceBEq, Nat.reduceAdd, Nat.reduceMul, Nat.reduceSub, Int.reduceToNat, reduceCtorEq, branch_decide, branch_not, branch_beq, branch_bne]) (by simp only [push_cast, ↓branch_true, ↓branch_false, Nat.reduceBEq, Nat.reduceAdd, Nat.reduceMul, Nat.reduceSub, Int.reduceToNat, reduceCtorEq, branch_decide, branch_not, branch_beq, branch_bne]) ?_
    simp only [push_cast, ↓branch_true, ↓branch_false, Nat.reduceBEq, Nat.reduceAdd, Nat.reduceMul, Nat.reduceSub, Int.reduceToNat, reduceCtorEq, branch_decide, branch_not, branch_beq, branch_bne]
    simp only [branch]
    refine ⟨fun h5 => ?_, fun h5 => ⟨fun h6 => ?_, fun h6 => ?_⟩⟩
    · have he : joinE f a b = 5 := by simp [joinE, hva, hvb, hJ2, h5]
      have hr := joinR_err he (by decide)
      rw [he, hr]
      refine ⟨_, _, [0, 1, 10], ?_, by kernel_rfl, ?_, 0, Nat.le_refl _, rfl, rfl⟩
      · simp only [push_cast, ↓branch_true, ↓branch_false, Nat.reduceBEq, Nat.reduceAdd, Nat.reduceMul, Nat.reduceSub, Int.reduceToNat, reduceCtorEq, branch_decide, branch_not, branch_beq, branch_bne]
      · simp only [push_cast, ↓branch_true, ↓branch_false, Nat.reduceBEq, Nat.reduceAdd, Nat.reduceMul, Nat.reduceSub, Int.reduceToNat, reduceCtorEq, branch_decide, branch_not, branch_beq, branch_bne]
    · have he : joinE f a b = 4 := by
        have : 200 < J.length := by omega
        simp [joinE, hva, hvb, hJ2, h5, this]
      have hr := joinR_err he (by decide)
      rw [he, hr]
      refine ⟨_, _, [0, 1, 10], ?_, by kernel_rfl, ?_, 0, Nat.le_refl _, rfl, rfl⟩
      · simp only [push_cast, ↓branch_true, ↓branch_false, Nat.reduceBEq, Nat.reduceAdd, Nat.reduceMul, Nat.reduceSub, Int.reduceToNat, reduceCtorEq, branch_decide, branch_not, branch_beq, branch_bne]
      · simp only [push_cast, ↓branch_true, ↓branch_false, Nat.reduceBEq, Nat.reduceAdd, Nat.reduceMul, Nat.reduceSub, Int.reduceToNat, reduceCtorEq, branch_decide, branch_not, branch_beq, branch_bne]
    · have he : joinE f a b = 0 := by
        have : ¬ 200 < J.length := by omega
        simp [joinE, hva, hvb, hJ2, h5, this]
      have hr := joinR_ok he
      rw [he, hr, hJ2]
      refine ⟨_, _, [0, 1, 9], ?_, by kernel_rfl, ?_, cap2, hcap2, rfl, rfl⟩
      · simp only [push_cast, ↓branch_true, ↓branch_false, Nat.reduceBEq, Nat.reduceAdd, Nat.reduceMul, Nat.reduceSub, Int.reduceToNat, reduceCtorEq, branch_decide, branch_not, branch_beq, branch_bne]
      · simp only [push_cast, ↓branch_true, ↓branch_false, Nat.reduceBEq, Nat.reduceAdd, Nat.reduceMul, Nat.reduceSub, Int.reduceToNat, reduceCtorEq, branch_decide, branch_not, branch_beq, branch_bne]
end Go.Proofs.Ytekokeiajgcfkaa
