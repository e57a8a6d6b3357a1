/- Contracts: plans and right plans. -/
import Derived.Test.YthlpfjcjfhdmaaaF
set_option maxRecDepth 100000
set_option linter.unusedSimpArgs false
set_option linter.unusedVariables false
namespace Go.Proofs.Ythlpfjcjfhdmaaa
open Go.RowKit
def nopB (s : List Pc) (x : Pt) : Bool := decide (x.stock < 0) || decide ((s.length : Int) ≤ x.stock) || decide (x.times < 1) || decide (1000000 < x.times)
def planB (s : List Pc) (p : List Pt) : Bool := decide (p.length ≤ 1000) && !p.any (nopB s)
theorem plan_at {s : List Pc} {p : List Pt} (h : planB s p = true) {k : Nat} (hk : k < p.length) : 0 ≤ (ix p k).stock ∧ (ix p k).stock < s.length ∧ 1 ≤ (ix p k).times ∧ (ix p k).times ≤ 1000000 := by
  simp only [planB, Bool.and_eq_true, Bool.not_eq_true', List.any_eq_false] at h
  have := h.2 _ (ix_mem hk)
  simp only [nopB, Bool.or_eq_true, decide_eq_true_eq] at this
  omega
theorem plan_len {s : List Pc} {p : List Pt} (h : planB s p = true) : p.length ≤ 1000 := by
  simp only [planB, Bool.and_eq_true, decide_eq_true_eq] at h
  exact h.1
theorem plan_no {s : List Pc} {p : List Pt} {k : Nat} (hk : k < p.length) (h : nopB s (ix p k) = true) : planB s p = false := by
  have : p.any (nopB s) = true := List.any_eq_true.2 ⟨_, ix_mem hk, h⟩
  simp [planB, this]
theorem plan_yes {s : List Pc} {p : List Pt} (h0 : p.length ≤ 1000) (h : ∀ k, k < p.length → nopB s (ix p k) = false) : planB s p = true := by
  simp only [planB, Bool.and_eq_true, decide_eq_true_eq, Bool.not_eq_true', List.any_eq_false]
  refine ⟨h0, fun x hx => ?_⟩
  obtain ⟨k, hk, rfl⟩ := List.getElem_of_mem hx
  rw [← ix_eq hk, h k hk]; decide
theorem indexPt_pu (o : List Pt) (cp : Nat → Nat) (F c : Nat) (g : FuncId) (fs cs : List SV) (H : List Ob) (p : Pt → Bool) (hro : roB H = true) (hl : o.length ≤ 9223372036854775807)
    (hp : ∀ k, k < o.length → Pu Try.prog g (fs ++ [.a (cPt F o cp k)] ++ cs) (rPt F o cp :: H) (.v (.bool (p (ix o k))))) : Pu Try.prog 74 [.s 0 0 0 o.length c 3, .f (.func g) fs cs] (rPt F o cp :: H) (.v (.int .i64 (idxB p o 0))) := by
  refine pu_of_ex true [] mixed Try.call74 Try.func74 rfl Try.ntmps74 Try.results74 (by decide +kernel) rfl (by simp [roB, hro, rPt]) rfl ?_
  simp only [push_cast, ↓branch_true, ↓branch_false, Nat.reduceBEq, Nat.reduceAdd, Nat.reduceMul, Nat.reduceSub, Int.reduceToNat, reduceCtorEq, branch_decide, branch_not, branch_beq, branch_bne]
  refine tr_loop0 mixed (by kernel_rfl) (fun (k : Nat) => [(8, .v (.int .i64 k)), (7, .v (.int .i64 o.length)), (0, .s 0 0 0 o.length c 3), (1, .f (.func g) fs cs)]) (fun k => k ≤ o.length ∧ ∀ j, j < k → p (ix o j) = false) (fun k => o.length - k) 0 ⟨Nat.zero_le _, fun j h => by omega⟩ ?_ ?_
  · simp only [push_cast, ↓branch_true, ↓branch_false, Nat.reduceBEq, Nat.reduceAdd, Nat.reduceMul, Nat.reduceSub, Int.reduceToNat, reduceCtorEq, branch_decide, branch_not, branch_beq, branch_bne]
  · rintro k ⟨hk, hn⟩
    simp only [push_cast, ↓branch_true, ↓branch_false, Nat.reduceBEq, Nat.reduceAdd, Nat.reduceMul, Nat.reduceSub, Int.reduceToNat, reduceCtorEq, branch_decide, branch_not, branch_beq, branch_bne]
    refine ⟨fun h1 => ?_, fun h1 => ?_⟩
    · repeat (with_reducible refine And.intro (by omega) ?_)
      have hp1 := hp k (by omega)
      refine sp_pu (by simpa only [push_cast] using hp1) ?_
      simp only [push_cast, ↓branch_true, ↓branch_false, Nat.reduceBEq, Nat.reduceAdd, Nat.reduceMul, Nat.reduceSub, Int.reduceToNat, reduceCtorEq, branch_decide, branch_not, branch_beq, branch_bne]
      simp only [branch]
      refine ⟨fun h2 => ?_, fun h2 => ?_⟩
      · rw [idxB_at p o 0 k (by omega) hn h2]; simp
      · repeat (with_reducible refine And.intro (by omega) ?_)
        refine lp0_normal (k + 1) ⟨by omega, fun j hj => ?_⟩ (by omega) ?_
        · by_cases e : j = k
          · rw [e]; exact h2
          · exact hn j (by omega)
        · simp only [push_cast, ↓branch_true, ↓branch_false, Nat.reduceBEq, Nat.reduceAdd, Nat.reduceMul, Nat.reduceSub, Int.reduceToNat, reduceCtorEq, branch_decide, branch_not, branch_beq, branch_bne]
    · rw [idxB_none p o 0 fun j hj => hn j (by omega)]
theorem containsPt_pu (o : List Pt) (cp : Nat → Nat) (F c : Nat) (g : FuncId) (fs cs : List SV) (H : List Ob) (p : Pt → Bool) (hro : roB H = true) (hl : o.length ≤ 9223372036854775807)
    (hp : ∀ k, k < o.length → Pu Try.prog g (fs ++ [.a (cPt F o cp k)] ++ cs) (rPt F o cp :: H) (.v (.bool (p (ix o k))))) : Pu Try.prog 44 [.s 0 0 0 o.length c 3, .f (.func g) fs cs] (rPt F o cp :: H) (.v (.bool (o.any p))) := by
  refine pu_of_ex true [] mixed Try.call44 Try.func44 rfl Try.ntmps44 Try.results44 (by decide +kernel) rfl (by simp [roB, hro, rPt]) rfl ?_
  simp only [push_cast, ↓branch_true, ↓branch_false, Nat.reduceBEq, Nat.reduceAdd, Nat.reduceMul, Nat.reduceSub, Int.reduceToNat, reduceCtorEq, branch_decide, branch_not, branch_beq, branch_bne]
  refine sp_pu (indexPt_pu o cp F c g fs cs H p hro hl hp) ?_
  simp only [push_cast, ↓branch_true, ↓branch_false, Nat.reduceBEq, Nat.reduceAdd, Nat.reduceMul, Nat.reduceSub, Int.reduceToNat, reduceCtorEq, branch_decide, branch_not, branch_beq, branch_bne]
  rw [idxB_any p o 0 (Int.le_refl 0)]
/-- A variable that holds stock. -/
def rBoxS (j n c : Nat) : Ob := ⟨22, true, .st [.s j 0 0 n c 2]⟩
attribute [push_cast] rBoxS
theorem nop_pu (s : List Pc) (p : List Pt) (cp : Nat → Nat) (N c k : Nat) (G : Nat → List Int) : Pu Try.prog 84 [.a (cPt 1 p cp k), .p 2 0 0] [rPt 1 p cp, rFm N G, rBoxS 3 s.length c, rSt s] (.v (.bool (nopB s (ix p k)))) := by
  refine pu_of_ex true [] mixed Try.call84 Try.func84 rfl Try.ntmps84 Try.results84 (by decide +kernel) rfl rfl rfl ?_
  simp only [push_cast, ↓branch_true, ↓branch_false, Nat.reduceBEq, Nat.reduceAdd, Nat.reduceMul, Nat.reduceSub, Int.reduceToNat, reduceCtorEq, branch_decide, branch_not, branch_beq, branch_bne]
  unfold nopB
  repeat' (with_reducible (first | apply And.intro | intro _))
  all_goals simp [*]
  all_goals omega
theorem plan_pu (s : List Pc) (p : List Pt) (cp : Nat → Nat) (N c c2 : Nat) (G : Nat → List Int) (hl : p.length ≤ 9223372036854775807) : Pu Try.prog 60 [.s 0 0 0 s.length c 2, .s 1 0 0 p.length c2 3] [rSt s, rPt 2 p cp, rFm N G] (.v (.bool (planB s p))) := by
  refine pu_of_ex true [] mixed Try.call60 Try.func60 rfl Try.ntmps60 Try.results60 (by decide +kernel) rfl rfl rfl ?_
  simp only [push_cast, ↓branch_true, ↓branch_false, Nat.reduceBEq, Nat.reduceAdd, Nat.reduceMul, Nat.reduceSub, Int.reduceToNat, reduceCtorEq, branch_decide, branch_not, branch_beq, branch_bne]
  refine ⟨fun h => ?_, fun h => ?_⟩
  · refine sp_call (containsPt_pu p cp 1 c2 84 [] [.p 2 0 0] [rFm N G, rBoxS 3 s.length c, rSt s] (nopB s) rfl hl fun k hk => nop_pu s p cp N c k G) rfl [1, 2, 3, 0] rfl ?_ ?_ ?_
    · simp only [push_cast, ↓branch_true, ↓branch_false, Nat.reduceBEq, Nat.reduceAdd, Nat.reduceMul, Nat.reduceSub, Int.reduceToNat, reduceCtorEq, branch_decide, branch_not, branch_beq, branch_bne]
    · simp only [push_cast, ↓branch_true, ↓branch_false, Nat.reduceBEq, Nat.reduceAdd, Nat.reduceMul, Nat.reduceSub, Int.reduceToNat, reduceCtorEq, branch_decide, branch_not, branch_beq, branch_bne]
    simp only [push_cast, ↓branch_true, ↓branch_false, Nat.reduceBEq, Nat.reduceAdd, Nat.reduceMul, Nat.reduceSub, Int.reduceToNat, reduceCtorEq, branch_decide, branch_not, branch_beq, branch_bne]
    simp [planB, show p.length ≤ 1000 by omega]
  · simp [planB, show ¬ p.length ≤ 1000 by omega]
theorem rplan_pu (s : List Pc) (p : List Pt) (cp : Nat → Nat) (N c c2 : Nat) (G : Nat → List Int) (hl : p.length ≤ 9223372036854775807) : Pu Try.prog 28 [.s 0 0 0 s.length c 2, .s 1 0 0 p.length c2 3] [rSt s, rPt 2 p cp, rFm N G] (.v (.bool (planB s p))) := by
  refine pu_of_ex true [] mixed Try.call28 Try.func28 rfl Try.ntmps28 Try.results28 (by decide +kernel) rfl rfl rfl ?_
  simp only [push_cast, ↓branch_true, ↓branch_false, Nat.reduceBEq, Nat.reduceAdd, Nat.reduceMul, Nat.reduceSub, Int.reduceToNat, reduceCtorEq, branch_decide, branch_not, branch_beq, branch_bne]
  refine ⟨fun h => by simp [planB, show ¬ p.length ≤ 1000 by omega], fun h => ?_⟩
  refine tr_loop0 mixed (by kernel_rfl) (fun (k : Nat) => [(5, .v (.int .i64 k)), (0, .s 0 0 0 s.length c 2), (1, .s 1 0 0 p.length c2 3)]) (fun k => k ≤ p.length ∧ ∀ j, j < k → nopB s (ix p j) = false) (fun k => p.length - k) 0 ⟨Nat.zero_le _, fun j h => by omega⟩ ?_ ?_
  · simp only [push_cast, ↓branch_true, ↓branch_false, Nat.reduceBEq, Nat.reduceAdd, Nat.reduceMul, Nat.reduceSub, Int.reduceToNat, reduceCtorEq, branch_decide, branch_not, branch_beq, branch_bne]
  rintro k ⟨hk, hn⟩
  simp only [push_cast, ↓branch_true, ↓branch_false, Nat.reduceBEq, Nat.reduceAdd, Nat.reduceMul, Nat.reduceSub, Int.reduceToNat, reduceCtorEq, branch_decide, branch_not, branch_beq, branch_bne]
  refine ⟨fun h1 => ?_, fun h1 => ?_⟩
  rotate_left
  · obtain rfl : k = p.length := by omega
    rw [plan_yes (by omega) hn]
  have hk2 : k < p.length := by omega
  have no := fun h => plan_no (s := s) hk2 h
  have e : nopB s (ix p k) = (decide ((ix p k).stock < 0) || decide ((s.length : Int) ≤ (ix p k).stock) || decide ((ix p k).times < 1) || decide (1000000 < (ix p k).times)) := rfl
  repeat' (with_reducible (first | apply And.intro | intro _))
  all_goals try omega
  all_goals first
    | (rw [no (by rw [e]; simp; omega)]; done)
    | (refine lp0_normal (k + 1) ⟨by omega, fun j hj => ?_⟩ (by omega) ?_
       · by_cases e2 : j = k
         · rw [e2, e]; simp; omega
         · exact hn j (by omega)
       · simp only [push_cast, ↓branch_true, ↓branch_false, Nat.reduceBEq, Nat.reduceAdd, Nat.reduceMul, Nat.reduceSub, Int.reduceToNat, reduceCtorEq, branch_decide, branch_not, branch_beq, branch_bne]
       )
/-- The numbers of a pattern are in order. -/
def okN : List Pc → List Int → Bool
  | p :: l, n :: ns => decide (0 ≤ n) && decide (n ≤ p.cnt) && okN l ns
  | _, _ => true
def dotL : List Pc → List Int → Int
  | p :: l, n :: ns => n * p.len + dotL l ns
  | _, _ => 0
theorem dot_nonneg : ∀ {l : List Pc} {ns : List Int}, (∀ p ∈ l, 1 ≤ p.len) → okN l ns = true → 0 ≤ dotL l ns
  | [], [], _, _ => by simp [dotL]
  | [], _ :: _, _, _ => by simp [dotL]
  | _ :: _, [], _, _ => by simp [dotL]
  | p :: l, n :: ns, h, hn => by
    simp only [okN, Bool.and_eq_true, decide_eq_true_eq] at hn
    have h1 := dot_nonneg (fun q hq => h q (List.mem_cons_of_mem _ hq)) hn.2
    have h2 := h p List.mem_cons_self
    have h3 := Int.mul_nonneg hn.1.1 (show 0 ≤ p.len by omega)
    simp only [dotL]
    omega
theorem leftO_iff : ∀ {l : List Pc} {ns : List Int} {length : Int}, (∀ p ∈ l, 1 ≤ p.len) → 0 ≤ length → ((leftO length l ns).isSome = true ↔ okN l ns = true ∧ dotL l ns ≤ length)
  | [], [], _, _, h0 => by simp [leftO, okN, dotL, h0]
  | [], _ :: _, _, _, h0 => by simp [leftO, okN, dotL, h0]
  | _ :: _, [], _, _, h0 => by simp [leftO, okN, dotL, h0]
  | p :: l, n :: ns, length, h, h0 => by
    have hl : ∀ q ∈ l, 1 ≤ q.len := fun q hq => h q (List.mem_cons_of_mem _ hq)
    have hp := h p List.mem_cons_self
    simp only [leftO, okN, dotL, Bool.and_eq_true, decide_eq_true_eq]
    split
    · rename_i hc
      simp only [Option.isSome_none, Bool.false_eq_true, false_iff]
      rintro ⟨⟨⟨a1, a2⟩, a3⟩, a4⟩
      have h3 := dot_nonneg hl a3
      rcases hc with hc | hc | hc
      · omega
      · omega
      · have := Int.lt_mul_of_ediv_lt (show 0 < p.len by omega) hc
        omega
    · rename_i hc
      have h5 : n ≤ length / p.len := by omega
      have h6 := Int.mul_le_of_le_ediv (by omega) h5
      rw [leftO_iff hl (by omega)]
      constructor
      · rintro ⟨a, b⟩
        exact ⟨⟨⟨by omega, by omega⟩, a⟩, by omega⟩
      · rintro ⟨⟨_, a⟩, b⟩
        exact ⟨a, by omega⟩
/-- A pattern fits. -/
def fitsB (length : Int) (l : List Pc) (ns : List Int) : Bool := decide (ns.length = l.length) && (okN l ns && decide (dotL l ns ≤ length))
theorem order_all {l : List Pc} (ho : orderB l = true) : ∀ p ∈ l, 1 ≤ p.len := fun p hp => by
  obtain ⟨k, hk, rfl⟩ := List.getElem_of_mem hp
  have := order_at ho hk
  rw [ix_eq hk] at this
  omega
theorem valid_fits {length : Int} {l : List Pc} {ns : List Int} (ho : orderB l = true) (h0 : 1 ≤ length) (h1 : length ≤ 1048576) : (decide (givenE length l ns.length = 0) && (leftO length l ns).isSome) = fitsB length l ns := by
  have e1 : givenE length l ns.length = if (ns.length : Int) = l.length then 0 else 3 := by
    unfold givenE
    rw [if_neg (by simp [ho]), if_neg (by omega)]
  rw [e1, Bool.eq_iff_iff]
  unfold fitsB
  simp only [Bool.and_eq_true, decide_eq_true_eq]
  rw [leftO_iff (order_all ho) (by omega)]
  constructor
  · rintro ⟨a, b⟩
    refine ⟨?_, b⟩
    split at a
    · omega
    · cases a
  · rintro ⟨a, b⟩
    exact ⟨if_pos (by omega), b⟩
theorem validF_pu (length : Int) (l : List Pc) (G : Nat → List Int) (N k c c2 : Nat) (hk : k < N) (hl : l.length ≤ 9223372036854775806) : Pu Try.prog 83 [.v (.int .i64 length), .s 0 0 0 l.length c 2, .s 1 k 0 (G k).length c2 1] [rPc l, rFm N G] (validV length l (G k)) := by
  refine pu_member 1 k [0, 2] rfl ⟨rfl, hk⟩ ?_ (by kernel_rfl) ?_ (valid_pu length l (G k) c c2 hl)
  · simp only [push_cast, ↓branch_true, ↓branch_false, Nat.reduceBEq, Nat.reduceAdd, Nat.reduceMul, Nat.reduceSub, Int.reduceToNat, reduceCtorEq, branch_decide, branch_not, branch_beq, branch_bne]
  · simp only [push_cast, ↓branch_true, ↓branch_false, Nat.reduceBEq, Nat.reduceAdd, Nat.reduceMul, Nat.reduceSub, Int.reduceToNat, reduceCtorEq, branch_decide, branch_not, branch_beq, branch_bne]
end Go.Proofs.Ythlpfjcjfhdmaaa
