/- Contracts: plans and right plans. Contracts: right plans. Contracts: right plans, Check, Used, Total, Waste. -/
import Derived.Test.YtolioflblegneaaGreatE
import Derived.Test.YtolioflblegneaaGreatI
set_option maxRecDepth 100000
set_option linter.unusedSimpArgs false
set_option linter.unusedVariables false
namespace Go.Proofs.YtolioflblegneaaGreat
open Go.RowKit
def nopB (s : List Pc) (x : Pt) : Bool := decide (x.stock < 0) || decide ((s.length : Int) ≤ x.stock) || decide (x.times < 1) || decide (1000000 < x.times)
def planB (s : List Pc) (p : List Pt) : Bool := decide (p.length ≤ 1000) && !p.any (nopB s)
theorem plan_at {s : List Pc} {p : List Pt} (h : planB s p = true) {k : Nat} (hk : k < p.length) : 0 ≤ (ix p k).stock ∧ (ix p k).stock < s.length ∧ 1 ≤ (ix p k).times ∧ (ix p k).times ≤ 1000000 := by
  simp only [planB, Bool.and_eq_true, Bool.not_eq_true', List.any_eq_false] at h
  have := h.2 _ (ix_mem hk)
  simp only [nopB, Bool.or_eq_true, decide_eq_true_eq] at this
  omega
theorem plan_len {s : List Pc} {p : List Pt} (h : planB s p = true) : p.length ≤ 1000 := by
  simp only [planB, Bool.and_eq_true, decide_eq_true_eq] at h
  exact h.1
theorem plan_yes {s : List Pc} {p : List Pt} (h0 : p.length ≤ 1000) (h : ∀ k, k < p.length → nopB s (ix p k) = false) : planB s p = true := by
  simp only [planB, Bool.and_eq_true, decide_eq_true_eq, Bool.not_eq_true', List.any_eq_false]
  refine ⟨h0, fun x hx => ?_⟩
  obtain ⟨k, hk, rfl⟩ := List.getElem_of_mem hx
  rw [← ix_eq hk, h k hk]; decide
theorem indexPt_pu (o : List Pt) (cp : Nat → Nat) (F c : Nat) (g : FuncId) (fs cs : List SV) (H : List Ob) (p : Pt → Bool) (hro : roB H = true) (hl : o.length ≤ 9223372036854775807)
    (hp : ∀ k, k < o.length → Pu Tryz.prog g (fs ++ [.a (cPt F o cp k)] ++ cs) (rPt F o cp :: H) (.v (.bool (p (ix o k))))) : Pu Tryz.prog 124 [.s 0 0 0 o.length c 3, .f (.func g) fs cs] (rPt F o cp :: H) (.v (.int .i64 (idxB p o 0))) := by
  refine pu_of_ex true [] mixed Tryz.call124 Tryz.func124 rfl Tryz.ntmps124 Tryz.results124 (by decide +kernel) rfl (by simp [roB, hro, rPt]) rfl ?_
  refine sxo ?_
  try with_reducible exact trivial
  refine tr_loop0 mixed (by kernel_rfl) (fun (k : Nat) => [(8, .v (.int .i64 k)), (7, .v (.int .i64 o.length)), (0, .s 0 0 0 o.length c 3), (1, .f (.func g) fs cs)]) (fun k => k ≤ o.length ∧ ∀ j, j < k → p (ix o j) = false) (fun k => o.length - k) 0 ⟨Nat.zero_le _, fun j h => by omega⟩ ?_ ?_
  · refine sxo ?_
    try with_reducible exact trivial
  · rintro k ⟨hk, hn⟩
    refine sxo ?_
    try with_reducible exact trivial
    refine ⟨fun h1 => ?_, fun h1 => ?_⟩
    · repeat (with_reducible refine And.intro (by omega) ?_)
      have hp1 := hp k (by omega)
      refine sp_pu (by simpa only [push_cast] using hp1) ?_
      refine sxo ?_
      try with_reducible exact trivial
      simp only [branch]
      refine ⟨fun h2 => ?_, fun h2 => ?_⟩
      · rw [idxB_at p o 0 k (by omega) hn h2]; simp
      · repeat (with_reducible refine And.intro (by omega) ?_)
        refine lp0_normal (k + 1) ⟨by omega, fun j hj => ?_⟩ (by omega) ?_
        · by_cases e : j = k
          · rw [e]; exact h2
          · exact hn j (by omega)
        · refine sxo ?_
          try with_reducible exact trivial
    · rw [idxB_none p o 0 fun j hj => hn j (by omega)]
theorem containsPt_pu (o : List Pt) (cp : Nat → Nat) (F c : Nat) (g : FuncId) (fs cs : List SV) (H : List Ob) (p : Pt → Bool) (hro : roB H = true) (hl : o.length ≤ 9223372036854775807)
    (hp : ∀ k, k < o.length → Pu Tryz.prog g (fs ++ [.a (cPt F o cp k)] ++ cs) (rPt F o cp :: H) (.v (.bool (p (ix o k))))) : Pu Tryz.prog 88 [.s 0 0 0 o.length c 3, .f (.func g) fs cs] (rPt F o cp :: H) (.v (.bool (o.any p))) := by
  refine pu_of_ex true [] mixed Tryz.call88 Tryz.func88 rfl Tryz.ntmps88 Tryz.results88 (by decide +kernel) rfl (by simp [roB, hro, rPt]) rfl ?_
  refine sxo ?_
  try with_reducible exact trivial
  refine sp_pu (indexPt_pu o cp F c g fs cs H p hro hl hp) ?_
  refine sxo ?_
  try with_reducible exact trivial
  rw [idxB_any p o 0 (Int.le_refl 0)]
/-- A variable that holds stock. -/
def rBoxS (j n c : Nat) : Ob := ⟨29, true, .st [.s j 0 0 n c 2]⟩
attribute [push_cast] rBoxS
theorem nop_pu (s : List Pc) (p : List Pt) (cp : Nat → Nat) (N c k : Nat) (G : Nat → List Int) : Pu Tryz.prog 89 [.a (cPt 1 p cp k), .p 2 0 0] [rPt 1 p cp, rFm N G, rBoxS 3 s.length c, rSt s] (.v (.bool (nopB s (ix p k)))) := by
  refine pu_of_ex true [] mixed Tryz.call89 Tryz.func89 rfl Tryz.ntmps89 Tryz.results89 (by decide +kernel) rfl rfl rfl ?_
  refine sxo ?_
  try with_reducible exact trivial
  unfold nopB
  repeat' (with_reducible (first | apply And.intro | intro _))
  all_goals simp [*]
  all_goals omega
theorem plan_pu (s : List Pc) (p : List Pt) (cp : Nat → Nat) (N c c2 : Nat) (G : Nat → List Int) (hl : p.length ≤ 9223372036854775807) : Pu Tryz.prog 47 [.s 0 0 0 s.length c 2, .s 1 0 0 p.length c2 3] [rSt s, rPt 2 p cp, rFm N G] (.v (.bool (planB s p))) := by
  refine pu_of_ex true [] mixed Tryz.call47 Tryz.func47 rfl Tryz.ntmps47 Tryz.results47 (by decide +kernel) rfl rfl rfl ?_
  refine sxo ?_
  try with_reducible exact trivial
  refine ⟨fun h => ?_, fun h => ?_⟩
  · refine sp_call (containsPt_pu p cp 1 c2 89 [] [.p 2 0 0] [rFm N G, rBoxS 3 s.length c, rSt s] (nopB s) rfl hl fun k hk => nop_pu s p cp N c k G) rfl [1, 2, 3, 0] rfl ?_ ?_ ?_
    · refine sxo ?_
      try with_reducible exact trivial
    · refine sxo ?_
      try with_reducible exact trivial
    refine sxo ?_
    try with_reducible exact trivial
    simp [planB, show p.length ≤ 1000 by omega]
  · simp [planB, show ¬ p.length ≤ 1000 by omega]
/-- The numbers of a pattern are in order. -/
def okN : List Pc → List Int → Bool
  | p :: l, n :: ns => decide (0 ≤ n) && decide (n ≤ p.cnt) && okN l ns
  | _, _ => true
def dotL : List Pc → List Int → Int
  | p :: l, n :: ns => n * p.len + dotL l ns
  | _, _ => 0
theorem dot_nonneg : ∀ {l : List Pc} {ns : List Int}, (∀ p ∈ l, 1 ≤ p.len) → okN l ns = true → 0 ≤ dotL l ns
  | [], [], _, _ => by simp [dotL]
  | [], _ :: _, _, _ => by simp [dotL]
  | _ :: _, [], _, _ => by simp [dotL]
  | p :: l, n :: ns, h, hn => by
    simp only [okN, Bool.and_eq_true, decide_eq_true_eq] at hn
    have h1 := dot_nonneg (fun q hq => h q (List.mem_cons_of_mem _ hq)) hn.2
    have h2 := h p List.mem_cons_self
    have h3 := Int.mul_nonneg hn.1.1 (show 0 ≤ p.len by omega)
    simp only [dotL]
    omega
theorem leftO_iff : ∀ {l : List Pc} {ns : List Int} {length : Int}, (∀ p ∈ l, 1 ≤ p.len) → 0 ≤ length → ((leftO length l ns).isSome = true ↔ okN l ns = true ∧ dotL l ns ≤ length)
  | [], [], _, _, h0 => by simp [leftO, okN, dotL, h0]
  | [], _ :: _, _, _, h0 => by simp [leftO, okN, dotL, h0]
  | _ :: _, [], _, _, h0 => by simp [leftO, okN, dotL, h0]
  | p :: l, n :: ns, length, h, h0 => by
    have hl : ∀ q ∈ l, 1 ≤ q.len := fun q hq => h q (List.mem_cons_of_mem _ hq)
    have hp := h p List.mem_cons_self
    simp only [leftO, okN, dotL, Bool.and_eq_true, decide_eq_true_eq]
    split
    · rename_i hc
      simp only [Option.isSome_none, Bool.false_eq_true, false_iff]
      rintro ⟨⟨⟨a1, a2⟩, a3⟩, a4⟩
      have h3 := dot_nonneg hl a3
      rcases hc with hc | hc | hc
      · omega
      · omega
      · have := Int.lt_mul_of_ediv_lt (show 0 < p.len by omega) hc
        omega
    · rename_i hc
      have h5 : n ≤ length / p.len := by omega
      have h6 := Int.mul_le_of_le_ediv (by omega) h5
      rw [leftO_iff hl (by omega)]
      constructor
      · rintro ⟨a, b⟩
        exact ⟨⟨⟨by omega, by omega⟩, a⟩, by omega⟩
      · rintro ⟨⟨_, a⟩, b⟩
        exact ⟨a, by omega⟩
/-- A pattern fits. -/
def fitsB (length : Int) (l : List Pc) (ns : List Int) : Bool := decide (ns.length = l.length) && (okN l ns && decide (dotL l ns ≤ length))
theorem order_all {l : List Pc} (ho : orderB l = true) : ∀ p ∈ l, 1 ≤ p.len := fun p hp => by
  obtain ⟨k, hk, rfl⟩ := List.getElem_of_mem hp
  have := order_at ho hk
  rw [ix_eq hk] at this
  omega
theorem valid_fits {length : Int} {l : List Pc} {ns : List Int} (ho : orderB l = true) (h0 : 1 ≤ length) (h1 : length ≤ 1048576) : (decide (givenE length l ns.length = 0) && (leftO length l ns).isSome) = fitsB length l ns := by
  have e1 : givenE length l ns.length = if (ns.length : Int) = l.length then 0 else 3 := by
    unfold givenE
    rw [if_neg (by simp [ho]), if_neg (by omega)]
  rw [e1, Bool.eq_iff_iff]
  unfold fitsB
  simp only [Bool.and_eq_true, decide_eq_true_eq]
  rw [leftO_iff (order_all ho) (by omega)]
  constructor
  · rintro ⟨a, b⟩
    refine ⟨?_, b⟩
    split at a
    · omega
    · cases a
  · rintro ⟨a, b⟩
    exact ⟨if_pos (by omega), b⟩
theorem validF_pu (length : Int) (l : List Pc) (G : Nat → List Int) (N k c c2 : Nat) (hk : k < N) (hl : l.length ≤ 9223372036854775806) : Pu Tryz.prog 90 [.v (.int .i64 length), .s 0 0 0 l.length c 2, .s 1 k 0 (G k).length c2 1] [rPc l, rFm N G] (validV length l (G k)) := by
  refine pu_member 1 k [0, 2] rfl ⟨rfl, hk⟩ ?_ (by kernel_rfl) ?_ (valid_pu length l (G k) c c2 hl)
  · refine sxo ?_
    try with_reducible exact trivial
  · refine sxo ?_
    try with_reducible exact trivial
end Go.Proofs.YtolioflblegneaaGreat
namespace Go.Proofs.YtolioflblegneaaGreat
open Go.RowKit
theorem mul_le {a b A B : Int} (h0 : 0 ≤ a) (h1 : a ≤ A) (h2 : 0 ≤ b) (h3 : b ≤ B) : 0 ≤ a * b ∧ a * b ≤ A * B := ⟨Int.mul_nonneg h0 h2, Int.le_trans (Int.mul_le_mul_of_nonneg_right h1 h2) (Int.mul_le_mul_of_nonneg_left h3 (by omega))⟩
def madeT (p : List Pt) (k i : Nat) : Int := ((p.take k).map fun x : Pt => ix x.ps i * x.times).sum
def usedT (p : List Pt) (k j : Nat) : Int := ((p.take k).map fun x : Pt => if x.stock = (j : Int) then x.times else 0).sum
theorem madeT_succ {p : List Pt} {k i : Nat} (h : k < p.length) : madeT p (k + 1) i = madeT p k i + ix (ix p k).ps i * (ix p k).times := by
  unfold madeT
  rw [take_snoc h, List.map_append, List.sum_append]; simp
theorem usedT_succ {p : List Pt} {k j : Nat} (h : k < p.length) : usedT p (k + 1) j = usedT p k j + if (ix p k).stock = j then (ix p k).times else 0 := by
  unfold usedT
  rw [take_snoc h, List.map_append, List.sum_append]; simp
def fitP (s l : List Pc) (x : Pt) : Bool := fitsB (ix s x.stock.toNat).len l x.ps
/-- A right plan. -/
def rightB (s l : List Pc) (p : List Pt) : Bool :=
  planB s p && ((List.range p.length).all (fun k => fitP s l (ix p k)) && ((List.range l.length).all (fun i => decide (madeT p p.length i = (ix l i).cnt)) && (List.range s.length).all fun j => decide ((ix s j).cnt < 0 ∨ usedT p p.length j ≤ (ix s j).cnt)))
theorem right_yes {s l : List Pc} {p : List Pt} : rightB s l p = true ↔ planB s p = true ∧ (∀ k, k < p.length → fitP s l (ix p k) = true) ∧ (∀ i, i < l.length → madeT p p.length i = (ix l i).cnt) ∧ ∀ j, j < s.length → (ix s j).cnt < 0 ∨ usedT p p.length j ≤ (ix s j).cnt := by
  simp only [rightB, Bool.and_eq_true, List.all_eq_true, List.mem_range, decide_eq_true_eq]
theorem right_no {s l : List Pc} {p : List Pt} (h : ¬ (planB s p = true ∧ (∀ k, k < p.length → fitP s l (ix p k) = true) ∧ (∀ i, i < l.length → madeT p p.length i = (ix l i).cnt) ∧ ∀ j, j < s.length → (ix s j).cnt < 0 ∨ usedT p p.length j ≤ (ix s j).cnt)) : rightB s l p = false := by
  cases e : rightB s l p with
  | false => rfl
  | true => exact absurd (right_yes.1 e) h
theorem okN_at : ∀ {l : List Pc} {ns : List Int} {k : Nat}, okN l ns = true → k < l.length → k < ns.length → 0 ≤ ix ns k ∧ ix ns k ≤ (ix l k).cnt
  | p :: l, n :: ns, 0, h, _, _ => by
    simp only [okN, Bool.and_eq_true, decide_eq_true_eq] at h
    exact ⟨h.1.1, h.1.2⟩
  | p :: l, n :: ns, k + 1, h, h1, h2 => by
    simp only [okN, Bool.and_eq_true] at h
    exact okN_at (k := k) h.2 (by simpa using h1) (by simpa using h2)
theorem fit_at {s l : List Pc} {x : Pt} (h : fitP s l x = true) : x.ps.length = l.length ∧ ∀ i, i < l.length → 0 ≤ ix x.ps i ∧ ix x.ps i ≤ (ix l i).cnt := by
  simp only [fitP, fitsB, Bool.and_eq_true, decide_eq_true_eq] at h
  exact ⟨h.1, fun i hi => okN_at h.2.1 hi (by omega)⟩
theorem used_range {s : List Pc} {p : List Pt} (h : planB s p = true) (j : Nat) : ∀ k, k ≤ p.length → 0 ≤ usedT p k j ∧ usedT p k j ≤ 1000000 * k
  | 0, _ => by simp [usedT]
  | k + 1, hk => by
    have ih := used_range h j k (by omega)
    have := plan_at h (k := k) (by omega)
    rw [usedT_succ (by omega)]
    split <;> omega
theorem made_range {s l : List Pc} {p : List Pt} (ho : orderB l = true) (h : planB s p = true) {i : Nat} (hi : i < l.length) : ∀ k, k ≤ p.length → (∀ q, q < k → fitP s l (ix p q) = true) → 0 ≤ madeT p k i ∧ madeT p k i ≤ 1000000000000 * k
  | 0, _, _ => by simp [madeT]
  | k + 1, hk, hf => by
    have ih := made_range ho h hi k (by omega) fun q hq => hf q (by omega)
    have h2 := plan_at h (k := k) (by omega)
    have h3 := (fit_at (hf k (by omega))).2 i hi
    have h4 := order_at ho hi
    have hm := mul_le h3.1 (show ix (ix p k).ps i ≤ 1000000 by omega) (show 0 ≤ (ix p k).times by omega) h2.2.2.2
    rw [madeT_succ (by omega)]
    omega
end Go.Proofs.YtolioflblegneaaGreat
namespace Go.Proofs.YtolioflblegneaaGreat
open Go.RowKit
set_option maxHeartbeats 2000000 in
theorem right_pu (s l : List Pc) (p : List Pt) (cp : Nat → Nat) (N c c2 c3 : Nat) (G : Nat → List Int) (hvs : stB s = true) (ho : orderB l = true) (hN : p.length ≤ N) (hG : ∀ k, k < p.length → G k = (ix p k).ps) (hg : ∀ k, k < p.length → (ix p k).ps.length ≤ 9223372036854775806) (hpl : p.length ≤ 9223372036854775807) :
    Pu Tryz.prog 48 [.s 0 0 0 s.length c 2, .s 1 0 0 l.length c2 2, .s 2 0 0 p.length c3 3] [rSt s, rPc l, rPt 3 p cp, rFm N G] (.v (.bool (rightB s l p))) := by
  have hsl := (stB_yes.1 hvs).1
  have hll := order_len ho
  refine pu_of_ex true [(3, .jn (.one 0 (.one 1 (.one 3 (.one 4 (.alt [(2, .one 6 (.one 5 (.one 7 .fin))), (5, .one 2 (.one 6 (.one 7 .fin)))]))))))] mixed Tryz.call48 Tryz.func48 rfl Tryz.ntmps48 Tryz.results48 (by decide +kernel) rfl rfl rfl ?_
  refine sxo ?_
  try with_reducible exact trivial
  refine sp_call (plan_pu s p cp N c c3 G hpl) rfl [0, 2, 3] rfl (by simp only [push_cast, ↓branch_true, ↓branch_false, Nat.reduceBEq, Nat.reduceAdd, Nat.reduceMul, Nat.reduceSub, Int.reduceToNat, reduceCtorEq, branch_decide, branch_not, branch_beq, branch_bne]) (by simp only [push_cast, ↓branch_true, ↓branch_false, Nat.reduceBEq, Nat.reduceAdd, Nat.reduceMul, Nat.reduceSub, Int.reduceToNat, reduceCtorEq, branch_decide, branch_not, branch_beq, branch_bne]) ?_
  refine sxo ?_
  try with_reducible exact trivial
  cases hp : planB s p with
  | false =>
    refine sxo ?_
    try with_reducible exact trivial
    simp [rightB, hp]
  | true =>
  have hpn := plan_len hp
  refine sxo ?_
  try with_reducible exact trivial
  refine ⟨[(7, .s 4 0 0 l.length l.length 1), (8, .s 5 0 0 s.length s.length 1), (0, .s 0 0 0 s.length c 2), (1, .s 1 0 0 l.length c2 2), (2, .s 2 0 0 p.length c3 3)], [rSt s, rPc l, rPt 3 p cp, rFm N G, rOwn 3 l.length l.length (fun _ => 0), rOwn 3 s.length s.length (fun _ => 0)], ?_, ?_⟩
  · repeat' (with_reducible apply And.intro)
    all_goals first
      | omega
      | (refine Mt.wk (rl := [0, 1, 2, 3, 4, 5]) ⟨by kernel_rfl, ?_, ?_⟩
         · refine sxo ?_
           try with_reducible exact trivial
         · refine sxo ?_
           try with_reducible exact trivial
         )
      | (refine Mt.wk (rl := [0, 1, 2, 3, 5, 4]) ⟨by kernel_rfl, ?_, ?_⟩
         · refine sxo ?_
           try with_reducible exact trivial
         · refine sxo ?_
           try with_reducible exact trivial
         )
  simp only [push_cast, ↓branch_true, ↓branch_false, Nat.reduceBEq, Nat.reduceAdd, Nat.reduceMul, Nat.reduceSub, Int.reduceToNat, reduceCtorEq, branch_decide, branch_not, branch_beq, branch_bne, jnK]
  refine tr_loop mixed (by kernel_rfl) (fun (k : Nat) => [(31, .v (.int .i64 k)), (30, .v (.int .i64 p.length)), (29, .s 2 0 0 p.length c3 3), (7, .s 4 0 0 l.length l.length 1), (8, .s 5 0 0 s.length s.length 1), (0, .s 0 0 0 s.length c 2), (1, .s 1 0 0 l.length c2 2)])
    (fun k => [rSt s, rPc l, rPt 3 p cp, rFm N G, rOwn 3 l.length l.length (fun i => madeT p k i), rOwn 3 s.length s.length (fun j => usedT p k j)]) (fun k => k ≤ p.length ∧ ∀ q, q < k → fitP s l (ix p q) = true) (fun k => p.length - k) 0 ⟨Nat.zero_le _, fun j h => by omega⟩ (Mt.wk (rl := [0, 1, 2, 3, 4, 5]) ⟨by kernel_rfl, ?_, ?_⟩) ?_
  · refine sxo ?_
    try with_reducible exact trivial
  · refine sxo ?_
    try with_reducible exact trivial
    simp [madeT, usedT]
  rintro k ⟨hk, hf⟩
  refine sxo ?_
  try with_reducible exact trivial
  refine ⟨fun a1 => ?_, fun a1 => ?_⟩
  · have hk2 : k < p.length := by omega
    have hat := plan_at hp hk2
    have hGk := hG k hk2
    have hgk := hg k hk2
    have hst := st_len hvs (k := (ix p k).stock.toNat) (by omega)
    repeat (with_reducible refine And.intro (by omega) ?_)
    have hvf := validF_pu (ix s (ix p k).stock.toNat).len l G N k c2 (cp k) (by omega) (by omega)
    have hvv : validV (ix s (ix p k).stock.toNat).len l (G k) = .t [.v (.bool (fitP s l (ix p k))), .v (.int .i64 (givenE (ix s (ix p k).stock.toNat).len l (G k).length))] := by
      unfold validV
      rw [valid_fits ho hst.1 hst.2.1, hGk]; rfl
    have hge : givenE (ix s (ix p k).stock.toNat).len l (G k).length ≠ 0 → fitP s l (ix p k) = false := by
      intro h
      unfold fitP
      rw [← hGk, ← valid_fits ho hst.1 hst.2.1, decide_eq_false h]; rfl
    rw [hvv, hGk] at hvf
    rw [hGk] at hge
    generalize hgv : givenE (ix s (ix p k).stock.toNat).len l (ix p k).ps.length = ge at *
    refine qc_call hvf rfl [1, 3] rfl ?_ ?_ ?_
    · refine sxo ?_
      try with_reducible exact trivial
    · refine sxo ?_
      try with_reducible exact trivial
    refine sxo ?_
    try with_reducible exact trivial
    refine ⟨fun g0 => ?_, fun g0 => ?_⟩
    rotate_left
    · rw [right_no fun h => absurd (h.2.1 k hk2) (by rw [hge g0]; decide)]
    cases hfk : fitP s l (ix p k) with
    | false =>
      refine sxo ?_
      try with_reducible exact trivial
      rw [right_no fun h => by rw [h.2.1 k hk2] at hfk; cases hfk]
    | true =>
    refine sxo ?_
    try with_reducible exact trivial
    obtain ⟨fl, fn⟩ := fit_at hfk
    have hur := used_range hp (ix p k).stock.toNat k hk
    have hf2 : ∀ q, q < k + 1 → fitP s l (ix p q) = true := fun q hq => by
      by_cases e : q = k
      · rw [e]; exact hfk
      · exact hf q (by omega)
    repeat (with_reducible refine And.intro (by omega) ?_)
    refine tr_loop mixed (by kernel_rfl) (fun (t : Nat) => [(66, .v (.int .i64 t)), (65, .v (.int .i64 l.length)), (64, .s 3 k 0 l.length (cp k) 1), (10, .p 6 0 0), (31, .v (.int .i64 k)), (30, .v (.int .i64 p.length)), (29, .s 2 0 0 p.length c3 3), (7, .s 4 0 0 l.length l.length 1), (8, .s 5 0 0 s.length s.length 1), (0, .s 0 0 0 s.length c 2), (1, .s 1 0 0 l.length c2 2)])
      (fun t => [rSt s, rPc l, rPt 3 p cp, rFm N G, rOwn 3 l.length l.length (fun i => madeT p (bif decide (i < t) then k + 1 else k) i), rOwn 3 s.length s.length (fun j => usedT p (k + 1) j), ⟨63, false, .st (cPt 3 p cp k)⟩]) (fun t => t ≤ l.length) (fun t => l.length - t) 0 (Nat.zero_le _) (Mt.wk (rl := [0, 1, 2, 3, 4, 5, 6]) ⟨by kernel_rfl, ?_, ?_⟩) ?_
    · simp only [push_cast, ↓branch_true, ↓branch_false, Nat.reduceBEq, Nat.reduceAdd, Nat.reduceMul, Nat.reduceSub, Int.reduceToNat, reduceCtorEq, branch_decide, branch_not, branch_beq, branch_bne, fl]
    · simp only [push_cast, ↓branch_true, ↓branch_false, Nat.reduceBEq, Nat.reduceAdd, Nat.reduceMul, Nat.reduceSub, Int.reduceToNat, reduceCtorEq, branch_decide, branch_not, branch_beq, branch_bne, fl]
      refine ⟨fun x hx q hq => by simp, fun x hx q hq => ?_⟩
      obtain rfl : x = 0 := by omega
      rw [usedT_succ hk2]
      by_cases eq : q = (ix p k).stock.toNat
      · subst eq
        rw [if_pos (by omega)]
        refine sxo ?_
        try with_reducible exact trivial
      · have hb : (q == (ix p k).stock.toNat) = false := by simpa using eq
        rw [if_neg (by omega), Int.add_zero]
        simp only [push_cast, ↓branch_true, ↓branch_false, Nat.reduceBEq, Nat.reduceAdd, Nat.reduceMul, Nat.reduceSub, Int.reduceToNat, reduceCtorEq, branch_decide, branch_not, branch_beq, branch_bne, hb]
    intro t ht
    simp only [push_cast, ↓branch_true, ↓branch_false, Nat.reduceBEq, Nat.reduceAdd, Nat.reduceMul, Nat.reduceSub, Int.reduceToNat, reduceCtorEq, branch_decide, branch_not, branch_beq, branch_bne, hGk, fl]
    refine ⟨fun b1 => ?_, fun b1 => ?_⟩
    · have ht2 : t < l.length := by omega
      have hnt := fn t ht2
      have h4 := order_at ho ht2
      have hmr := made_range ho hp ht2 k hk hf
      have hmr2 := made_range ho hp ht2 (k + 1) (by omega) hf2
      have hmm := mul_le hnt.1 (show ix (ix p k).ps t ≤ 1000000 by omega) (show 0 ≤ (ix p k).times by omega) hat.2.2.2
      have e1 := madeT_succ (i := t) hk2
      have hb0 : decide (t < t) = false := by simp
      simp only [hb0, cond_false]
      repeat (with_reducible refine And.intro (by omega) ?_)
      refine lpK_normal (t + 1) [0, 1, 2, 3, 4, 5, 6] (by omega) (by omega) (by kernel_rfl) ?_ ?_
      · simp only [push_cast, ↓branch_true, ↓branch_false, Nat.reduceBEq, Nat.reduceAdd, Nat.reduceMul, Nat.reduceSub, Int.reduceToNat, reduceCtorEq, branch_decide, branch_not, branch_beq, branch_bne, fl]
      · simp only [push_cast, ↓branch_true, ↓branch_false, Nat.reduceBEq, Nat.reduceAdd, Nat.reduceMul, Nat.reduceSub, Int.reduceToNat, reduceCtorEq, branch_decide, branch_not, branch_beq, branch_bne, fl]
        intro x hx q hq
        obtain rfl : x = 0 := by omega
        by_cases eq : q = t
        · subst eq
          have hb2 : decide (q < q + 1) = true := by simp
          simp only [push_cast, ↓branch_true, ↓branch_false, Nat.reduceBEq, Nat.reduceAdd, Nat.reduceMul, Nat.reduceSub, Int.reduceToNat, reduceCtorEq, branch_decide, branch_not, branch_beq, branch_bne, hb2, e1]
        · have hb : (q == t) = false := by simpa using eq
          by_cases e2 : q < t
          · have hb2 : decide (q < t + 1) = true := by simp; omega
            have hb3 : decide (q < t) = true := by simp; omega
            simp only [push_cast, ↓branch_true, ↓branch_false, Nat.reduceBEq, Nat.reduceAdd, Nat.reduceMul, Nat.reduceSub, Int.reduceToNat, reduceCtorEq, branch_decide, branch_not, branch_beq, branch_bne, hb, hb2, hb3]
          · have hb2 : decide (q < t + 1) = false := by simp; omega
            have hb3 : decide (q < t) = false := by simp; omega
            simp only [push_cast, ↓branch_true, ↓branch_false, Nat.reduceBEq, Nat.reduceAdd, Nat.reduceMul, Nat.reduceSub, Int.reduceToNat, reduceCtorEq, branch_decide, branch_not, branch_beq, branch_bne, hb, hb2, hb3]
    · obtain rfl : t = l.length := by omega
      repeat (with_reducible refine And.intro (by omega) ?_)
      refine lpK_normal (k + 1) [0, 1, 2, 3, 4, 5] ⟨by omega, hf2⟩ (by omega) (by kernel_rfl) ?_ ?_
      · refine sxo ?_
        try with_reducible exact trivial
      · refine sxo ?_
        try with_reducible exact trivial
        refine fun x hx q hq => ?_
        have hb3 : decide (q < l.length) = true := by simp; omega
        simp only [push_cast, ↓branch_true, ↓branch_false, Nat.reduceBEq, Nat.reduceAdd, Nat.reduceMul, Nat.reduceSub, Int.reduceToNat, reduceCtorEq, branch_decide, branch_not, branch_beq, branch_bne, hb3]
  obtain rfl : k = p.length := by omega
  refine tr_loop mixed (by kernel_rfl) (fun (i : Nat) => [(85, .v (.int .i64 i)), (84, .v (.int .i64 l.length)), (83, .s 1 0 0 l.length c2 2), (7, .s 4 0 0 l.length l.length 1), (8, .s 5 0 0 s.length s.length 1), (0, .s 0 0 0 s.length c 2), (1, .s 1 0 0 l.length c2 2)])
    (fun _ => [rSt s, rPc l, rPt 3 p cp, rFm N G, rOwn 3 l.length l.length (fun i => madeT p p.length i), rOwn 3 s.length s.length (fun j => usedT p p.length j)]) (fun i => i ≤ l.length ∧ ∀ q, q < i → madeT p p.length q = (ix l q).cnt) (fun i => l.length - i) 0 ⟨Nat.zero_le _, fun j h => by omega⟩ (Mt.wk (rl := [0, 1, 2, 3, 4, 5]) ⟨by kernel_rfl, ?_, ?_⟩) ?_
  · refine sxo ?_
    try with_reducible exact trivial
  · refine sxo ?_
    try with_reducible exact trivial
  rintro i ⟨hi, hm⟩
  refine sxo ?_
  try with_reducible exact trivial
  refine ⟨fun b1 => ?_, fun b1 => ?_⟩
  · have hi2 : i < l.length := by omega
    repeat (with_reducible refine And.intro (by omega) ?_)
    refine ⟨fun e1 => ?_, fun e1 => ?_⟩
    · repeat (with_reducible refine And.intro (by omega) ?_)
      refine lpK_normal (i + 1) [0, 1, 2, 3, 4, 5] ⟨by omega, fun q hq => ?_⟩ (by omega) (by kernel_rfl) ?_ ?_
      · by_cases e : q = i
        · rw [e]; exact e1
        · exact hm q (by omega)
      · refine sxo ?_
        try with_reducible exact trivial
      · refine sxo ?_
        try with_reducible exact trivial
    · rw [right_no fun h => e1 (h.2.2.1 i hi2)]
  obtain rfl : i = l.length := by omega
  refine tr_loop mixed (by kernel_rfl) (fun (i : Nat) => [(100, .v (.int .i64 i)), (99, .v (.int .i64 s.length)), (98, .s 0 0 0 s.length c 2), (7, .s 4 0 0 l.length l.length 1), (8, .s 5 0 0 s.length s.length 1), (0, .s 0 0 0 s.length c 2), (1, .s 1 0 0 l.length c2 2)])
    (fun _ => [rSt s, rPc l, rPt 3 p cp, rFm N G, rOwn 3 l.length l.length (fun i => madeT p p.length i), rOwn 3 s.length s.length (fun j => usedT p p.length j)]) (fun i => i ≤ s.length ∧ ∀ q, q < i → (ix s q).cnt < 0 ∨ usedT p p.length q ≤ (ix s q).cnt) (fun i => s.length - i) 0 ⟨Nat.zero_le _, fun j h => by omega⟩ (Mt.wk (rl := [0, 1, 2, 3, 4, 5]) ⟨by kernel_rfl, ?_, ?_⟩) ?_
  · refine sxo ?_
    try with_reducible exact trivial
  · refine sxo ?_
    try with_reducible exact trivial
  rintro i ⟨hi, hu⟩
  refine sxo ?_
  try with_reducible exact trivial
  refine ⟨fun b1 => ?_, fun b1 => ?_⟩
  · have hi2 : i < s.length := by omega
    have no : ¬ ((ix s i).cnt < 0 ∨ usedT p p.length i ≤ (ix s i).cnt) → rightB s l p = false := fun h => right_no fun h2 => h (h2.2.2.2 i hi2)
    repeat' (with_reducible (first | apply And.intro | intro _))
    all_goals try omega
    all_goals first
      | (rw [no (by omega)]; done)
      | (refine lpK_normal (i + 1) [0, 1, 2, 3, 4, 5] ⟨by omega, fun q hq => ?_⟩ (by omega) (by kernel_rfl) ?_ ?_
         · by_cases e : q = i
           · rw [e]; omega
           · exact hu q (by omega)
         · refine sxo ?_
           try with_reducible exact trivial
         · refine sxo ?_
           try with_reducible exact trivial
         )
  obtain rfl : i = s.length := by omega
  rw [right_yes.2 ⟨hp, hf, hm, hu⟩]
theorem check_pu (s l : List Pc) (p : List Pt) (cp : Nat → Nat) (N c c2 c3 : Nat) (G : Nat → List Int) (hsl : s.length ≤ 9223372036854775807) (hll : l.length ≤ 9223372036854775807) (hN : p.length ≤ N) (hG : ∀ k, k < p.length → G k = (ix p k).ps) (hg : ∀ k, k < p.length → (ix p k).ps.length ≤ 9223372036854775806) (hpl : p.length ≤ 9223372036854775807) :
    Pu Tryz.prog 12 [.s 0 0 0 s.length c 2, .s 1 0 0 l.length c2 2, .s 2 0 0 p.length c3 3] [rSt s, rPc l, rPt 3 p cp, rFm N G] (.t [.v (.bool (stB s && orderB l && rightB s l p)), .v (.int .i64 (if stB s && orderB l then 0 else 1))]) := by
  refine pu_of_ex true [] mixed Tryz.call12 Tryz.func12 rfl Tryz.ntmps12 Tryz.results12 (by decide +kernel) rfl rfl rfl ?_
  refine sxo ?_
  try with_reducible exact trivial
  refine sp_call (validS_pu s c hsl) rfl [0] rfl (by simp only [push_cast, ↓branch_true, ↓branch_false, Nat.reduceBEq, Nat.reduceAdd, Nat.reduceMul, Nat.reduceSub, Int.reduceToNat, reduceCtorEq, branch_decide, branch_not, branch_beq, branch_bne]) (by simp only [push_cast, ↓branch_true, ↓branch_false, Nat.reduceBEq, Nat.reduceAdd, Nat.reduceMul, Nat.reduceSub, Int.reduceToNat, reduceCtorEq, branch_decide, branch_not, branch_beq, branch_bne]) ?_
  refine sxo ?_
  try with_reducible exact trivial
  cases hvs : stB s with
  | false =>
    refine sxo ?_
    try with_reducible exact trivial
  | true =>
  refine sxo ?_
  try with_reducible exact trivial
  refine sp_call (order_pu l c2 hll) rfl [1] rfl (by simp only [push_cast, ↓branch_true, ↓branch_false, Nat.reduceBEq, Nat.reduceAdd, Nat.reduceMul, Nat.reduceSub, Int.reduceToNat, reduceCtorEq, branch_decide, branch_not, branch_beq, branch_bne]) (by simp only [push_cast, ↓branch_true, ↓branch_false, Nat.reduceBEq, Nat.reduceAdd, Nat.reduceMul, Nat.reduceSub, Int.reduceToNat, reduceCtorEq, branch_decide, branch_not, branch_beq, branch_bne]) ?_
  refine sxo ?_
  try with_reducible exact trivial
  cases hvo : orderB l with
  | false =>
    refine sxo ?_
    try with_reducible exact trivial
  | true =>
  refine sxo ?_
  try with_reducible exact trivial
  refine sp_call (right_pu s l p cp N c c2 c3 G hvs hvo hN hG hg hpl) rfl [0, 1, 2, 3] rfl ?_ ?_ ?_
  · refine sxo ?_
    try with_reducible exact trivial
  · refine sxo ?_
    try with_reducible exact trivial
  refine sxo ?_
  try with_reducible exact trivial
def timesT (p : List Pt) (k : Nat) : Int := ((p.take k).map Pt.times).sum
def lensT (s : List Pc) (p : List Pt) (k : Nat) : Int := ((p.take k).map fun x => x.times * (ix s x.stock.toNat).len).sum
theorem timesT_succ {p : List Pt} {k : Nat} (h : k < p.length) : timesT p (k + 1) = timesT p k + (ix p k).times := by
  unfold timesT
  rw [take_snoc h, List.map_append, List.sum_append]; simp
theorem lensT_succ {s : List Pc} {p : List Pt} {k : Nat} (h : k < p.length) : lensT s p (k + 1) = lensT s p k + (ix p k).times * (ix s (ix p k).stock.toNat).len := by
  unfold lensT
  rw [take_snoc h, List.map_append, List.sum_append]; simp
theorem times_range {s : List Pc} {p : List Pt} (hvs : stB s = true) (h : planB s p = true) : ∀ k, k ≤ p.length → (k : Int) ≤ timesT p k ∧ timesT p k ≤ 1000000 * k ∧ 0 ≤ lensT s p k ∧ lensT s p k ≤ 1048576000000 * k
  | 0, _ => by simp [timesT, lensT]
  | k + 1, hk => by
    have ih := times_range hvs h k (by omega)
    have h2 := plan_at h (k := k) (by omega)
    have h3 := st_len hvs (k := (ix p k).stock.toNat) (by omega)
    have hm := mul_le (show 0 ≤ (ix p k).times by omega) h2.2.2.2 (show 0 ≤ (ix s (ix p k).stock.toNat).len by omega) h3.2.1
    rw [timesT_succ (by omega), lensT_succ (by omega)]
    omega
def usedE (s : List Pc) (p : List Pt) : Int := if stB s = false then 1 else if planB s p = false then 13 else 0
def usedN (s : List Pc) (p : List Pt) : Int := if usedE s p = 0 then timesT p p.length else 0
def usedS (s : List Pc) (p : List Pt) : Int := if usedE s p = 0 then lensT s p p.length else 0
theorem used_pu (s : List Pc) (p : List Pt) (cp : Nat → Nat) (N c c3 : Nat) (G : Nat → List Int) (hsl : s.length ≤ 9223372036854775807) (hpl : p.length ≤ 9223372036854775807) :
    Pu Tryz.prog 11 [.s 0 0 0 s.length c 2, .s 1 0 0 p.length c3 3] [rSt s, rPt 2 p cp, rFm N G] (.t [.v (.int .i64 (usedN s p)), .v (.int .i64 (usedS s p)), .v (.int .i64 (usedE s p))]) := by
  refine pu_of_ex true [] mixed Tryz.call11 Tryz.func11 rfl Tryz.ntmps11 Tryz.results11 (by decide +kernel) rfl rfl rfl ?_
  refine sxo ?_
  try with_reducible exact trivial
  refine sp_call (validS_pu s c hsl) rfl [0] rfl (by simp only [push_cast, ↓branch_true, ↓branch_false, Nat.reduceBEq, Nat.reduceAdd, Nat.reduceMul, Nat.reduceSub, Int.reduceToNat, reduceCtorEq, branch_decide, branch_not, branch_beq, branch_bne]) (by simp only [push_cast, ↓branch_true, ↓branch_false, Nat.reduceBEq, Nat.reduceAdd, Nat.reduceMul, Nat.reduceSub, Int.reduceToNat, reduceCtorEq, branch_decide, branch_not, branch_beq, branch_bne]) ?_
  refine sxo ?_
  try with_reducible exact trivial
  cases hvs : stB s with
  | false =>
    have e : usedE s p = 1 := if_pos hvs
    refine sxo ?_
    try with_reducible exact trivial
    simp [usedN, usedS, e]
  | true =>
  refine sxo ?_
  try with_reducible exact trivial
  refine sp_call (plan_pu s p cp N c c3 G hpl) rfl [0, 1, 2] rfl (by simp only [push_cast, ↓branch_true, ↓branch_false, Nat.reduceBEq, Nat.reduceAdd, Nat.reduceMul, Nat.reduceSub, Int.reduceToNat, reduceCtorEq, branch_decide, branch_not, branch_beq, branch_bne]) (by simp only [push_cast, ↓branch_true, ↓branch_false, Nat.reduceBEq, Nat.reduceAdd, Nat.reduceMul, Nat.reduceSub, Int.reduceToNat, reduceCtorEq, branch_decide, branch_not, branch_beq, branch_bne]) ?_
  refine sxo ?_
  try with_reducible exact trivial
  cases hp : planB s p with
  | false =>
    have e : usedE s p = 13 := by rw [usedE, if_neg (by simp [hvs]), if_pos hp]
    refine sxo ?_
    try with_reducible exact trivial
    simp [usedN, usedS, e]
  | true =>
  have e : usedE s p = 0 := by rw [usedE, if_neg (by simp [hvs]), if_neg (by simp [hp])]
  have hpn := plan_len hp
  refine sxo ?_
  try with_reducible exact trivial
  refine tr_loop mixed (by kernel_rfl) (fun (k : Nat) => [(22, .v (.int .i64 k)), (21, .v (.int .i64 p.length)), (20, .s 1 0 0 p.length c3 3), (7, .v (.int .i64 (timesT p k))), (8, .v (.int .i64 (lensT s p k))), (0, .s 0 0 0 s.length c 2)])
    (fun _ => [rSt s, rPt 2 p cp, rFm N G]) (fun k => k ≤ p.length) (fun k => p.length - k) 0 (Nat.zero_le _) (Mt.wk (rl := [0, 1, 2]) ⟨by kernel_rfl, ?_, ?_⟩) ?_
  · refine sxo ?_
    try with_reducible exact trivial
    simp [timesT, lensT]
  · refine sxo ?_
    try with_reducible exact trivial
  intro k hk
  have hr := times_range hvs hp k hk
  refine sxo ?_
  try with_reducible exact trivial
  refine ⟨fun h => ?_, fun h => ?_⟩
  · have hk2 : k < p.length := by omega
    have h2 := plan_at hp hk2
    have h3 := st_len hvs (k := (ix p k).stock.toNat) (by omega)
    have hm := mul_le (show 0 ≤ (ix p k).times by omega) h2.2.2.2 (show 0 ≤ (ix s (ix p k).stock.toNat).len by omega) h3.2.1
    repeat (with_reducible refine And.intro (by omega) ?_)
    refine lpK_normal (k + 1) [0, 1, 2] (by omega) (by omega) (by kernel_rfl) ?_ ?_
    · simp only [push_cast, ↓branch_true, ↓branch_false, Nat.reduceBEq, Nat.reduceAdd, Nat.reduceMul, Nat.reduceSub, Int.reduceToNat, reduceCtorEq, branch_decide, branch_not, branch_beq, branch_bne, timesT_succ hk2, lensT_succ hk2]
    · refine sxo ?_
      try with_reducible exact trivial
  · obtain rfl : k = p.length := by omega
    simp [usedN, usedS, e]
def totT (l : List Pc) (k : Nat) : Int := ((l.take k).map fun p => p.len * p.cnt).sum
theorem totT_succ {l : List Pc} {k : Nat} (h : k < l.length) : totT l (k + 1) = totT l k + (ix l k).len * (ix l k).cnt := by
  unfold totT
  rw [take_snoc h, List.map_append, List.sum_append]; simp
theorem tot_range {l : List Pc} (ho : orderB l = true) : ∀ k, k ≤ l.length → (k : Int) ≤ totT l k ∧ totT l k ≤ 1048576000000 * k
  | 0, _ => by simp [totT]
  | k + 1, hk => by
    have ih := tot_range ho k (by omega)
    have h2 := order_at ho (k := k) (by omega)
    have hm := mul_le (show 0 ≤ (ix l k).len by omega) h2.2.1 (show 0 ≤ (ix l k).cnt by omega) h2.2.2.2
    have hp : 1 * 1 ≤ (ix l k).len * (ix l k).cnt := Int.mul_le_mul (by omega) (by omega) (by decide) (by omega)
    rw [totT_succ (by omega)]
    omega
def totL (l : List Pc) : Int := totT l l.length
theorem total_pu (l : List Pc) (c : Nat) (hl : l.length ≤ 9223372036854775807) : Pu Tryz.prog 14 [.s 0 0 0 l.length c 2] [rPc l] (.t [.v (.int .i64 (if orderB l then totL l else 0)), .v (.int .i64 (if orderB l then 0 else 1))]) := by
  refine pu_of_ex true [] mixed Tryz.call14 Tryz.func14 rfl Tryz.ntmps14 Tryz.results14 (by decide +kernel) rfl rfl rfl ?_
  refine sxo ?_
  try with_reducible exact trivial
  refine sp_call (order_pu l c hl) rfl [0] rfl (by simp only [push_cast, ↓branch_true, ↓branch_false, Nat.reduceBEq, Nat.reduceAdd, Nat.reduceMul, Nat.reduceSub, Int.reduceToNat, reduceCtorEq, branch_decide, branch_not, branch_beq, branch_bne]) (by simp only [push_cast, ↓branch_true, ↓branch_false, Nat.reduceBEq, Nat.reduceAdd, Nat.reduceMul, Nat.reduceSub, Int.reduceToNat, reduceCtorEq, branch_decide, branch_not, branch_beq, branch_bne]) ?_
  refine sxo ?_
  try with_reducible exact trivial
  cases ho : orderB l with
  | false =>
    refine sxo ?_
    try with_reducible exact trivial
  | true =>
  have hll := order_len ho
  refine sxo ?_
  try with_reducible exact trivial
  refine tr_loop mixed (by kernel_rfl) (fun (k : Nat) => [(12, .v (.int .i64 k)), (11, .v (.int .i64 l.length)), (10, .s 0 0 0 l.length c 2), (4, .v (.int .i64 (totT l k)))]) (fun _ => [rPc l]) (fun k => k ≤ l.length) (fun k => l.length - k) 0 (Nat.zero_le _) (Mt.wk (rl := [0]) ⟨by kernel_rfl, ?_, ?_⟩) ?_
  · refine sxo ?_
    try with_reducible exact trivial
    simp [totT]
  · refine sxo ?_
    try with_reducible exact trivial
  intro k hk
  have hr := tot_range ho k hk
  refine sxo ?_
  try with_reducible exact trivial
  refine ⟨fun h => ?_, fun h => ?_⟩
  · have h2 := order_at ho (k := k) (by omega)
    have hm := mul_le (show 0 ≤ (ix l k).len by omega) h2.2.1 (show 0 ≤ (ix l k).cnt by omega) h2.2.2.2
    repeat (with_reducible refine And.intro (by omega) ?_)
    refine lpK_normal (k + 1) [0] (by omega) (by omega) (by kernel_rfl) ?_ ?_
    · simp only [push_cast, ↓branch_true, ↓branch_false, Nat.reduceBEq, Nat.reduceAdd, Nat.reduceMul, Nat.reduceSub, Int.reduceToNat, reduceCtorEq, branch_decide, branch_not, branch_beq, branch_bne, totT_succ (show k < l.length by omega)]
    · refine sxo ?_
      try with_reducible exact trivial
  · obtain rfl : k = l.length := by omega
    simp [totL]
def wasteE (s l : List Pc) (p : List Pt) : Int := if stB s = false ∨ orderB l = false then 1 else if rightB s l p = false then 13 else 0
def wasteV (s l : List Pc) (p : List Pt) : Int := if wasteE s l p = 0 then lensT s p p.length - totL l else 0
theorem waste_pu (s l : List Pc) (p : List Pt) (cp : Nat → Nat) (N c c2 c3 : Nat) (G : Nat → List Int) (hsl : s.length ≤ 9223372036854775807) (hll : l.length ≤ 9223372036854775807) (hN : p.length ≤ N) (hG : ∀ k, k < p.length → G k = (ix p k).ps) (hg : ∀ k, k < p.length → (ix p k).ps.length ≤ 9223372036854775806) (hpl : p.length ≤ 9223372036854775807) :
    Pu Tryz.prog 13 [.s 0 0 0 s.length c 2, .s 1 0 0 l.length c2 2, .s 2 0 0 p.length c3 3] [rSt s, rPc l, rPt 3 p cp, rFm N G] (.t [.v (.int .i64 (wasteV s l p)), .v (.int .i64 (wasteE s l p))]) := by
  refine pu_of_ex true [] mixed Tryz.call13 Tryz.func13 rfl Tryz.ntmps13 Tryz.results13 (by decide +kernel) rfl rfl rfl ?_
  refine sxo ?_
  try with_reducible exact trivial
  refine sp_call (check_pu s l p cp N c c2 c3 G hsl hll hN hG hg hpl) rfl [0, 1, 2, 3] rfl ?_ ?_ ?_
  · refine sxo ?_
    try with_reducible exact trivial
  · refine sxo ?_
    try with_reducible exact trivial
  cases hvs : stB s with
  | false =>
    have e : wasteE s l p = 1 := if_pos (.inl hvs)
    simp only [Bool.false_and, Bool.false_eq_true, if_false]
    refine sxo ?_
    try with_reducible exact trivial
    refine ⟨fun h => by omega, fun _ => ?_⟩
    simp [wasteV, e]
  | true =>
  cases hvo : orderB l with
  | false =>
    have e : wasteE s l p = 1 := if_pos (.inr hvo)
    simp only [Bool.true_and, Bool.false_and, Bool.false_eq_true, if_false]
    refine sxo ?_
    try with_reducible exact trivial
    refine ⟨fun h => by omega, fun _ => ?_⟩
    simp [wasteV, e]
  | true =>
  simp only [Bool.true_and, Bool.and_self, if_true]
  cases hr : rightB s l p with
  | false =>
    have e : wasteE s l p = 13 := by rw [wasteE, if_neg (by simp [hvs, hvo]), if_pos hr]
    refine sxo ?_
    try with_reducible exact trivial
    simp [wasteV, e]
  | true =>
  have e : wasteE s l p = 0 := by rw [wasteE, if_neg (by simp [hvs, hvo]), if_neg (by simp [hr])]
  have hp := (right_yes.1 hr).1
  have e2 : usedE s p = 0 := by rw [usedE, if_neg (by simp [hvs]), if_neg (by simp [hp])]
  have hpn := plan_len hp
  have hrr := times_range hvs hp p.length (Nat.le_refl _)
  have htt := tot_range hvo l.length (Nat.le_refl _)
  have hlo := order_len hvo
  refine sxo ?_
  try with_reducible exact trivial
  intro _
  refine sp_call (used_pu s p cp N c c3 G hsl hpl) rfl [0, 2, 3] rfl ?_ ?_ ?_
  · refine sxo ?_
    try with_reducible exact trivial
  · refine sxo ?_
    try with_reducible exact trivial
  rw [show usedS s p = lensT s p p.length from if_pos e2, e2]
  refine sxo ?_
  try with_reducible exact trivial
  intro _
  refine sp_call (total_pu l c2 hll) rfl [1] rfl (by simp only [push_cast, ↓branch_true, ↓branch_false, Nat.reduceBEq, Nat.reduceAdd, Nat.reduceMul, Nat.reduceSub, Int.reduceToNat, reduceCtorEq, branch_decide, branch_not, branch_beq, branch_bne]) (by simp only [push_cast, ↓branch_true, ↓branch_false, Nat.reduceBEq, Nat.reduceAdd, Nat.reduceMul, Nat.reduceSub, Int.reduceToNat, reduceCtorEq, branch_decide, branch_not, branch_beq, branch_bne]) ?_
  refine sxo ?_
  try with_reducible exact trivial
  rw [hvo]
  refine sxo ?_
  try with_reducible exact trivial
  intro _
  unfold totL
  repeat (with_reducible refine And.intro (by omega) ?_)
  rw [show wasteV s l p = lensT s p p.length - totL l from if_pos e, e]
  rfl
end Go.Proofs.YtolioflblegneaaGreat
