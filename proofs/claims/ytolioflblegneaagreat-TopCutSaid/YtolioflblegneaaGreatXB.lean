/- slices.Sort of ints, as a contract of the executor. Contracts: slices.Compact; Sums. Plain: cuts in order, each once. Contracts: sort.Search, at. box.parts for one box. -/
import Derived.Test.YtolioflblegneaaGreatXA
import Derived.Test.YtolioflblegneaaGreatTi
import Derived.Test.YtolioflblegneaaGreatIn
import Derived.Test.YtolioflblegneaaGreatWR
set_option maxRecDepth 100000
set_option linter.unusedSimpArgs false
set_option linter.unusedVariables false
namespace Go.Proofs.YtolioflblegneaaGreat
open Go.RowKit
/-- A row of ints of its own. -/
def rIOw (l : List Int) (cap : Nat) : Ob := ⟨3, false, .row 1 1 (fun _ => l.length) (fun _ => cap) (fun _ k => [.v (.int .i64 (ix l k))])⟩
attribute [push_cast] rIOw
def sortI (l : List Int) : List Int := l.mergeSort fun x y => decide (x ≤ y)
theorem sortI_len (l : List Int) : (sortI l).length = l.length := (List.mergeSort_perm _ _).length_eq
open Go.Sort in
theorem put_below {w : World} {n g : Nat} {d : Array Int} {os : Array Obj} {cur : Array Value} {t : TypeId} (hc : w.heap[g]? = some (.cells cur t (0, 0))) :
    (putRow (Value.int .i64) (Go.Sort.ahead w n) g 0 d).heap[g]? = some (.cells (putCells (Value.int .i64) 0 d cur) t (0, 0)) ∧ ∀ k, k ≠ g → (putRow (Value.int .i64) (Go.Sort.ahead w n) g 0 d).heap[k]? = w.heap[k]? := by
  refine ⟨?_, fun k hk => ?_⟩
  · show (w.heap.modify g _)[g]? = _
    rw [Array.getElem?_modify, if_pos rfl, hc]
    rfl
  · show (w.heap.modify g _)[k]? = _
    rw [Array.getElem?_modify, if_neg (Ne.symm hk)]
theorem sortI_sp (l : List Int) (cap : Nat) (h0 : 0 < l.length) (hl : l.length ≤ 1000000) : Sp Tryz.prog 239 [.s 0 0 0 l.length cap 1] [rIOw l cap] (fun r H => r = .t [] ∧ H = [rIOw (sortI l) cap]) := by
  refine ⟨Tryz.call239, fun β w vals hI ha => ?_⟩
  have hob := hI.ob 0 _ rfl
  unfold ObOk rIOw at hob
  simp only [Bool.false_eq_true, if_false] at hob
  rcases hob 0 (by omega) with ⟨hz, _⟩ | ⟨g, cur, h1, h2, h3, h4, h5, h6⟩
  · omega
  simp only [OkL, Ok] at ha
  obtain ⟨u, us, rfl, ⟨A, rfl, _, hA⟩, rfl⟩ := ha
  obtain ⟨g', b, hb, rfl⟩ := hA (by omega)
  rw [h1] at hb
  obtain ⟨rfl, rfl⟩ : g = g' ∧ 0 = b := by simpa using hb
  have hlt : g < w.heap.size := (Array.getElem?_eq_some_iff.1 h2).1
  have hcell : ∀ k, w.cell? ⟨g, k, none⟩ = cur[k]? := fun k => cell_of_row w g k cur _ (0, 0) h2
  have hH : Go.Sort.Holds (Value.int .i64) w g 0 l.toArray := fun j hj => by
    have hj : j < l.length := by simpa using hj
    obtain ⟨_, q⟩ := h6 j hj
    obtain ⟨u, q1, q2⟩ := q 0 _ rfl
    simp only [Ok] at q2
    subst q2
    refine ⟨?_, ?_⟩
    · rw [hcell, show 0 + j = j * 1 + 0 by omega, q1, ix_eq hj]
      simp [hj]
    · simp [World.frozen?, h2]
  have hs := sort_calls g 0 cap l w hH hlt (by omega)
  refine (by simpa using hs : Calls Tryz.prog 239 [Value.slice (some ⟨g, 0 + 0 * 1, none⟩) l.length cap].toArray w _).mono ?_
  rintro e w' ⟨rfl, n, os, rfl⟩
  obtain ⟨p1, p2⟩ := put_below (w := w) (n := n) (g := g) (d := (sortI l).toArray) (os := os) h2
  have hsl := sortI_len l
  have hob2 : ObOk β (Go.Sort.putRow (Value.int .i64) (Go.Sort.ahead w n) g 0 (sortI l).toArray) 0 (rIOw (sortI l) cap) := by
    unfold ObOk rIOw
    simp only [Bool.false_eq_true, if_false]
    intro i hi
    obtain rfl : i = 0 := by omega
    refine .inr ⟨g, _, h1, p1, by simp [Go.Sort.putCells, h3], by omega, h5, fun k hk => ⟨rfl, fun c x hx => ?_⟩⟩
    match c, hx with
    | 0, hx =>
      obtain rfl : SV.v (.int .i64 (ix (sortI l) k)) = x := by simpa using hx
      refine ⟨.int .i64 (ix (sortI l) k), ?_, by simp only [Ok]⟩
      have hkc : k < cur.size := by omega
      simp only [Go.Sort.putCells, Nat.mul_one, Nat.add_zero, Array.getElem?_mapIdx, Array.getElem?_eq_getElem hkc, Option.map_some, Nat.zero_add, Nat.zero_le, true_and, Nat.sub_zero]
      rw [if_pos (by simpa using hk)]
      rw [ix_eq hk]
      simp [hk]
    | c + 1, hx => simp at hx
  obtain ⟨q1, q2⟩ := inv_set (o := rIOw l cap) (ob' := rIOw (sortI l) cap) (j := 0) (i := 0) (b := 0) hI rfl ⟨Nat.zero_lt_one, rfl, (show 0 < cap by omega)⟩ h1 (w' := Go.Sort.putRow (Value.int .i64) (Go.Sort.ahead w n) g 0 (sortI l).toArray) rfl rfl rfl (by simp [Go.Sort.ahead]) p2 hob2
    (fun i hi => ⟨hi.1, rfl, hi.2.2⟩) (fun i hi => ⟨hi.1, (fun h => by cases h), hi.2.2⟩) (fun i hi => hi)
  have hbl : Below (Go.Sort.putRow (Value.int .i64) (Go.Sort.ahead w n) g 0 (sortI l).toArray).heap.size (Go.Sort.putRow (Value.int .i64) (Go.Sort.ahead w n) g 0 (sortI l).toArray) (Go.Sort.grow (Go.Sort.putRow (Value.int .i64) (Go.Sort.ahead w n) g 0 (sortI l).toArray) os) :=
    ⟨rfl, rfl, rfl, by rw [Go.Sort.size_grow]; omega, fun k hk => Go.Sort.heap_grow_old _ os hk⟩
  exact ⟨.t [], .tuple #[], β, _, rfl, ⟨rfl, rfl⟩, by simp only [Ok]; exact ⟨#[], rfl, by simp [OkL]⟩, q1.below hbl, (q2 _).trans (Fr.below hbl)⟩
end Go.Proofs.YtolioflblegneaaGreat
namespace Go.Proofs.YtolioflblegneaaGreat
open Go.RowKit
theorem ixw_app_last {α : Type} [Inhabited α] (l : List α) (x : α) : ix (l ++ [x]) l.length = x := by
  rw [ix_eq (by simp)]; simp
theorem ixw_app_ne {α : Type} [Inhabited α] {l : List α} {q : Nat} (h : q ≠ l.length) (x : α) : ix (l ++ [x]) q = ix l q := by
  unfold ix
  rcases Nat.lt_or_ge q l.length with h1 | h1
  · rw [List.getD_eq_getElem?_getD, List.getD_eq_getElem?_getD, List.getElem?_append_left h1]
  · rw [List.getD_eq_getElem?_getD, List.getD_eq_getElem?_getD, List.getElem?_eq_none (by simp; omega), List.getElem?_eq_none h1]
/-- Without repetitions, of the first p numbers. -/
def cmpT (l : List Int) : Nat → List Int
  | 0 => []
  | p + 1 => if p = 0 ∨ ix l p ≠ ix l (p - 1) then cmpT l p ++ [ix l p] else cmpT l p
def cmpL (l : List Int) : List Int := cmpT l l.length
theorem cmpT_len (l : List Int) : ∀ p, (cmpT l p).length ≤ p
  | 0 => Nat.le_refl _
  | p + 1 => by
    have := cmpT_len l p
    unfold cmpT
    split
    · simp; omega
    · omega
/-- The row while it is compacted. -/
def conT (l : List Int) (a : Nat) : Nat → List Int
  | 0 => l
  | p + 1 => if a < p ∧ ix l p ≠ ix l (p - 1) then (conT l a p).set (cmpT l p).length (ix l p) else conT l a p
theorem conT_len (l : List Int) (a : Nat) : ∀ p, (conT l a p).length = l.length
  | 0 => rfl
  | p + 1 => by
    unfold conT
    split
    · rw [List.length_set, conT_len l a p]
    · exact conT_len l a p
theorem ixw_set_self {l : List Int} {f : Nat} (h : f < l.length) (x : Int) : ix (l.set f x) f = x := by
  rw [ix_eq (by simpa using h)]; simp
theorem ixw_set_ne {l : List Int} {f q : Nat} (h : q ≠ f) (x : Int) : ix (l.set f x) q = ix l q := by
  unfold ix
  rw [List.getD_eq_getElem?_getD, List.getD_eq_getElem?_getD, List.getElem?_set_ne (Ne.symm h)]
theorem set_up {C : List Int} {f k i : Nat} {v : Int} {rl : List Nat} (hf : f < C.length) (hi : i < 1) : Value.int IntKind.i64 (ix (C.set f v) k) = Value.int IntKind.i64 (bif i == 0 && k == f then v else ix C k) ∧ mtL rl [] (bif i == 0 && k == f then [] else []) := by
  obtain rfl : i = 0 := by omega
  by_cases e : k = f
  · subst e
    have hb : (k == k) = true := by simp
    rw [ixw_set_self hf, hb]
    exact ⟨rfl, trivial⟩
  · have hb : (k == f) = false := by simpa using e
    rw [ixw_set_ne e, hb]
    exact ⟨rfl, trivial⟩
structure ConOk (l : List Int) (a p : Nat) : Prop where
  low : (cmpT l p).length < p
  old : ∀ q, p ≤ q + 1 → ix (conT l a p) q = ix l q
  out : ∀ q, q < (cmpT l p).length → ix (conT l a p) q = ix (cmpT l p) q
theorem conT_a (l : List Int) (a : Nat) : ∀ p, p ≤ a + 1 → conT l a p = l
  | 0, _ => rfl
  | p + 1, h => by
    unfold conT
    rw [if_neg (fun h2 => by omega), conT_a l a p (by omega)]
theorem conOk_0 {l : List Int} {a : Nat} (ha : 0 < a) (hal : a < l.length) (h : ∀ k, 0 < k → k < a → ix l k ≠ ix l (k - 1)) (he : ix l a = ix l (a - 1)) : cmpT l a = l.take a ∧ ConOk l a (a + 1) := by
  have key : ∀ p, p ≤ a → cmpT l p = l.take p := by
    intro p
    induction p with
    | zero => intro _; simp [cmpT]
    | succ p ih =>
      intro hp
      unfold cmpT
      rw [if_pos, ih (by omega), take_snoc (by omega)]
      rcases Nat.eq_zero_or_pos p with h0 | h0
      · exact .inl h0
      · exact .inr (h p h0 (by omega))
  have h1 := key a (Nat.le_refl _)
  have h2 : cmpT l (a + 1) = l.take a := by
    unfold cmpT
    rw [if_neg (by rintro (h | h); omega; exact h he), h1]
  have h3 : (l.take a).length = a := by simp; omega
  refine ⟨h1, ⟨by rw [h2, h3]; omega, fun q _ => by rw [conT_a l a (a + 1) (by omega)], fun q hq => ?_⟩⟩
  rw [h2, h3] at hq
  rw [h2, conT_a l a (a + 1) (by omega), ix_eq (l := l.take a) (by omega), ix_eq (l := l) (by omega), List.getElem_take]
theorem conOk_step {l : List Int} {a p : Nat} (h : ConOk l a p) (ha : a < p) (hp : p < l.length) : ConOk l a (p + 1) := by
  obtain ⟨h1, h2, h3⟩ := h
  have hcl := conT_len l a p
  by_cases e : ix l p = ix l (p - 1)
  · have e1 : cmpT l (p + 1) = cmpT l p := if_neg (by rintro (h | h); omega; exact h e)
    have e2 : conT l a (p + 1) = conT l a p := if_neg (fun h => h.2 e)
    exact ⟨by rw [e1]; omega, fun q hq => by rw [e2]; exact h2 q (by omega), fun q hq => by rw [e1] at hq ⊢; rw [e2]; exact h3 q hq⟩
  · have e1 : cmpT l (p + 1) = cmpT l p ++ [ix l p] := if_pos (.inr e)
    have e2 : conT l a (p + 1) = (conT l a p).set (cmpT l p).length (ix l p) := if_pos ⟨ha, e⟩
    refine ⟨by rw [e1]; simp; omega, fun q hq => ?_, fun q hq => ?_⟩
    · rw [e2, ixw_set_ne (by omega)]; exact h2 q (by omega)
    · rw [e1] at hq ⊢
      rw [e2]
      by_cases eq : q = (cmpT l p).length
      · subst eq; rw [ixw_set_self (by omega), ixw_app_last]
      · rw [ixw_set_ne eq, ixw_app_ne eq]
        exact h3 q (by simp at hq; omega)
theorem cmp_all {l : List Int} (h : ∀ k, 0 < k → k < l.length → ix l k ≠ ix l (k - 1)) : cmpL l = l := by
  have key : ∀ p, p ≤ l.length → cmpT l p = l.take p := by
    intro p
    induction p with
    | zero => intro _; simp [cmpT]
    | succ p ih =>
      intro hp
      unfold cmpT
      rw [if_pos, ih (by omega), take_snoc (by omega)]
      rcases Nat.eq_zero_or_pos p with h0 | h0
      · exact .inl h0
      · exact .inr (h p h0 (by omega))
  have := key l.length (Nat.le_refl _)
  rwa [List.take_length] at this
set_option maxHeartbeats 2000000 in
theorem compact_sp (l : List Int) (cap : Nat) (hl : l.length ≤ 1000000) (hc : l.length ≤ cap) : Sp Tryz.prog 240 [.s 0 0 0 l.length cap 1] [rIOw l cap] (fun r H => r = .s 0 0 0 (cmpL l).length cap 1 ∧ H = [rIOw (cmpL l) cap]) := by
  refine sp_weak ?_
  refine sp_of_ex true [(6, .one 0 (.one 1 (.one 2 (.one 4 (.one 5 (.one 6 (.one 7 (.alt [(3, .one 8 (.one 9 .fin)), (8, .one 3 (.one 9 .fin))])))))))), (11, .one 0 (.one 1 (.one 2 (.one 4 (.one 5 (.one 6 (.one 7 (.alt [(3, .one 8 (.one 9 .fin)), (8, .one 3 (.one 9 .fin))]))))))))] mixed Tryz.call240 Tryz.func240 rfl Tryz.ntmps240 Tryz.results240 (by decide +kernel) rfl ?_
  refine sxo ?_
  try with_reducible exact trivial
  refine ⟨fun h2 => ?_, fun h2 => ?_⟩
  · rw [cmp_all (fun k h3 h4 => by omega)]
    refine ⟨_, _, [0], ?_, by kernel_rfl, ?_, rfl, rfl⟩
    · refine sxo ?_
      try with_reducible exact trivial
    · refine sxo ?_
      try with_reducible exact trivial
  refine tr_loop mixed (by kernel_rfl) (fun (k : Nat) => [(3, .v (.int .i64 k)), (0, .s 0 0 0 l.length cap 1)]) (fun _ => [rIOw l cap]) (fun k => 1 ≤ k ∧ k ≤ l.length ∧ ∀ j, 0 < j → j < k → ix l j ≠ ix l (j - 1)) (fun k => l.length - k) 1 ⟨Nat.le_refl _, by omega, fun j h3 h4 => by omega⟩ (Mt.wk (rl := [0]) ⟨by kernel_rfl, ?_, ?_⟩) ?_
  · refine sxo ?_
    try with_reducible exact trivial
    rfl
  · refine sxo ?_
    try with_reducible exact trivial
  rintro a ⟨ha1, ha2, hn⟩
  refine sxo ?_
  try with_reducible exact trivial
  refine ⟨fun h => ?_, fun h => ?_⟩
  rotate_left
  · rw [cmp_all (fun k h3 h4 => hn k h3 (by omega))]
    refine ⟨_, _, [0], ?_, by kernel_rfl, ?_, rfl, rfl⟩
    · refine sxo ?_
      try with_reducible exact trivial
    · refine sxo ?_
      try with_reducible exact trivial
  have hal : a < l.length := by omega
  have e1 : ((a : Int) - 1).toNat = a - 1 := by omega
  repeat (with_reducible refine And.intro (by omega) ?_)
  rw [e1]
  have hcl := conT_len l a
  refine ⟨⟨by omega, by omega, by omega, by omega, ?_⟩, ⟨by omega, by omega, by omega, by omega, ?_⟩⟩
  all_goals
    refine ⟨fun he => ?_, fun he => ?_⟩
    rotate_left
    · repeat (with_reducible refine And.intro (by omega) ?_)
      refine lpK_normal (a + 1) [0] ⟨by omega, by omega, fun j h3 h4 => ?_⟩ (by omega) (by kernel_rfl) ?_ ?_
      · by_cases ej : j = a
        · rw [ej]; exact he
        · exact hn j h3 (by omega)
      · refine sxo ?_
        try with_reducible exact trivial
      · refine sxo ?_
        try with_reducible exact trivial
    obtain ⟨c1, c2⟩ := conOk_0 (by omega) hal hn he
    have c3 : cmpT l (a + 1) = l.take a := by
      rw [← c1]
      exact if_neg (by rintro (h | h); omega; exact h he)
    repeat (with_reducible refine And.intro (by omega) ?_)
    refine tr_loop mixed (by kernel_rfl) (fun (p : Nat) => [(5, .v (.int .i64 (p - a : Nat))), (4, .s 0 0 a (l.length - a) (cap - a) 1), (3, .v (.int .i64 (cmpT l p).length)), (0, .s 0 0 0 l.length cap 1)]) (fun p => [rIOw (conT l a p) cap]) (fun p => a + 1 ≤ p ∧ p ≤ l.length ∧ ConOk l a p) (fun p => l.length - p) (a + 1) ⟨Nat.le_refl _, by omega, c2⟩ (Mt.wk (rl := [0]) ⟨by kernel_rfl, ?_, ?_⟩) ?_
    · refine sxo ?_
      try with_reducible exact trivial
      rw [c3, show a + 1 - a = 1 by omega]
      simp
      omega
    · refine sxo ?_
      try with_reducible exact trivial
      rw [conT_a l a (a + 1) (by omega)]
      exact fun _ _ => ⟨Nat.le_refl _, fun _ _ => rfl⟩
    rintro p ⟨p1, p2, p3⟩
    have hlow := p3.low
    simp only [push_cast, ↓branch_true, ↓branch_false, Nat.reduceBEq, Nat.reduceAdd, Nat.reduceMul, Nat.reduceSub, Int.reduceToNat, reduceCtorEq, branch_decide, branch_not, branch_beq, branch_bne, hcl]
    have f1 : a + (p - a) = p := by omega
    have f2 : a + (((p - a : Nat) : Int) - 1).toNat = p - 1 := by omega
    rw [f1, f2, p3.old p (by omega), p3.old (p - 1) (by omega)]
    refine ⟨fun h3 => ?_, fun h3 => ?_⟩
    · have hp : p < l.length := by omega
      have hst := conOk_step p3 (by omega) hp
      have i5 : ((p + 1 - a : Nat) : Int) = ((p - a : Nat) : Int) + 1 := by omega
      refine ⟨by omega, by omega, by omega, by omega, by omega, ⟨by omega, by omega, by omega, by omega, ?_⟩, ⟨by omega, by omega, by omega, by omega, ?_⟩⟩
      all_goals
        refine ⟨fun h4 => ?_, fun h4 => ?_⟩
        · have g1 : cmpT l (p + 1) = cmpT l p := if_neg (by rintro (h | h); omega; exact h h4)
          have g2 : conT l a (p + 1) = conT l a p := if_neg (fun h => h.2 h4)
          repeat (with_reducible refine And.intro (by omega) ?_)
          refine lpK_normal (p + 1) [0] ⟨by omega, by omega, hst⟩ (by omega) (by kernel_rfl) ?_ ?_
          · simp only [push_cast, ↓branch_true, ↓branch_false, Nat.reduceBEq, Nat.reduceAdd, Nat.reduceMul, Nat.reduceSub, Int.reduceToNat, reduceCtorEq, branch_decide, branch_not, branch_beq, branch_bne, g1, i5]
          · simp only [push_cast, ↓branch_true, ↓branch_false, Nat.reduceBEq, Nat.reduceAdd, Nat.reduceMul, Nat.reduceSub, Int.reduceToNat, reduceCtorEq, branch_decide, branch_not, branch_beq, branch_bne, g2, hcl]
        · have g1 : cmpT l (p + 1) = cmpT l p ++ [ix l p] := if_pos (.inr h4)
          have g2 : conT l a (p + 1) = (conT l a p).set (cmpT l p).length (ix l p) := if_pos ⟨by omega, h4⟩
          repeat (with_reducible refine And.intro (by omega) ?_)
          repeat' (with_reducible (first | apply And.intro | intro _))
          all_goals try omega
          all_goals
            refine lpK_normal (p + 1) [0] ⟨by omega, by omega, hst⟩ (by omega) (by kernel_rfl) ?_ ?_
            · simp only [push_cast, ↓branch_true, ↓branch_false, Nat.reduceBEq, Nat.reduceAdd, Nat.reduceMul, Nat.reduceSub, Int.reduceToNat, reduceCtorEq, branch_decide, branch_not, branch_beq, branch_bne, g1, List.length_append, i5]
            · simp only [push_cast, ↓branch_true, ↓branch_false, Nat.reduceBEq, Nat.reduceAdd, Nat.reduceMul, Nat.reduceSub, Int.reduceToNat, reduceCtorEq, branch_decide, branch_not, branch_beq, branch_bne, g2, hcl, List.length_set]
              exact fun i hi k _ => set_up (by rw [hcl]; omega) hi
    · obtain rfl : p = l.length := by omega
      repeat (with_reducible refine And.intro (by omega) ?_)
      refine ⟨_, _, [0], ?_, by kernel_rfl, ?_, rfl, rfl⟩
      · simp only [push_cast, ↓branch_true, ↓branch_false, Nat.reduceBEq, Nat.reduceAdd, Nat.reduceMul, Nat.reduceSub, Int.reduceToNat, reduceCtorEq, branch_decide, branch_not, branch_beq, branch_bne, cmpL]
        exact ⟨by omega, by omega⟩
      · simp only [push_cast, ↓branch_true, ↓branch_false, Nat.reduceBEq, Nat.reduceAdd, Nat.reduceMul, Nat.reduceSub, Int.reduceToNat, reduceCtorEq, branch_decide, branch_not, branch_beq, branch_bne, cmpL]
        refine fun i hi => ⟨by omega, fun k hk => ?_⟩
        have hb : (decide ((cmpT l l.length).length ≤ k) && decide (k < (cmpT l l.length).length + (l.length - (cmpT l l.length).length))) = false := by simp; omega
        rw [hb, Bool.and_false, p3.out k hk]
        exact ⟨rfl, trivial⟩
theorem cmpT_le (l : List Int) : (cmpL l).length ≤ l.length := cmpT_len l l.length
end Go.Proofs.YtolioflblegneaaGreat
namespace Go.Proofs.YtolioflblegneaaGreat
open Go.RowKit
theorem cmpT_fact {l : List Int} (hs : l.Pairwise (· ≤ ·)) : ∀ p, p ≤ l.length → (∀ x, x ∈ cmpT l p ↔ ∃ q, q < p ∧ x = ix l q) ∧ (cmpT l p).Pairwise (· < ·)
  | 0, _ => ⟨by simp [cmpT], .nil⟩
  | p + 1, hp => by
    obtain ⟨h1, h2⟩ := cmpT_fact hs p (by omega)
    have hle : ∀ a b, a < b → b < l.length → ix l a ≤ ix l b := fun a b hab hb => by
      rw [ix_eq hb, ix_eq (Nat.lt_trans hab hb)]
      exact List.pairwise_iff_getElem.1 hs a b _ _ hab
    unfold cmpT
    by_cases h : p = 0 ∨ ix l p ≠ ix l (p - 1)
    · rw [if_pos h]
      refine ⟨fun x => ?_, List.pairwise_append.2 ⟨h2, List.pairwise_singleton _ _, fun a ha b hb => ?_⟩⟩
      · rw [List.mem_append, h1, List.mem_singleton]
        exact ⟨fun h => h.elim (fun ⟨q, hq, e⟩ => ⟨q, by omega, e⟩) fun e => ⟨p, by omega, e⟩, fun ⟨q, hq, e⟩ => by
          rcases Nat.lt_or_eq_of_le (Nat.le_of_lt_succ hq) with h3 | h3
          · exact .inl ⟨q, h3, e⟩
          · subst h3; exact .inr e⟩
      · obtain ⟨q, hq, rfl⟩ := (h1 a).1 ha
        obtain rfl : b = ix l p := by simpa using hb
        have h3 := hle (p - 1) p (by omega) (by omega)
        have h4 : ix l q ≤ ix l (p - 1) := by
          rcases Nat.lt_or_eq_of_le (show q ≤ p - 1 by omega) with h5 | h5
          · exact hle q (p - 1) h5 (by omega)
          · subst h5; exact Int.le_refl _
        have h6 := h.resolve_left (by omega)
        omega
    · rw [if_neg h]
      have hp0 : p ≠ 0 := fun e => h (.inl e)
      have he : ix l p = ix l (p - 1) := Classical.not_not.1 fun e => h (.inr e)
      refine ⟨fun x => ?_, h2⟩
      rw [h1]
      exact ⟨fun ⟨q, hq, e⟩ => ⟨q, by omega, e⟩, fun ⟨q, hq, e⟩ => by
        rcases Nat.lt_or_eq_of_le (Nat.le_of_lt_succ hq) with h3 | h3
        · exact ⟨q, h3, e⟩
        · subst h3; exact ⟨q - 1, by omega, by rw [e, he]⟩⟩
theorem sortI_asc (l : List Int) : (sortI l).Pairwise (· ≤ ·) := by
  have := List.pairwise_mergeSort (le := fun (x y : Int) => decide (x ≤ y)) (fun a b c h1 h2 => by simp at *; omega) (fun a b => by simp; omega) l
  exact this.imp fun h => by simpa using h
theorem mem_ix {l : List Int} {x : Int} : x ∈ l ↔ ∃ q, q < l.length ∧ x = ix l q := by
  constructor
  · intro h
    obtain ⟨q, hq, e⟩ := List.getElem_of_mem h
    exact ⟨q, hq, by rw [ix_eq hq, e]⟩
  · rintro ⟨q, hq, rfl⟩
    rw [ix_eq hq]
    exact List.getElem_mem hq
def cutL (A : List Int) : List Int := cmpL (sortI A)
theorem cutL_mem {A : List Int} {x : Int} : x ∈ cutL A ↔ x ∈ A := by
  have h := (cmpT_fact (sortI_asc A) _ (Nat.le_refl _)).1 x
  unfold cutL cmpL
  rw [h, ← mem_ix, (List.mergeSort_perm _ _).mem_iff (l₁ := sortI _)]
theorem cutL_asc (A : List Int) : (cutL A).Pairwise (· < ·) := (cmpT_fact (sortI_asc A) _ (Nat.le_refl _)).2
theorem cutL_le (A : List Int) : (cutL A).length ≤ A.length := by
  have := cmpT_le (sortI A)
  rw [sortI_len] at this
  exact this
theorem cutL_first {A : List Int} {f t : Int} (hf : f ∈ A) (ht : t ∈ A) (h : f < t) (ha : ∀ x ∈ A, f ≤ x ∧ x ≤ t) : 2 ≤ (cutL A).length ∧ ix (cutL A) 0 = f := by
  have hm := @cutL_mem A
  have hp := cutL_asc A
  match e : cutL A with
  | [] => rw [e] at hm; have := hm.2 hf; simp at this
  | [a] =>
    rw [e] at hm
    have h1 := hm.2 hf
    have h2 := hm.2 ht
    simp only [List.mem_singleton] at h1 h2
    omega
  | a :: b :: r =>
    rw [e] at hm hp
    refine ⟨by simp, ?_⟩
    have h1 := hm.2 hf
    have h2 := ha a (hm.1 (by simp))
    rcases List.mem_cons.1 h1 with h3 | h3
    · exact h3.symm
    · have := (List.pairwise_cons.1 hp).1 _ h3
      omega
theorem cutL_two {f t : Int} (h : f < t) : cutL [f, t] = [f, t] := by
  have hm := @cutL_mem [f, t]
  have hp := cutL_asc [f, t]
  obtain ⟨h1, h2⟩ := cutL_first (A := [f, t]) (f := f) (t := t) (by simp) (by simp) h (by simp; omega)
  have h3 := cutL_le [f, t]
  match e : cutL [f, t] with
  | [] => rw [e] at h1; simp at h1
  | [a] => rw [e] at h1; simp at h1
  | [a, b] =>
    rw [e] at hm hp h2
    have ha : a = f := h2
    have hb := hm.1 (show b ∈ [a, b] by simp)
    have hl := (List.pairwise_cons.1 hp).1 b (by simp)
    simp only [List.mem_cons, List.not_mem_nil, or_false] at hb
    rw [ha, show b = t by omega]
  | a :: b :: c :: r => rw [e] at h3; simp at h3
end Go.Proofs.YtolioflblegneaaGreat
namespace Go.Proofs.YtolioflblegneaaGreat
open Go.RowKit
theorem search_pu (n r : Nat) (g : FuncId) (fs cs : List SV) (H : List Ob) (p : Nat → Bool) (hro : roB H = true) (hn : n ≤ 3000000)
    (hr : r ≤ n) (h1 : ∀ k, k < r → p k = false) (h2 : ∀ k, r ≤ k → k < n → p k = true)
    (hp : ∀ k : Nat, k < n → Pu Tryz.prog g (fs ++ [.v (.int .i64 k)] ++ cs) H (.v (.bool (p k)))) : Pu Tryz.prog 202 [.v (.int .i64 n), .f (.func g) fs cs] H (.v (.int .i64 r)) := by
  refine pu_of_ex true [] mixed Tryz.call202 Tryz.func202 rfl Tryz.ntmps202 Tryz.results202 (by decide +kernel) rfl hro rfl ?_
  refine sxq ?_
  try with_reducible exact trivial
  refine tr_loop0 mixed (by kernel_rfl) (fun (x : Nat × Nat) => [(5, .v (.int .i64 x.1)), (6, .v (.int .i64 x.2)), (1, .f (.func g) fs cs)]) (fun x => x.1 ≤ r ∧ r ≤ x.2 ∧ x.2 ≤ n) (fun x => x.2 - x.1) (0, n) ⟨Nat.zero_le _, hr, Nat.le_refl _⟩ ?_ ?_
  · refine sxq ?_
    try with_reducible exact trivial
  rintro ⟨i, j⟩ ⟨q1, q2, q3⟩
  simp only at q1 q2 q3
  refine sxq ?_
  try with_reducible exact trivial
  refine ⟨fun h => ?_, fun h => ?_⟩
  · repeat (with_reducible refine And.intro (by omega) ?_)
    have e : ((i : Int) + (j : Int)).fdiv (2 ^ min 1 IntKind.u64.bits) = (((i + j) / 2 : Nat) : Int) := by
      have h2 : (2 : Int) ^ min 1 IntKind.u64.bits = 2 := rfl
      rw [h2, Int.fdiv_eq_ediv_of_nonneg _ (by omega)]
      omega
    rw [e]
    obtain ⟨m, hm⟩ : ∃ m, m = (i + j) / 2 := ⟨_, rfl⟩
    rw [← hm]
    repeat (with_reducible refine And.intro (by omega) ?_)
    refine sp_pu (hp m (by omega)) ?_
    refine sxq ?_
    try with_reducible exact trivial
    simp only [branch]
    refine ⟨fun h3 => ?_, fun h3 => ?_⟩
    · have : ¬ m < r := fun h4 => by rw [h1 m h4] at h3; cases h3
      refine lp0_normal (i, m) ⟨by simp only; omega, by simp only; omega, by simp only; omega⟩ (by simp only; omega) ?_
      refine sxq ?_
      try with_reducible exact trivial
    · have : ¬ r ≤ m := fun h4 => by rw [h2 m h4 (by omega)] at h3; cases h3
      repeat (with_reducible refine And.intro (by omega) ?_)
      refine lp0_normal (m + 1, j) ⟨by simp only; omega, by simp only; omega, by simp only; omega⟩ (by simp only; omega) ?_
      refine sxq ?_
      try with_reducible exact trivial
  · have : i = r := by omega
    rw [this]
theorem searchN_pu (n r : Nat) (N R : Int) (hN : N = (n : Int)) (hR : R = (r : Int)) (g : FuncId) (fs cs : List SV) (H : List Ob) (p : Nat → Bool) (hro : roB H = true) (hn : n ≤ 3000000)
    (hr : r ≤ n) (h1 : ∀ k, k < r → p k = false) (h2 : ∀ k, r ≤ k → k < n → p k = true)
    (hp : ∀ k : Nat, k < n → Pu Tryz.prog g (fs ++ [.v (.int .i64 k)] ++ cs) H (.v (.bool (p k)))) : Pu Tryz.prog 202 [.v (.int .i64 N), .f (.func g) fs cs] H (.v (.int .i64 R)) := by
  rw [hN, hR]
  exact search_pu n r g fs cs H p hro hn hr h1 h2 hp
end Go.Proofs.YtolioflblegneaaGreat
namespace Go.Proofs.YtolioflblegneaaGreat
open Go.RowKit
def bM : Bx := ⟨⟨0, 0, 0⟩, ⟨400, 200, 200⟩⟩
def oPr (n : Nat) (g : Nat → Int × Int) (cap : Nat) : Ob := ⟨303, false, .row 2 1 (fun _ => n) (fun _ => cap) (fun _ k => [.v (.int .i64 (g k).1), .v (.int .i64 (g k).2)])⟩
attribute [push_cast] oPr
def pm (M : Int) (q : Nat) : Int := if q = 0 then 0 else M
theorem ends_pu (b : Bx) (k : Nat) (hk : k < 3) : Pu Tryz.prog 192 [.a (cX b), .v (.int .i64 k)] [] (.t [.v (.int .i64 (b.lo.at k)), .v (.int .i64 (b.hi.at k))]) := by
  match k, hk with
  | 0, _ => exact ends0_pu b
  | 1, _ => exact ends1_pu b
  | 2, _ => exact ends2_pu b
set_option maxHeartbeats 4000000 in
theorem parts_sp (b : Bx) (k c : Nat) (hk : k < 3) (h : b.lo.at k < b.hi.at k) : Sp Tryz.prog 235 [.s 0 0 0 1 c 6, .a (cX b), .v (.int .i64 k)] [rBxs [bM]] (fun r H => ∃ n g cap, 1 ≤ n ∧ (g 0).1 = b.lo.at k ∧ (0 ≤ b.lo.at k ∧ b.hi.at k ≤ bM.hi.at k → n = 1 ∧ (g 0).2 = b.hi.at k) ∧ r = .s 1 0 0 n cap 2 ∧ H = [rBxs [bM], oPr n g cap]) := by
  refine sp_weak ?_
  refine sp_of_ex true [(22, .one 0 (.one 1 (.one 2 (.one 3 (.one 4 (.one 6 (.one 7 (.one 8 (.alt [(5, .one 9 (.one 10 (.one 11 (.one 12 (.one 13 .fin))))), (9, .one 5 (.one 10 (.one 11 (.one 12 (.one 13 .fin)))))])))))))))] mixed Tryz.call235 Tryz.func235 rfl Tryz.ntmps235 Tryz.results235 (by decide +kernel) rfl ?_
  refine sxg ?_
  try with_reducible exact trivial
  refine sp_c (ends_pu b k hk) rfl [] ?_
  refine sxg ?_
  try with_reducible exact trivial
  obtain ⟨f, hf⟩ : ∃ f, b.lo.at k = f := ⟨_, rfl⟩
  obtain ⟨t, ht⟩ : ∃ t, b.hi.at k = t := ⟨_, rfl⟩
  rw [hf, ht] at h
  rw [hf, ht]
  refine ⟨fun h => by omega, fun _ => ?_⟩
  refine tr_un mixed (by kernel_rfl) ?_
  refine sxg ?_
  try with_reducible exact trivial
  refine sp_c (ends_pu (ix [bM] 0) k hk) rfl [] ?_
  refine sxg ?_
  try with_reducible exact trivial
  have h0 : bM.lo.at k = 0 := by
    match k, hk with
    | 0, _ => rfl
    | 1, _ => rfl
    | 2, _ => rfl
  obtain ⟨M, hM⟩ : ∃ M, bM.hi.at k = M := ⟨_, rfl⟩
  rw [h0, hM]
  refine tr_loop mixed (by kernel_rfl) (fun (x : Nat × List Int × Nat) => [(50, .v (.int .i64 x.1)), (49, .v (.int .i64 2)), (48, .s 4 0 0 2 2 1), (9, .s 2 0 0 x.2.1.length x.2.2 1), (8, .v (.int .i64 t)), (7, .v (.int .i64 f)), (36, .v (.int .i64 0)), (35, .v (.int .i64 1)), (34, .s 0 0 0 1 c 6)])
    (fun x => [rBxs [bM], deadOb, rIOw x.2.1 x.2.2, deadOb, ⟨3, false, .row 1 1 (fun _ => 2) (fun _ => 2) (fun _ q => [.v (.int .i64 (pm M q))])⟩])
    (fun x => x.1 ≤ 2 ∧ x.2.1.length ≤ 2 + x.1 ∧ 2 ≤ x.2.1.length ∧ x.2.1.length ≤ x.2.2 ∧ f ∈ x.2.1 ∧ t ∈ x.2.1 ∧ (∀ y ∈ x.2.1, f ≤ y ∧ y ≤ t) ∧ (0 ≤ f → t ≤ M → x.2.1 = [f, t])) (fun x => 2 - x.1) (0, [f, t], 2) ⟨Nat.zero_le _, by simp, by simp, by simp, by simp, by simp, by simp; omega, fun _ _ => rfl⟩ (Mt.wk (rl := [0, 1, 2, 3, 4]) ⟨by kernel_rfl, ?_, ?_⟩) ?_
  · refine sxg ?_
    try with_reducible exact trivial
  · refine sxg ?_
    try with_reducible exact trivial
    refine ⟨fun _ _ q hq => ?_, fun _ _ q hq => ?_⟩ <;> (obtain e | e : q = 0 ∨ q = 1 := by omega) <;> subst e <;> first | rfl | exact ⟨rfl, trivial⟩
  rintro ⟨i, A, cap⟩ ⟨i1, i2, i3, i4, i5, i6, i7, i8⟩
  simp only at i1 i2 i3 i4 i5 i6 i7 i8
  refine sxg ?_
  try with_reducible exact trivial
  obtain ⟨y, hy⟩ : ∃ y, pm M i = y := ⟨_, rfl⟩
  rw [hy]
  refine ⟨fun hi => ?_, fun hi => ?_⟩
  · have hskip : ¬ (f < y ∧ y < t) → 0 ≤ f → t ≤ M → A = [f, t] := fun _ => i8
    repeat (with_reducible refine And.intro (by omega) ?_)
    refine ⟨fun h1 => ⟨fun h2 => Or.inr ⟨by omega, by omega, fun cap2 hcap2 => ⟨⟨by omega, by omega⟩, ?_⟩⟩, fun h2 => ?_⟩, fun h1 => ?_⟩
    · refine lpK_normal (i + 1, A ++ [y], cap2) [0, 1, 6, 3, 4] ⟨by simp only; omega, by simp; omega, by simp; omega, by simp; omega, by simp [i5], by simp [i6], ?_, fun h3 h4 => ?_⟩ (by simp only; omega) (by kernel_rfl) ?_ ?_
      · intro z hz
        rcases List.mem_append.1 hz with h3 | h3
        · exact i7 z h3
        · obtain rfl : z = y := by simpa using h3
          omega
      · exfalso
        unfold pm at hy
        split at hy <;> omega
      · simp only [push_cast, ↓branch_true, ↓branch_false, Nat.reduceBEq, Nat.reduceAdd, Nat.reduceMul, Nat.reduceSub, Int.reduceToNat, reduceCtorEq, Int.reduceAdd, Int.reduceEq, Int.reduceLE, Int.reduceLT, Nat.reduceLT, Nat.reduceLeDiff, ↓arr30, ↓arr31, ↓arr32, Int.reduceSub, Int.reduceMul, Int.reduceNeg, Int.reduceBEq, Int.reduceBNe, Int.reduceTDiv, decide_true, decide_false, decide_not, Int.max_def, Int.min_def, ↓reduceIte, ne_eq, Bool.not_true, Bool.not_false, List.length_append]
      · refine sxg ?_
        try with_reducible exact trivial
        refine fun _ _ => ⟨by simp, fun q hq => ?_⟩
        have hq2 : q < A.length + 1 := by simpa using hq
        by_cases e : q < A.length
        · rw [ixw_app_ne (by omega), show decide (q < A.length) = true by simp [e]]; exact ⟨rfl, trivial⟩
        · rw [show q = A.length by omega, ixw_app_last, show decide (A.length < A.length) = false by simp]; exact ⟨rfl, trivial⟩
    all_goals
      repeat (with_reducible refine And.intro (by omega) ?_)
      refine lpK_normal (i + 1, A, cap) [0, 1, 2, 3, 4] ⟨by simp only; omega, by simp only; omega, i3, i4, i5, i6, i7, i8⟩ (by simp only; omega) (by kernel_rfl) ?_ ?_
      · refine sxg ?_
        try with_reducible exact trivial
      · refine sxg ?_
        try with_reducible exact trivial
  have hi2 : i = 2 := by omega
  refine tl_un mixed (by kernel_rfl) ?_
  refine sxg ?_
  try with_reducible exact trivial
  refine sp_at (sortI_sp A cap (by omega) (by omega)) [2] (by kernel_rfl) ?_ ?_ ?_
  · refine sxg ?_
    try with_reducible exact trivial
  · refine sxg ?_
    try with_reducible exact trivial
  rintro _ _ ⟨rfl, rfl⟩
  refine sxg ?_
  try with_reducible exact trivial
  have hcp := compact_sp (sortI A) cap (by rw [sortI_len]; omega) (by rw [sortI_len]; omega)
  rw [sortI_len] at hcp
  refine sp_at hcp [2] (by kernel_rfl) ?_ ?_ ?_
  · refine sxg ?_
    try with_reducible exact trivial
  · refine sxg ?_
    try with_reducible exact trivial
  rintro _ _ ⟨rfl, rfl⟩
  obtain ⟨c1, c2⟩ := cutL_first i5 i6 h i7
  have c3 := cutL_le A
  have c4 : 0 ≤ f → t ≤ M → cutL A = [f, t] := fun h3 h4 => by rw [i8 h3 h4]; exact cutL_two h
  unfold cutL at c1 c2 c3 c4
  obtain ⟨L, hL⟩ : ∃ L, cmpL (sortI A) = L := ⟨_, rfl⟩
  rw [hL] at c1 c2 c3 c4 ⊢
  match L, c1, c2, c3, c4 with
  | [a, b], c1, c2, c3, c4 =>
    refine sxg ?_
    try with_reducible exact trivial
    refine tr_un mixed (by kernel_rfl) ?_
    refine sxg ?_
    try with_reducible exact trivial
    refine ⟨?_, ?_⟩
    all_goals
      intro cap1 hcap1
      refine tl_un mixed (by kernel_rfl) ?_
      refine sxg ?_
      try with_reducible exact trivial
      refine ⟨_, _, [0, 6], ?_, by kernel_rfl, ?_, 1, fun _ => (a, b), cap1, by decide, c2, fun h3 => ⟨rfl, by have := c4 h3.1 h3.2; simp at this; exact this.2⟩, rfl, rfl⟩
      · refine sxg ?_
        try with_reducible exact trivial
      · refine sxg ?_
        try with_reducible exact trivial
        refine fun _ _ q hq => ?_
        match q, hq with
        | 0, _ => exact ⟨rfl, rfl, trivial⟩
  | [a, b, d], c1, c2, c3, c4 =>
    refine sxg ?_
    try with_reducible exact trivial
    refine tr_un mixed (by kernel_rfl) ?_
    refine sxg ?_
    try with_reducible exact trivial
    refine ⟨?_, ?_⟩
    all_goals
      intro cap1 hcap1
      refine tl_un mixed (by kernel_rfl) ?_
      refine sxg ?_
      try with_reducible exact trivial
      refine ⟨?_, ?_⟩
      all_goals
        refine Or.inr fun cap2 hcap2 => ?_
        refine tl_un mixed (by kernel_rfl) ?_
        refine sxg ?_
        try with_reducible exact trivial
        refine ⟨_, _, [0, 8], ?_, by kernel_rfl, ?_, 2, fun q => if q = 0 then (a, b) else (b, d), cap2, by decide, c2, fun h3 => by have := c4 h3.1 h3.2; simp at this, rfl, rfl⟩
        · refine sxg ?_
          try with_reducible exact trivial
        · refine sxg ?_
          try with_reducible exact trivial
          refine fun _ _ q hq => ?_
          match q, hq with
          | 0, _ => exact ⟨rfl, rfl, trivial⟩
          | 1, _ => exact ⟨rfl, rfl, trivial⟩
  | [a, b, d, e], c1, c2, c3, c4 =>
    refine sxg ?_
    try with_reducible exact trivial
    refine tr_un mixed (by kernel_rfl) ?_
    refine sxg ?_
    try with_reducible exact trivial
    refine ⟨?_, ?_⟩
    all_goals
      intro cap1 hcap1
      refine tl_un mixed (by kernel_rfl) ?_
      refine sxg ?_
      try with_reducible exact trivial
      refine ⟨?_, ?_⟩
      all_goals
        refine Or.inr fun cap2 hcap2 => ?_
        refine tl_un mixed (by kernel_rfl) ?_
        refine sxg ?_
        try with_reducible exact trivial
        refine ⟨?_, ?_⟩
        all_goals
          refine Or.inr fun cap3 hcap3 => ?_
          refine tl_un mixed (by kernel_rfl) ?_
          refine sxg ?_
          try with_reducible exact trivial
          refine ⟨_, _, [0, 10], ?_, by kernel_rfl, ?_, 3, fun q => if q = 0 then (a, b) else if q = 1 then (b, d) else (d, e), cap3, by decide, c2, fun h3 => by have := c4 h3.1 h3.2; simp at this, rfl, rfl⟩
          · refine sxg ?_
            try with_reducible exact trivial
          · refine sxg ?_
            try with_reducible exact trivial
            refine fun _ _ q hq => ?_
            match q, hq with
            | 0, _ => exact ⟨rfl, rfl, trivial⟩
            | 1, _ => exact ⟨rfl, rfl, trivial⟩
            | 2, _ => exact ⟨rfl, rfl, trivial⟩
  | a :: b :: d :: e :: r :: l, c1, c2, c3, c4 => simp at c3; omega
end Go.Proofs.YtolioflblegneaaGreat
