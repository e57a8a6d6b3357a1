/- PatternMore: the walk, and its plain facts. -/
import Derived.Test.YthnpnoclhmneoaaW
set_option maxRecDepth 100000
set_option linter.unusedSimpArgs false
set_option linter.unusedVariables false
namespace Go.Proofs.Ythnpnoclhmneoaa
open Go.RowKit
theorem fold_max {pr : List Int} : ∀ {E : List (List Int)} {s : Bst}, let r := E.foldl (pickB [] 0 pr) s; (r = s ∨ ∃ q, q ∈ E ∧ r = (q, priceL q pr)) ∧ s.2 ≤ r.2 ∧ ∀ q ∈ E, priceL q pr ≤ r.2
  | [], s => ⟨.inl rfl, Int.le_refl _, fun q hq => by simp at hq⟩
  | q :: E, s => by
    obtain ⟨h1, h2, h3⟩ := fold_max (pr := pr) (E := E) (s := pickB [] 0 pr s q)
    simp only [List.foldl_cons]
    have e : (pickB [] 0 pr s q = s ∧ priceL q pr ≤ s.2) ∨ (pickB [] 0 pr s q = (q, priceL q pr) ∧ s.2 < priceL q pr) := by
      unfold pickB
      simp only [List.nil_append, Int.zero_add]
      split
      · exact .inr ⟨rfl, by assumption⟩
      · exact .inl ⟨rfl, by omega⟩
    refine ⟨?_, ?_, fun x hx => ?_⟩
    · rcases h1 with h1 | ⟨y, hy, h1⟩
      · rcases e with ⟨e, _⟩ | ⟨e, _⟩
        · exact .inl (h1.trans e)
        · exact .inr ⟨q, List.mem_cons_self .., h1.trans e⟩
      · exact .inr ⟨y, List.mem_cons_of_mem _ hy, h1⟩
    · rcases e with ⟨e, e2⟩ | ⟨e, e2⟩
      · rw [e] at h2 ⊢; exact h2
      · have h2' := h2
        rw [e] at h2' ⊢
        exact Int.le_trans (Int.le_of_lt e2) h2'
    · rcases List.mem_cons.1 hx with rfl | hx
      · rcases e with ⟨e, e2⟩ | ⟨e, e2⟩
        · rw [e] at h2 ⊢; exact Int.le_trans e2 h2
        · rw [e] at h2 ⊢; exact h2
      · exact h3 x hx
abbrev Fit (length : Int) (l : List Pc) (q : List Int) : Prop := q.length = l.length ∧ inB l q = true ∧ sumL l q ≤ length
/-- The best pattern: it fits, its price is the answer's, and none has more. -/
theorem best_max {length : Int} {l : List Pc} {pr : List Int} (h : bestE length l pr = 0) : Fit length l (bestS length l pr).1 ∧ (bestS length l pr).2 = priceL (bestS length l pr).1 pr ∧ ∀ q, Fit length l q → priceL q pr ≤ (bestS length l pr).2 := by
  obtain ⟨h1, h2, h3⟩ := bestE_0 h
  obtain ⟨g1, g2, g3, g4⟩ := given_0 h1
  have hb := bestS_fold g1 (show 0 ≤ length by omega) (show pr.length = l.length by omega) (fun x hx => (h2 x hx).1) h
  obtain ⟨m1, m2, m3⟩ := fold_max (pr := pr) (E := eachG l length) (s := ([], -1))
  have hm := fun q => mem_eachG (l := l) (left := length) (q := q) (posL_of g1) (by omega)
  rw [← hb] at m1 m2 m3
  obtain ⟨r, hr⟩ := eachG_head (l := l) (left := length) (posL_of g1) (by omega)
  have h0 : fillL length l ∈ eachG l length := by rw [hr]; exact List.mem_cons_self ..
  have f0 := (hm _).1 h0
  have p0 := (priceL_bound (inB_vals g1 f0.2.1 f0.1) h2).1
  have p1 := m3 _ h0
  rcases m1 with m1 | ⟨q, hq, m1⟩
  · rw [m1] at p1; simp only at p1; omega
  · rw [m1]
    exact ⟨(hm q).1 hq, rfl, fun x hx => by have := m3 x ((hm x).2 hx); rwa [m1] at this⟩
/-- Fewer patterns that fit, and lesser prices: a lesser best price. -/
theorem best_le {length length' : Int} {l l' : List Pc} {pr pr' : List Int} (h : bestE length l pr = 0) (h' : bestE length' l' pr' = 0) (hf : ∀ q, Fit length l q → Fit length' l' q ∧ priceL q pr ≤ priceL q pr') : (bestS length l pr).2 ≤ (bestS length' l' pr').2 := by
  obtain ⟨a1, a2, a3⟩ := best_max h
  obtain ⟨b1, b2, b3⟩ := best_max h'
  obtain ⟨f1, f2⟩ := hf _ a1
  have := b3 _ f1
  omega
def readyB (length : Int) (l : List Pc) : Bool := decide (l.length ≤ 5) && fewB length l && decide (givenE length l l.length = 0)
theorem ready_pu (length : Int) (l : List Pc) (c : Nat) (hl : l.length ≤ 9223372036854775807) : Pu Try.prog 19 [.v (.int .i64 length), .s 0 0 0 l.length c 2] [rPc l] (.v (.bool (readyB length l))) := by
  refine pu_of_ex true [] mixed Try.call19 Try.func19 rfl Try.ntmps19 Try.results19 (by decide +kernel) rfl rfl rfl ?_
  simp only [push_cast, ↓branch_true, ↓branch_false, Nat.reduceBEq, Nat.reduceAdd, Nat.reduceMul, Nat.reduceSub, Int.reduceToNat, reduceCtorEq, branch_decide, branch_not, branch_beq, branch_bne]
  refine ⟨fun h => ?_, fun h => ?_⟩
  · refine sp_call (few_pu length l c hl) rfl [0] rfl (by simp only [push_cast, ↓branch_true, ↓branch_false, Nat.reduceBEq, Nat.reduceAdd, Nat.reduceMul, Nat.reduceSub, Int.reduceToNat, reduceCtorEq, branch_decide, branch_not, branch_beq, branch_bne]) (by simp only [push_cast, ↓branch_true, ↓branch_false, Nat.reduceBEq, Nat.reduceAdd, Nat.reduceMul, Nat.reduceSub, Int.reduceToNat, reduceCtorEq, branch_decide, branch_not, branch_beq, branch_bne]) ?_
    simp only [push_cast, ↓branch_true, ↓branch_false, Nat.reduceBEq, Nat.reduceAdd, Nat.reduceMul, Nat.reduceSub, Int.reduceToNat, reduceCtorEq, branch_decide, branch_not, branch_beq, branch_bne]
    simp only [branch]
    refine ⟨fun hf => ?_, fun hf => ?_⟩
    · refine sp_call (rgiven_pu length l.length l c (by omega)) rfl [0] rfl (by simp only [push_cast, ↓branch_true, ↓branch_false, Nat.reduceBEq, Nat.reduceAdd, Nat.reduceMul, Nat.reduceSub, Int.reduceToNat, reduceCtorEq, branch_decide, branch_not, branch_beq, branch_bne]) (by simp only [push_cast, ↓branch_true, ↓branch_false, Nat.reduceBEq, Nat.reduceAdd, Nat.reduceMul, Nat.reduceSub, Int.reduceToNat, reduceCtorEq, branch_decide, branch_not, branch_beq, branch_bne]) ?_
      simp only [push_cast, ↓branch_true, ↓branch_false, Nat.reduceBEq, Nat.reduceAdd, Nat.reduceMul, Nat.reduceSub, Int.reduceToNat, reduceCtorEq, branch_decide, branch_not, branch_beq, branch_bne]
      simp [readyB, hf, show l.length ≤ 5 by omega]
      rfl
    · simp [readyB, hf]
  · simp [readyB, show ¬ l.length ≤ 5 by omega]
/-- A list of pieces of one's own. -/
def oPc (l : List Pc) (cap : Nat) : Ob := ⟨44, false, .row 2 1 (fun _ => l.length) (fun _ => cap) (fun _ k => cPc (ix l k))⟩
attribute [push_cast] oPc
theorem clonePc_sp (l : List Pc) (c : Nat) (hc : l.length ≤ c) (hn : l.length ≤ 1000000) : Sp Try.prog 20 [.s 0 0 0 l.length c 2] [rPc l] (fun r H => ∃ cap, l.length ≤ cap ∧ r = .s 1 0 0 l.length cap 2 ∧ H = [rPc l, oPc l cap]) := by
  refine sp_weak ?_
  refine sp_of_ex true [] mixed Try.call20 Try.func20 rfl Try.ntmps20 Try.results20 (by decide +kernel) rfl ?_
  simp only [push_cast, ↓branch_true, ↓branch_false, Nat.reduceBEq, Nat.reduceAdd, Nat.reduceMul, Nat.reduceSub, Int.reduceToNat, reduceCtorEq, branch_decide, branch_not, branch_beq, branch_bne]
  intro b hb
  cases b
  · simp only [branch_false]
    refine ⟨by omega, by omega, ?_, .inl ⟨by omega, by omega, fun cap hcap => ?_⟩⟩
    · unfold srcOk
      split <;> simp [lenP, lenIs, ones, one1]
    · refine ⟨_, _, [0, 2], ?_, ?_, ?_, cap, hcap, rfl, rfl⟩
      · simp only [push_cast, ↓branch_true, ↓branch_false, Nat.reduceBEq, Nat.reduceAdd, Nat.reduceMul, Nat.reduceSub, Int.reduceToNat, reduceCtorEq, branch_decide, branch_not, branch_beq, branch_bne]
      · kernel_rfl
      · simp only [push_cast, ↓branch_true, ↓branch_false, Nat.reduceBEq, Nat.reduceAdd, Nat.reduceMul, Nat.reduceSub, Int.reduceToNat, reduceCtorEq, branch_decide, branch_not, branch_beq, branch_bne]
  · simp only [branch_true]
    have hc0 : c = 0 := by
      rcases Nat.eq_zero_or_pos c with h | h
      · exact h
      · have := hb h; cases this
    have hl0 : l.length = 0 := by omega
    refine ⟨_, _, [0, 1], ?_, ?_, ?_, 0, by omega, rfl, rfl⟩
    · simp only [push_cast, ↓branch_true, ↓branch_false, Nat.reduceBEq, Nat.reduceAdd, Nat.reduceMul, Nat.reduceSub, Int.reduceToNat, reduceCtorEq, branch_decide, branch_not, branch_beq, branch_bne]
      exact hl0
    · kernel_rfl
    · simp only [push_cast, ↓branch_true, ↓branch_false, Nat.reduceBEq, Nat.reduceAdd, Nat.reduceMul, Nat.reduceSub, Int.reduceToNat, reduceCtorEq, branch_decide, branch_not, branch_beq, branch_bne]
      exact hl0
theorem mem_ix {α : Type} [Inhabited α] {l : List α} {x : α} (h : x ∈ l) : ∃ k, k < l.length ∧ ix l k = x := by
  obtain ⟨k, hk, rfl⟩ := List.getElem_of_mem h
  exact ⟨k, hk, ix_eq hk⟩
theorem ix_set {α : Type} [Inhabited α] {l : List α} {k j : Nat} {x : α} (hj : j < l.length) : ix (l.set k x) j = if k = j then x else ix l j := by
  rw [ix_eq (by simpa using hj), ix_eq hj, List.getElem_set]
def moreL (l : List Pc) (k : Nat) : List Pc := l.set k ⟨(ix l k).len, (ix l k).cnt + 1⟩
@[push_cast] theorem moreL_len (l : List Pc) (k : Nat) : (moreL l k).length = l.length := by simp [moreL]
theorem sumL_set : ∀ {l : List Pc} {k : Nat} {q : List Int}, sumL (moreL l k) q = sumL l q
  | [], k, q => by simp [moreL]
  | p :: l, 0, [] => by simp [moreL, sumL_nil]
  | p :: l, 0, n :: q => by
    have : ix (p :: l) 0 = p := by rw [ix_eq (by simp)]; rfl
    simp [moreL, sumL, this]
  | p :: l, k + 1, [] => by simp [sumL_nil]
  | p :: l, k + 1, n :: q => by
    have : ix (p :: l) (k + 1) = ix l k := by unfold ix; simp
    have h := sumL_set (l := l) (k := k) (q := q)
    simp only [moreL] at h
    simp [moreL, sumL, this, h]
theorem inB_set : ∀ {l : List Pc} {k : Nat} {q : List Int}, inB l q = true → inB (moreL l k) q = true
  | [], k, q, _ => by simp [moreL, inB]
  | p :: l, 0, [], _ => by simp [moreL, inB]
  | p :: l, 0, n :: q, h => by
    have e : ix (p :: l) 0 = p := by rw [ix_eq (by simp)]; rfl
    simp only [inB, Bool.and_eq_true, decide_eq_true_eq] at h
    simp only [moreL, e, List.set_cons_zero, inB, Bool.and_eq_true, decide_eq_true_eq]
    exact ⟨⟨h.1.1, by omega⟩, h.2⟩
  | p :: l, k + 1, [], _ => by simp [moreL, inB]
  | p :: l, k + 1, n :: q, h => by
    have e : ix (p :: l) (k + 1) = ix l k := by unfold ix; simp
    simp only [inB, Bool.and_eq_true, decide_eq_true_eq] at h
    have h2 := inB_set (k := k) h.2
    simp only [moreL] at h2
    simp only [moreL, e, List.set_cons_succ, inB, Bool.and_eq_true, decide_eq_true_eq]
    exact ⟨h.1, h2⟩
theorem priceL_le : ∀ {q pr pr' : List Int}, (∀ x ∈ q, 0 ≤ x) → pr.length = pr'.length → (∀ j, j < pr.length → ix pr j ≤ ix pr' j) → priceL q pr ≤ priceL q pr'
  | [], pr, pr', _, _, _ => by simp [priceL]
  | n :: q, [], [], _, _, _ => by simp [priceL]
  | n :: q, [], _ :: _, _, h, _ => by simp at h
  | n :: q, _ :: _, [], _, h, _ => by simp at h
  | n :: q, x :: pr, y :: pr', h0, hl, h => by
    have hn := h0 n (List.mem_cons_self ..)
    have e : ∀ (a : Int) (l : List Int) (j : Nat), ix (a :: l) (j + 1) = ix l j := fun a l j => by unfold ix; simp
    have ih := priceL_le (q := q) (pr := pr) (pr' := pr') (fun z hz => h0 z (List.mem_cons_of_mem _ hz)) (by simpa using hl) fun j hj => by
      have := h (j + 1) (by simpa using hj)
      rwa [e, e] at this
    have h1 : x ≤ y := h 0 (by simp)
    have := Int.mul_le_mul_of_nonneg_left h1 hn
    simp only [priceL]
    omega
def cheapL (pr : List Int) (k : Nat) : List Int := pr.set k (ix pr k - ix pr k / 2)
@[push_cast] theorem cheapL_len (pr : List Int) (k : Nat) : (cheapL pr k).length = pr.length := by simp [cheapL]
theorem cheap_facts {pr : List Int} {k : Nat} (h : ∀ x ∈ pr, 0 ≤ x ∧ x ≤ 1073741824) : (∀ x ∈ cheapL pr k, 0 ≤ x ∧ x ≤ 1073741824) ∧ ∀ j, j < pr.length → ix (cheapL pr k) j ≤ ix pr j := by
  have key : ∀ j, j < pr.length → 0 ≤ ix (cheapL pr k) j ∧ ix (cheapL pr k) j ≤ ix pr j := fun j hj => by
    have hj1 := h _ (ix_mem hj)
    rw [cheapL, ix_set hj]
    split
    · rename_i e
      subst e
      omega
    · omega
  refine ⟨fun x hx => ?_, fun j hj => (key j hj).2⟩
  obtain ⟨j, hj, rfl⟩ := mem_ix hx
  rw [cheapL_len] at hj
  have := key j hj
  have := h _ (ix_mem hj)
  omega
theorem bestE_of {length : Int} {l : List Pc} {pr : List Int} (h1 : givenE length l pr.length = 0) (h2 : ∀ x ∈ pr, 0 ≤ x ∧ x ≤ 1073741824) (h3 : l.length ≤ 10) : bestE length l pr = 0 := by
  unfold bestE
  rw [if_neg (by simp [h1]), if_neg, if_neg (by omega)]
  simp only [Bool.not_eq_true, List.any_eq_false]
  intro x hx
  have := h2 x hx
  simp [badP]
  omega
theorem ready_given {length : Int} {l : List Pc} (h : readyB length l = true) : l.length ≤ 5 ∧ fewB length l = true ∧ givenE length l l.length = 0 := by
  simp only [readyB, Bool.and_eq_true, decide_eq_true_eq] at h
  exact ⟨h.1.1, h.1.2, h.2⟩
theorem more_ob {l : List Pc} {k : Nat} {rl : List Nat} : ∀ i, i < 1 → ∀ j, j < l.length → Value.int IntKind.i64 (ix (moreL l k) j).len = Value.int IntKind.i64 (bif i == 0 && j == k then (ix l k).len else (ix l j).len) ∧ Value.int IntKind.i64 (ix (moreL l k) j).cnt = Value.int IntKind.i64 (bif i == 0 && j == k then (ix l k).cnt + 1 else (ix l j).cnt) ∧ mtL rl [] (bif i == 0 && j == k then [] else []) := fun i hi j hj => by
  obtain rfl : i = 0 := by omega
  rw [moreL, ix_set hj]
  by_cases e : k = j
  · subst e; simp [mtL]
  · have : (j == k) = false := by simp; omega
    simp [e, this, mtL]
theorem cheap_ob {pr : List Int} {k : Nat} {rl : List Nat} : ∀ i, i < 1 → ∀ j, j < pr.length → Value.int IntKind.i64 (ix (cheapL pr k) j) = Value.int IntKind.i64 (bif i == 0 && j == k then ix pr k - ix pr k / 2 else ix pr j) ∧ mtL rl [] (bif i == 0 && j == k then [] else []) := fun i hi j hj => by
  obtain rfl : i = 0 := by omega
  rw [cheapL, ix_set hj]
  by_cases e : k = j
  · subst e; simp [mtL]
  · have : (j == k) = false := by simp; omega
    simp [e, this, mtL]
theorem more_sp5 (length : Int) (l : List Pc) (pr : List Int) (by_ wh : Int) (c cp : Nat) (hl : l.length ≤ 9223372036854775807) (hl2 : pr.length ≤ 9223372036854775807) (hlc : l.length ≤ c) (hpc : pr.length ≤ cp) (hb : 0 ≤ by_ ∧ by_ ≤ 65535) (hw : 0 ≤ wh ∧ wh ≤ 255) :
    Sp Try.prog 5 [.v (.int .i64 length), .s 0 0 0 l.length c 2, .s 1 0 0 pr.length cp 1, .v (.int .u16 by_), .v (.int .u8 wh)] [rPc l, rInt 3 pr] trueK := by
  refine sp_of_ex true [] mixed Try.call5 Try.func5 rfl Try.ntmps5 Try.results5 (by decide +kernel) rfl ?_
  simp only [push_cast, ↓branch_true, ↓branch_false, Nat.reduceBEq, Nat.reduceAdd, Nat.reduceMul, Nat.reduceSub, Int.reduceToNat, reduceCtorEq, branch_decide, branch_not, branch_beq, branch_bne]
  refine sp_at awake_sp [] rfl (by (simp only [push_cast, ↓branch_true, ↓branch_false, Nat.reduceBEq, Nat.reduceAdd, Nat.reduceMul, Nat.reduceSub, Int.reduceToNat, reduceCtorEq, branch_decide, branch_not, branch_beq, branch_bne])) (by (simp only [push_cast, ↓branch_true, ↓branch_false, Nat.reduceBEq, Nat.reduceAdd, Nat.reduceMul, Nat.reduceSub, Int.reduceToNat, reduceCtorEq, branch_decide, branch_not, branch_beq, branch_bne])) ?_
  rintro r0 H1 ⟨rfl, rfl⟩
  simp only [push_cast, ↓branch_true, ↓branch_false, Nat.reduceBEq, Nat.reduceAdd, Nat.reduceMul, Nat.reduceSub, Int.reduceToNat, reduceCtorEq, branch_decide, branch_not, branch_beq, branch_bne]
  refine sp_call (ready_pu length l c hl) rfl [0] rfl (by simp only [push_cast, ↓branch_true, ↓branch_false, Nat.reduceBEq, Nat.reduceAdd, Nat.reduceMul, Nat.reduceSub, Int.reduceToNat, reduceCtorEq, branch_decide, branch_not, branch_beq, branch_bne]) (by simp only [push_cast, ↓branch_true, ↓branch_false, Nat.reduceBEq, Nat.reduceAdd, Nat.reduceMul, Nat.reduceSub, Int.reduceToNat, reduceCtorEq, branch_decide, branch_not, branch_beq, branch_bne]) ?_
  simp only [push_cast, ↓branch_true, ↓branch_false, Nat.reduceBEq, Nat.reduceAdd, Nat.reduceMul, Nat.reduceSub, Int.reduceToNat, reduceCtorEq, branch_decide, branch_not, branch_beq, branch_bne]
  simp only [branch]
  refine ⟨fun hr => ⟨fun _ => rfl, fun hp => ⟨fun _ => rfl, fun hl0 => ?_⟩⟩, fun _ => rfl⟩
  obtain ⟨r1, r2, r3⟩ := ready_given hr
  obtain ⟨g1, g2, g3, g4⟩ := given_0 r3
  refine sp_at (bestX_sp length l c pr cp hl hl2) [0, 1] rfl ?_ ?_ ?_
  · simp only [push_cast, ↓branch_true, ↓branch_false, Nat.reduceBEq, Nat.reduceAdd, Nat.reduceMul, Nat.reduceSub, Int.reduceToNat, reduceCtorEq, branch_decide, branch_not, branch_beq, branch_bne]
  · simp only [push_cast, ↓branch_true, ↓branch_false, Nat.reduceBEq, Nat.reduceAdd, Nat.reduceMul, Nat.reduceSub, Int.reduceToNat, reduceCtorEq, branch_decide, branch_not, branch_beq, branch_bne]
  rintro r0 H1 ⟨n1, i1, l1, c1, k1, h1, rfl, b1, _, rfl⟩
  simp only [push_cast, ↓branch_true, ↓branch_false, Nat.reduceBEq, Nat.reduceAdd, Nat.reduceMul, Nat.reduceSub, Int.reduceToNat, reduceCtorEq, branch_decide, branch_not, branch_beq, branch_bne]
  refine ⟨fun he => ?_, fun he => ?_⟩
  · obtain ⟨e1, e2, e3⟩ := bestE_0 he
    have hpl : pr.length = l.length := by have := (given_0 e1).2.2.2; omega
    obtain ⟨k, hk⟩ : ∃ k : Nat, wh.tmod l.length = k := by
      rw [Int.tmod_eq_emod_of_nonneg hw.1]
      exact Int.eq_ofNat_of_zero_le (Int.emod_nonneg _ (by omega))
    have hkl : k < l.length := by
      have := Int.emod_lt_of_pos wh (show 0 < (l.length : Int) by omega)
      rw [Int.tmod_eq_emod_of_nonneg hw.1] at hk
      omega
    rw [hk]
    repeat (with_reducible refine And.intro (by omega) ?_)
    refine sp_at (clonePc_sp l c hlc (by omega)) [0] rfl ?_ ?_ ?_
    · simp only [push_cast, ↓branch_true, ↓branch_false, Nat.reduceBEq, Nat.reduceAdd, Nat.reduceMul, Nat.reduceSub, Int.reduceToNat, reduceCtorEq, branch_decide, branch_not, branch_beq, branch_bne]
    · simp only [push_cast, ↓branch_true, ↓branch_false, Nat.reduceBEq, Nat.reduceAdd, Nat.reduceMul, Nat.reduceSub, Int.reduceToNat, reduceCtorEq, branch_decide, branch_not, branch_beq, branch_bne]
    rintro r0 H1 ⟨cc, hcc, rfl, rfl⟩
    simp only [push_cast, ↓branch_true, ↓branch_false, Nat.reduceBEq, Nat.reduceAdd, Nat.reduceMul, Nat.reduceSub, Int.reduceToNat, reduceCtorEq, branch_decide, branch_not, branch_beq, branch_bne]
    have hat := order_at g1 hkl
    repeat (with_reducible refine And.intro (by omega) ?_)
    refine sp_at (clone_sp true pr.length cp 0 (fun k => ix pr k) hpc (by omega)) [1] rfl ?_ ?_ ?_
    · simp only [push_cast, ↓branch_true, ↓branch_false, Nat.reduceBEq, Nat.reduceAdd, Nat.reduceMul, Nat.reduceSub, Int.reduceToNat, reduceCtorEq, branch_decide, branch_not, branch_beq, branch_bne]
    · simp only [push_cast, ↓branch_true, ↓branch_false, Nat.reduceBEq, Nat.reduceAdd, Nat.reduceMul, Nat.reduceSub, Int.reduceToNat, reduceCtorEq, branch_decide, branch_not, branch_beq, branch_bne]
    rintro r0 H1 ⟨cd, hcd, rfl, rfl⟩
    simp only [push_cast, ↓branch_true, ↓branch_false, Nat.reduceBEq, Nat.reduceAdd, Nat.reduceMul, Nat.reduceSub, Int.reduceToNat, reduceCtorEq, branch_decide, branch_not, branch_beq, branch_bne]
    have hprk := e2 _ (ix_mem (show k < pr.length by omega))
    have htd : (ix pr k).tdiv 2 = ix pr k / 2 := Int.tdiv_eq_ediv_of_nonneg hprk.1
    rw [htd]
    repeat (with_reducible refine And.intro (by omega) ?_)
    refine sp_call (ready_pu (min 1048576 (length + by_)) l c hl) rfl [0] rfl (by simp only [push_cast, ↓branch_true, ↓branch_false, Nat.reduceBEq, Nat.reduceAdd, Nat.reduceMul, Nat.reduceSub, Int.reduceToNat, reduceCtorEq, branch_decide, branch_not, branch_beq, branch_bne]) (by simp only [push_cast, ↓branch_true, ↓branch_false, Nat.reduceBEq, Nat.reduceAdd, Nat.reduceMul, Nat.reduceSub, Int.reduceToNat, reduceCtorEq, branch_decide, branch_not, branch_beq, branch_bne]) ?_
    simp only [push_cast, ↓branch_true, ↓branch_false, Nat.reduceBEq, Nat.reduceAdd, Nat.reduceMul, Nat.reduceSub, Int.reduceToNat, reduceCtorEq, branch_decide, branch_not, branch_beq, branch_bne]
    simp only [branch]
    refine ⟨fun hr1 => ?a1, fun hr1 => ?b1⟩
    case' a1 =>
      refine sp_at (bestX_sp (min 1048576 (length + by_)) l c pr cp hl hl2) [0, 1] rfl ?_ ?_ ?_
      · simp only [push_cast, ↓branch_true, ↓branch_false, Nat.reduceBEq, Nat.reduceAdd, Nat.reduceMul, Nat.reduceSub, Int.reduceToNat, reduceCtorEq, branch_decide, branch_not, branch_beq, branch_bne]
      · simp only [push_cast, ↓branch_true, ↓branch_false, Nat.reduceBEq, Nat.reduceAdd, Nat.reduceMul, Nat.reduceSub, Int.reduceToNat, reduceCtorEq, branch_decide, branch_not, branch_beq, branch_bne]
      rintro r0 H1 ⟨n2, i2, l2, c2, k2, h2, rfl, b2, _, rfl⟩
      simp only [push_cast, ↓branch_true, ↓branch_false, Nat.reduceBEq, Nat.reduceAdd, Nat.reduceMul, Nat.reduceSub, Int.reduceToNat, reduceCtorEq, branch_decide, branch_not, branch_beq, branch_bne]
      have q1 : bestE (min 1048576 (length + by_)) l pr = 0 := bestE_of (by rw [hpl]; exact (ready_given hr1).2.2) e2 e3
      have q2 : (bestS length l pr).2 ≤ (bestS (min 1048576 (length + by_)) l pr).2 := best_le he q1 fun q hq => ⟨⟨hq.1, hq.2.1, by have := hq.2.2; omega⟩, Int.le_refl _⟩
      refine ⟨fun _ => ⟨fun h => absurd h (by omega), fun _ => ?_⟩, fun h => absurd q1 h⟩
    case a1 =>
      refine sp_call (ready_pu length (moreL l k) cc (by rw [moreL_len]; exact hl)) rfl [3] rfl ?_ ?_ ?_
      · simp only [push_cast, ↓branch_true, ↓branch_false, Nat.reduceBEq, Nat.reduceAdd, Nat.reduceMul, Nat.reduceSub, Int.reduceToNat, reduceCtorEq, branch_decide, branch_not, branch_beq, branch_bne]
      · simp only [push_cast, ↓branch_true, ↓branch_false, Nat.reduceBEq, Nat.reduceAdd, Nat.reduceMul, Nat.reduceSub, Int.reduceToNat, reduceCtorEq, branch_decide, branch_not, branch_beq, branch_bne]
        exact more_ob
      simp only [push_cast, ↓branch_true, ↓branch_false, Nat.reduceBEq, Nat.reduceAdd, Nat.reduceMul, Nat.reduceSub, Int.reduceToNat, reduceCtorEq, branch_decide, branch_not, branch_beq, branch_bne]
      simp only [branch]
      refine ⟨fun hr2 => ?a2, fun hr2 => ?b2⟩
      case' a2 =>
        have hx := bestX_sp length (moreL l k) cc pr cp (by rw [moreL_len]; exact hl) hl2
        rw [moreL_len] at hx
        refine sp_at hx [3, 1] rfl ?_ ?_ ?_
        · simp only [push_cast, ↓branch_true, ↓branch_false, Nat.reduceBEq, Nat.reduceAdd, Nat.reduceMul, Nat.reduceSub, Int.reduceToNat, reduceCtorEq, branch_decide, branch_not, branch_beq, branch_bne]
        · simp only [push_cast, ↓branch_true, ↓branch_false, Nat.reduceBEq, Nat.reduceAdd, Nat.reduceMul, Nat.reduceSub, Int.reduceToNat, reduceCtorEq, branch_decide, branch_not, branch_beq, branch_bne]
          exact more_ob
        rintro r0 H1 ⟨n3, i3, l3, c3, k3, h3, rfl, b3, _, rfl⟩
        simp only [push_cast, ↓branch_true, ↓branch_false, Nat.reduceBEq, Nat.reduceAdd, Nat.reduceMul, Nat.reduceSub, Int.reduceToNat, reduceCtorEq, branch_decide, branch_not, branch_beq, branch_bne]
        have q1 : bestE length (moreL l k) pr = 0 := bestE_of (by rw [hpl, ← moreL_len l k]; exact (ready_given hr2).2.2) e2 (by rw [moreL_len]; exact e3)
        have q2 : (bestS length l pr).2 ≤ (bestS length (moreL l k) pr).2 := best_le he q1 fun q hq => ⟨⟨by rw [moreL_len]; exact hq.1, inB_set hq.2.1, by rw [sumL_set]; exact hq.2.2⟩, Int.le_refl _⟩
        refine ⟨fun _ => ⟨fun h => absurd h (by omega), fun _ => ?_⟩, fun h => absurd q1 h⟩
      all_goals
        obtain ⟨t1, t2⟩ := cheap_facts (k := k) e2
        have hx := bestX_sp length l c (cheapL pr k) cd hl (by rw [cheapL_len]; exact hl2)
        rw [cheapL_len] at hx
        refine sp_at hx [0, 4] rfl ?_ ?_ ?_
        · simp only [push_cast, ↓branch_true, ↓branch_false, Nat.reduceBEq, Nat.reduceAdd, Nat.reduceMul, Nat.reduceSub, Int.reduceToNat, reduceCtorEq, branch_decide, branch_not, branch_beq, branch_bne]
        · simp only [push_cast, ↓branch_true, ↓branch_false, Nat.reduceBEq, Nat.reduceAdd, Nat.reduceMul, Nat.reduceSub, Int.reduceToNat, reduceCtorEq, branch_decide, branch_not, branch_beq, branch_bne]
          exact cheap_ob
        rintro r0 H1 ⟨n4, i4, l4, c4, k4, h4, rfl, b4, _, rfl⟩
        simp only [push_cast, ↓branch_true, ↓branch_false, Nat.reduceBEq, Nat.reduceAdd, Nat.reduceMul, Nat.reduceSub, Int.reduceToNat, reduceCtorEq, branch_decide, branch_not, branch_beq, branch_bne]
        have z1 : bestE length l (cheapL pr k) = 0 := bestE_of (by rw [cheapL_len]; exact e1) t1 e3
        have z2 := best_le z1 he fun q hq => ⟨hq, priceL_le (fun x hx => (inB_vals g1 hq.2.1 hq.1 x hx).1) (cheapL_len pr k) fun j hj => t2 j (by rwa [cheapL_len] at hj)⟩
        refine ⟨fun _ => ?_, fun h => absurd z1 h⟩
        rw [decide_eq_true z2]
        exact rfl
    case b1 =>
      refine sp_call (ready_pu length (moreL l k) cc (by rw [moreL_len]; exact hl)) rfl [3] rfl ?_ ?_ ?_
      · simp only [push_cast, ↓branch_true, ↓branch_false, Nat.reduceBEq, Nat.reduceAdd, Nat.reduceMul, Nat.reduceSub, Int.reduceToNat, reduceCtorEq, branch_decide, branch_not, branch_beq, branch_bne]
      · simp only [push_cast, ↓branch_true, ↓branch_false, Nat.reduceBEq, Nat.reduceAdd, Nat.reduceMul, Nat.reduceSub, Int.reduceToNat, reduceCtorEq, branch_decide, branch_not, branch_beq, branch_bne]
        exact more_ob
      simp only [push_cast, ↓branch_true, ↓branch_false, Nat.reduceBEq, Nat.reduceAdd, Nat.reduceMul, Nat.reduceSub, Int.reduceToNat, reduceCtorEq, branch_decide, branch_not, branch_beq, branch_bne]
      simp only [branch]
      refine ⟨fun hr2 => ?a3, fun hr2 => ?b3⟩
      case' a3 =>
        have hx := bestX_sp length (moreL l k) cc pr cp (by rw [moreL_len]; exact hl) hl2
        rw [moreL_len] at hx
        refine sp_at hx [3, 1] rfl ?_ ?_ ?_
        · simp only [push_cast, ↓branch_true, ↓branch_false, Nat.reduceBEq, Nat.reduceAdd, Nat.reduceMul, Nat.reduceSub, Int.reduceToNat, reduceCtorEq, branch_decide, branch_not, branch_beq, branch_bne]
        · simp only [push_cast, ↓branch_true, ↓branch_false, Nat.reduceBEq, Nat.reduceAdd, Nat.reduceMul, Nat.reduceSub, Int.reduceToNat, reduceCtorEq, branch_decide, branch_not, branch_beq, branch_bne]
          exact more_ob
        rintro r0 H1 ⟨n3, i3, l3, c3, k3, h3, rfl, b3, _, rfl⟩
        simp only [push_cast, ↓branch_true, ↓branch_false, Nat.reduceBEq, Nat.reduceAdd, Nat.reduceMul, Nat.reduceSub, Int.reduceToNat, reduceCtorEq, branch_decide, branch_not, branch_beq, branch_bne]
        have q1 : bestE length (moreL l k) pr = 0 := bestE_of (by rw [hpl, ← moreL_len l k]; exact (ready_given hr2).2.2) e2 (by rw [moreL_len]; exact e3)
        have q2 : (bestS length l pr).2 ≤ (bestS length (moreL l k) pr).2 := best_le he q1 fun q hq => ⟨⟨by rw [moreL_len]; exact hq.1, inB_set hq.2.1, by rw [sumL_set]; exact hq.2.2⟩, Int.le_refl _⟩
        refine ⟨fun _ => ⟨fun h => absurd h (by omega), fun _ => ?_⟩, fun h => absurd q1 h⟩
      all_goals
        obtain ⟨t1, t2⟩ := cheap_facts (k := k) e2
        have hx := bestX_sp length l c (cheapL pr k) cd hl (by rw [cheapL_len]; exact hl2)
        rw [cheapL_len] at hx
        refine sp_at hx [0, 4] rfl ?_ ?_ ?_
        · simp only [push_cast, ↓branch_true, ↓branch_false, Nat.reduceBEq, Nat.reduceAdd, Nat.reduceMul, Nat.reduceSub, Int.reduceToNat, reduceCtorEq, branch_decide, branch_not, branch_beq, branch_bne]
        · simp only [push_cast, ↓branch_true, ↓branch_false, Nat.reduceBEq, Nat.reduceAdd, Nat.reduceMul, Nat.reduceSub, Int.reduceToNat, reduceCtorEq, branch_decide, branch_not, branch_beq, branch_bne]
          exact cheap_ob
        rintro r0 H1 ⟨n4, i4, l4, c4, k4, h4, rfl, b4, _, rfl⟩
        simp only [push_cast, ↓branch_true, ↓branch_false, Nat.reduceBEq, Nat.reduceAdd, Nat.reduceMul, Nat.reduceSub, Int.reduceToNat, reduceCtorEq, branch_decide, branch_not, branch_beq, branch_bne]
        have z1 : bestE length l (cheapL pr k) = 0 := bestE_of (by rw [cheapL_len]; exact e1) t1 e3
        have z2 := best_le z1 he fun q hq => ⟨hq, priceL_le (fun x hx => (inB_vals g1 hq.2.1 hq.1 x hx).1) (cheapL_len pr k) fun j hj => t2 j (by rwa [cheapL_len] at hj)⟩
        refine ⟨fun _ => ?_, fun h => absurd z1 h⟩
        rw [decide_eq_true z2]
        exact rfl
  · have e2 : bestS length l pr = ([], 0) := by unfold bestS; rw [if_neg he]
    rw [e2]
    exact rfl
end Go.Proofs.Ythnpnoclhmneoaa
