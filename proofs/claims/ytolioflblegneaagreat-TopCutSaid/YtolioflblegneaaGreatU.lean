/- Plain facts: the greedy plan yields just what is ordered. Contracts: Same, and the guards of the laws. -/
import Derived.Test.YtolioflblegneaaGreatVA
import Derived.Test.YtolioflblegneaaGreatI
import Derived.Test.YtolioflblegneaaGreatM
set_option maxRecDepth 100000
set_option linter.unusedSimpArgs false
set_option linter.unusedVariables false
namespace Go.Proofs.YtolioflblegneaaGreat
open Go.RowKit
structure GB (s l : List Pc) (x : List Int) (st : GSt) : Prop where
  bar : ∀ b ∈ st.1, BarOk s l b ∧ (ix s b.kind.toNat).cnt ≠ 0
  sum : ∀ i : Nat, i < l.length → (st.1.map fun b => ix b.ps i).sum + x.count (i : Int) = (ix l i).cnt
  ulen : st.2.length = s.length
  use : ∀ j : Nat, j < s.length → ix st.2 j = (st.1.map fun b => if b.kind = (j : Int) then (1 : Int) else 0).sum ∧ ((ix s j).cnt < 0 ∨ ix st.2 j ≤ (ix s j).cnt)
  pair : ∀ i j, i < j → j < st.1.length → (ix st.1 i).left < (ix s (ix st.1 j).kind.toNat).len - (ix st.1 j).left
theorem gb_step {s l : List Pc} (hs : stB s = true) (ho : orderB l = true) {i : Int} {x : List Int} {st st' : GSt} (h : GB s l (i :: x) st) (hi : 0 ≤ i ∧ i < l.length) (he : gst s l i st = some st') : GB s l x st' := by
  have hp := order_at ho (k := i.toNat) (by omega)
  have hsum : ∀ j : Nat, j < l.length → (st.1.map fun b => ix b.ps j).sum + x.count (j : Int) + (if (j : Int) = i then 1 else 0) = (ix l j).cnt := fun j hj => by
    have h1 := h.sum j hj
    have h2 := cnt_cons i x j
    omega
  unfold gst at he
  simp only at he
  split at he
  · rename_i hf
    simp only [Option.some.injEq] at he
    subst he
    have hm := ix_mem hf
    have hfit := fitAt_fits hf
    obtain ⟨b1, b2⟩ := h.bar _ hm
    refine ⟨fun b hb => ?_, fun j hj => ?_, h.ulen, fun j hj => ?_, fun p q hpq hq => ?_⟩
    · rcases List.mem_or_eq_of_mem_set hb with hb | rfl
      · exact h.bar b hb
      · exact ⟨barOk_cut b1 hi hfit, b2⟩
    · have := hsum j hj
      simp only
      rw [sum_cut hf hi b1.ps j]
      omega
    · have h1 := h.use j hj
      simp only
      rw [sum_set _ hf]
      simp only [cutBr]
      exact ⟨by rw [h1.1]; omega, h1.2⟩
    · simp only at hq ⊢
      have hq2 : q < st.1.length := by simpa using hq
      have h1 := h.pair p q hpq hq2
      generalize hff : fitAt (ix l i.toNat).len st.1 = f at *
      by_cases e1 : p = f
      · by_cases e2 : q = f
        · omega
        · rw [ix_set_ne e2, e1, ix_set_self hf]
          rw [e1] at h1
          simp only [cutBr]
          omega
      · rw [ix_set_ne e1]
        by_cases e2 : q = f
        · rw [e2, ix_set_self hf]
          rw [e2] at h1
          simp only [cutBr]
          omega
        · rw [ix_set_ne e2]; exact h1
  · rename_i hf
    split at he
    · cases he
    · rename_i hk
      simp only [Option.some.injEq] at he
      subst he
      have hr := kindT_range s st.2 (ix l i.toNat).len s.length
      have hr3 := hr.2.2 (by omega)
      have hfl := fitAt_le (ix l i.toNat).len st.1
      have hno : ∀ p, p < st.1.length → ¬ (ix l i.toNat).len ≤ (ix st.1 p).left := fun p hp2 => fitAt_no (by omega) hp2
      generalize kindT s st.2 (ix l i.toNat).len s.length = kd at *
      have hst := st_len hs (k := kd.toNat) (by omega)
      have hu := h.use kd.toNat (by omega)
      have hnew := barOk_cut (barOk_new (l := l) (s := s) (k := kd) (by omega) (by omega) (by omega)) hi hr3.1
      have hun : 0 ≤ (st.1.map fun b => if b.kind = ((kd.toNat : Nat) : Int) then (1 : Int) else 0).sum := sum_nn fun b _ => by split <;> omega
      refine ⟨fun b hb => ?_, fun j hj => ?_, by simp only [List.length_set]; exact h.ulen, fun j hj => ?_, fun p q hpq hq => ?_⟩
      · rcases List.mem_append.1 hb with hb | hb
        · exact h.bar b hb
        · simp only [List.mem_singleton] at hb
          subst hb
          refine ⟨hnew, ?_⟩
          show (ix s kd.toNat).cnt ≠ 0
          omega
      · have := hsum j hj
        simp only
        rw [sum_new hi j]
        omega
      · have h1 := h.use j hj
        simp only
        rw [List.map_append, List.sum_append, List.map_cons, List.map_nil, List.sum_cons, List.sum_nil]
        have e0 : (if (cutBr i (ix l i.toNat).len ⟨kd, (ix s kd.toNat).len, zeros l.length⟩).kind = (j : Int) then (1 : Int) else 0) = if kd = (j : Int) then 1 else 0 := rfl
        rw [e0]
        have hul := h.ulen
        by_cases e : j = kd.toNat
        · subst e
          rw [ix_set_self (by omega), if_pos (by omega)]
          exact ⟨by rw [h1.1]; omega, by omega⟩
        · rw [ix_set_ne e, if_neg (by omega)]
          exact ⟨by rw [h1.1]; omega, h1.2⟩
      · simp only [List.length_append, List.length_cons, List.length_nil] at hq ⊢
        by_cases e : q = st.1.length
        · rw [e, ix_app_last, ix_app_ne (by omega)]
          have := hno p (by omega)
          simp only [cutBr]
          omega
        · rw [ix_app_ne e, ix_app_ne (by omega)]
          exact h.pair p q hpq (by omega)
theorem gb_fold {s l : List Pc} (hs : stB s = true) (ho : orderB l = true) : ∀ {x : List Int} {st st' : GSt}, (∀ i ∈ x, 0 ≤ i ∧ i < l.length) → GB s l x st → gfold s l x st = some st' → GB s l [] st'
  | [], st, st', _, h, he => by
    simp only [gfold, Option.some.injEq] at he
    subst he
    exact h
  | i :: x, st, st', hx, h, he => by
    simp only [gfold] at he
    obtain ⟨st1, h1, h2⟩ := Option.bind_eq_some_iff.1 he
    exact gb_fold hs ho (fun j hj => hx j (List.mem_cons_of_mem _ hj)) (gb_step hs ho h (hx i List.mem_cons_self) h1) h2
theorem gb_all {s l : List Pc} (hs : stB s = true) (ho : orderB l = true) {st : GSt} (h : gA s l = some st) : GB s l [] st := by
  refine gb_fold hs ho (fun i hi => longL_mem hi) ⟨fun b hb => by simp [g0] at hb, fun i hi => ?_, zeros_len _, fun j hj => ?_, fun i j hij hj => by simp [g0] at hj⟩ h
  · rw [long_count hi]
    have := order_at ho hi
    simp [g0]
    omega
  · have := st_len hs hj
    simp only [g0, zeros_ix]
    simp
    omega
theorem gb_bars {s l : List Pc} {st : GSt} (h : GB s l [] st) (hl : st.1.length ≤ 1000) : Bars s l st.1 := by
  refine ⟨hl, fun b hb => ?_, fun i hi => ?_, fun j hj => ?_⟩
  · obtain ⟨hb, _⟩ := h.bar b hb
    have := hb.left
    have := hb.l0
    exact ⟨hb.k0, hb.k1, hb.ps, hb.nn, by omega⟩
  · have := h.sum i hi
    simpa using this
  · have := h.use j hj
    rw [this.1] at this
    exact this.2
theorem gb_len {s l : List Pc} (hs : stB s = true) (ho : orderB l = true) {st : GSt} (h : gA s l = some st) (hc : cntL l ≤ 1000) : st.1.length ≤ 1000 := by
  have hk := gT_ok hs ho (longL l).length (Nat.le_refl _) st (by rw [gT_all]; exact h)
  have hll := long_len ho
  have := hk.olen
  omega
/-- The sums over all bars. -/
theorem dot_sum {l : List Pc} : ∀ (o : List Br), (∀ b ∈ o, b.ps.length = l.length) → (o.map fun b => dotL l b.ps).sum = dotL l ((List.range l.length).map fun i => (o.map fun b => ix b.ps i).sum) := by
  have hz : ∀ (l : List Pc), dotL l ((List.range l.length).map fun _ => (0 : Int)) = 0 := fun l => by
    have e : ((List.range l.length).map fun _ => (0 : Int)) = zeros l.length := by
      rw [List.map_const']; simp [zeros]
    rw [e, dot_zeros]
  have hadd : ∀ (l : List Pc) (f g : Nat → Int) (a : Nat), dotL l ((List.range' a l.length).map fun i => f i + g i) = dotL l ((List.range' a l.length).map f) + dotL l ((List.range' a l.length).map g) := by
    intro l
    induction l with
    | nil => intro f g a; rfl
    | cons p l ih =>
      intro f g a
      simp only [List.length_cons, List.range'_succ, List.map_cons, dotL]
      rw [ih, Int.add_mul]
      omega
  have hself : ∀ (l : List Pc) (ns : List Int) (a : Nat) (pre : List Int), ns.length = l.length → pre.length = a → dotL l ((List.range' a l.length).map fun i => ix (pre ++ ns) i) = dotL l ns := by
    intro l
    induction l with
    | nil => intro ns a pre h _; rfl
    | cons p l ih =>
      intro ns a pre h h2
      match ns, h with
      | n :: ns, h =>
        simp only [List.length_cons, List.range'_succ, List.map_cons, dotL]
        have e : ix (pre ++ n :: ns) a = n := by
          subst h2
          rw [ix_eq (by simp)]; simp
        have e2 := ih ns (a + 1) (pre ++ [n]) (by simpa using h) (by simp [h2])
        rw [e]
        rw [List.append_assoc] at e2
        rw [show pre ++ n :: ns = pre ++ ([n] ++ ns) from rfl, e2]
  intro o ho
  induction o with
  | nil =>
    simp only [List.map_nil, List.sum_nil]
    exact (hz l).symm
  | cons b o ih =>
    simp only [List.map_cons, List.sum_cons]
    rw [ih fun c hc => ho c (List.mem_cons_of_mem _ hc)]
    have h1 := hadd l (fun i => ix b.ps i) (fun i => (o.map fun b => ix b.ps i).sum) 0
    have h2 := hself l b.ps 0 [] (ho b List.mem_cons_self) rfl
    rw [List.range_eq_range']
    rw [h1]
    simp only [List.nil_append] at h2
    rw [h2]
theorem dot_tot {l : List Pc} : dotL l ((List.range l.length).map fun i => (ix l i).cnt) = totL l := by
  have key : ∀ (l2 : List Pc) (a : Nat) (pre : List Pc), pre.length = a → dotL l2 ((List.range' a l2.length).map fun i => (ix (pre ++ l2) i).cnt) = (l2.map fun p => p.len * p.cnt).sum := by
    intro l2
    induction l2 with
    | nil => intro a pre _; rfl
    | cons p l2 ih =>
      intro a pre h
      simp only [List.length_cons, List.range'_succ, List.map_cons, dotL, List.sum_cons]
      have e : ix (pre ++ p :: l2) a = p := by
        subst h
        rw [ix_eq (by simp)]; simp
      have e2 := ih (a + 1) (pre ++ [p]) (by simp [h])
      rw [List.append_assoc] at e2
      rw [e, show pre ++ p :: l2 = pre ++ ([p] ++ l2) from rfl, e2, Int.mul_comm]
  have := key l 0 [] rfl
  rw [List.range_eq_range']
  unfold totL totT
  rw [List.take_length]
  exact this
theorem dot_nn : ∀ {l : List Pc} {ns : List Int}, (∀ p ∈ l, 1 ≤ p.len) → (∀ j, j < l.length → 0 ≤ ix ns j) → ns.length = l.length → 0 ≤ dotL l ns
  | [], ns, _, _, _ => by simp [dotL]
  | p :: l, n :: ns, hl, hn, h => by
    have h1 := dot_nn (l := l) (ns := ns) (fun q hq => hl q (List.mem_cons_of_mem _ hq)) (fun j hj => hn (j + 1) (by simpa using hj)) (by simpa using h)
    have h2 := hl p List.mem_cons_self
    have h3 : 0 ≤ n := hn 0 (by simp)
    have h4 := Int.mul_nonneg h3 (show 0 ≤ p.len by omega)
    simp only [dotL]
    omega
/-- Each piece comes from a length that is long enough, of a kind that there is. -/
theorem gb_fits {s l : List Pc} (ho : orderB l = true) {st : GSt} (h : GB s l [] st) {i : Nat} (hi : i < l.length) : ∃ k, k < s.length ∧ (ix s k).cnt ≠ 0 ∧ (ix l i).len ≤ (ix s k).len := by
  have hs := h.sum i hi
  have hat := order_at ho hi
  simp at hs
  have : ∃ b ∈ st.1, 0 < ix b.ps i := by
    refine Classical.byContradiction fun hn => ?_
    have h0 : ∀ b ∈ st.1, ix b.ps i = 0 := fun b hb => by
      have := (h.bar b hb).1.nn i hi
      have : ¬ 0 < ix b.ps i := fun h => hn ⟨b, hb, h⟩
      omega
    have : (st.1.map fun b => ix b.ps i).sum = (st.1.map fun _ => (0 : Int)).sum := by
      congr 1
      exact List.map_congr_left h0
    have hz : (st.1.map fun _ => (0 : Int)).sum = 0 := by
      induction st.1 with
      | nil => rfl
      | cons b o ih => simp [ih]
    omega
  obtain ⟨b, hb, hpos⟩ := this
  obtain ⟨hok, hcnt⟩ := h.bar b hb
  refine ⟨b.kind.toNat, by have := hok.k0; have := hok.k1; omega, hcnt, ?_⟩
  have hdot : ∀ (l : List Pc) (ns : List Int) (i : Nat), (∀ p ∈ l, 1 ≤ p.len) → i < l.length → ns.length = l.length → (∀ j, j < l.length → 0 ≤ ix ns j) → 0 < ix ns i → (ix l i).len ≤ dotL l ns := by
    intro l
    induction l with
    | nil => intro ns i _ hi _ _ _; simp at hi
    | cons p l ih =>
      intro ns i hl hi hn hnn hp
      match ns, hn with
      | n :: ns, hn =>
        have hnns : ∀ j, j < l.length → 0 ≤ ix ns j := fun j hj => hnn (j + 1) (by simpa using hj)
        have hpl := hl p List.mem_cons_self
        have hn0 : 0 ≤ n := hnn 0 (by simp)
        have hls : ∀ q ∈ l, 1 ≤ q.len := fun q hq => hl q (List.mem_cons_of_mem _ hq)
        have hrest := dot_nn hls hnns (by simpa using hn)
        have h3 := Int.mul_nonneg hn0 (show 0 ≤ p.len by omega)
        simp only [dotL]
        cases i with
        | zero =>
          have hn1 : 0 < n := hp
          have : 1 * p.len ≤ n * p.len := Int.mul_le_mul_of_nonneg_right hn1 (by omega)
          have e : ix (p :: l) 0 = p := rfl
          rw [e]
          omega
        | succ i =>
          have := ih ns i hls (by simpa using hi) (by simpa using hn) hnns hp
          have e : ix (p :: l) (i + 1) = ix l i := rfl
          rw [e]
          omega
  have := hdot l b.ps i (order_all ho) hi hok.ps hok.nn hpos
  have := hok.left
  have := hok.l0
  omega
/-- Where some kind that there is any number of is long enough for all, there is no gap. -/
theorem kind_some {s : List Pc} {u : List Int} {n : Int} {k : Nat} (hk : k < s.length) (hc : (ix s k).cnt < 0) (hl : n ≤ (ix s k).len) : 0 ≤ kindT s u n s.length := by
  have key : ∀ j, k < j → j ≤ s.length → 0 ≤ kindT s u n j := by
    intro j
    induction j with
    | zero => intro h; omega
    | succ j ih =>
      intro h1 h2
      have hr := kindT_range s u n j
      unfold kindT
      split
      · omega
      · rename_i hn
        by_cases e : j = k
        · subst e
          refine Int.not_lt.1 fun h3 => hn ⟨hl, .inl hc, .inl h3⟩
        · exact ih (by omega) (by omega)
  exact key s.length hk (Nat.le_refl _)
theorem no_gap {s l : List Pc} {k : Nat} (hk : k < s.length) (hc : (ix s k).cnt < 0) (hl : ∀ i, i < l.length → (ix l i).len ≤ (ix s k).len) : gA s l ≠ none := by
  have key : ∀ (x : List Int) (st : GSt), (∀ i ∈ x, 0 ≤ i ∧ i < l.length) → gfold s l x st ≠ none := by
    intro x
    induction x with
    | nil => intro st _ h; cases h
    | cons i x ih =>
      intro st hx h
      simp only [gfold] at h
      have hi := hx i List.mem_cons_self
      cases hg : gst s l i st with
      | none =>
        unfold gst at hg
        simp only at hg
        split at hg
        · cases hg
        · split at hg
          · rename_i h2
            have := kind_some (u := st.2) (n := (ix l i.toNat).len) hk hc (hl _ (by omega))
            omega
          · cases hg
      | some st1 =>
        rw [hg] at h
        exact ih st1 (fun j hj => hx j (List.mem_cons_of_mem _ hj)) h
  exact key (longL l) (g0 s) fun i hi => longL_mem hi
end Go.Proofs.YtolioflblegneaaGreat
namespace Go.Proofs.YtolioflblegneaaGreat
open Go.RowKit
def lotS (n : Int) : List Pc := [⟨n, -1⟩]
end Go.Proofs.YtolioflblegneaaGreat
