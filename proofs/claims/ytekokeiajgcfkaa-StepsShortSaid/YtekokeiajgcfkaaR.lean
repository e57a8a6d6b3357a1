/- Plain facts: breaks, values, short steps. -/
import Derived.Test.YtekokeiajgcfkaaQ
set_option maxRecDepth 100000
set_option linter.unusedSimpArgs false
set_option linter.unusedVariables false
namespace Go.Proofs.Ytekokeiajgcfkaa
/-- Ascending. -/
def AscP : List Stp → Prop
  | [] => True
  | p :: l => (∀ q ∈ l, p.x < q.x) ∧ AscP l
def AscI : List Int → Prop
  | [] => True
  | y :: l => (∀ z ∈ l, y < z) ∧ AscI l
theorem ascP_of : ∀ {l : List Stp}, AscS l → AscP l
  | [], _ => trivial
  | _ :: _, h => ⟨(asc_tail h).2, ascP_of (asc_tail h).1⟩
theorem ix_cons {α : Type} [Inhabited α] {p : α} {l : List α} {k : Nat} (h : k < l.length) : ix (p :: l) (k + 1) = ix l k := by rw [ix_eq (by simpa using h), ix_eq h, List.getElem_cons_succ]
theorem ix_zero {α : Type} [Inhabited α] {p : α} {l : List α} : ix (p :: l) 0 = p := by rw [ix_eq (by simp)]; rfl
theorem ascS_of : ∀ {l : List Stp}, AscP l → AscS l
  | [], _ => fun j k _ hk => by simp at hk
  | p :: l, h => fun j k hjk hk => by
    cases k with
    | zero => omega
    | succ k =>
      have hk : k < l.length := by simpa using hk
      rw [ix_cons hk]
      cases j with
      | zero => rw [ix_zero]; exact h.1 _ (ix_mem hk)
      | succ j => rw [ix_cons (by omega)]; exact ascS_of h.2 j k (by omega) hk
/- the breaks -/
theorem nxt_comm : ∀ (a b : List Stp), nxt a b = nxt b a
  | [], [] => rfl
  | [], _ :: _ => rfl
  | _ :: _, [] => rfl
  | p :: _, q :: _ => by simp only [nxt]; omega
theorem brkF_comm : ∀ (n : Nat) (a b : List Stp), brkF n a b = brkF n b a
  | 0, _, _ => rfl
  | n + 1, a, b => by
    rw [brkF, brkF, nxt_comm a b, brkF_comm n]
    by_cases h : a.length = 0 ∧ b.length = 0
    · rw [if_pos h, if_pos ⟨h.2, h.1⟩]
    · rw [if_neg h, if_neg fun h' => h ⟨h'.2, h'.1⟩]
theorem brk_comm (a b : List Stp) : brk a b = brk b a := by rw [brk, brk, Nat.add_comm, brkF_comm]
theorem drp_mem {x : Int} : ∀ {l : List Stp} {q : Stp}, q ∈ drp x l → q ∈ l
  | [], _, h => h
  | p :: l, q, h => by
    rw [drp] at h
    split at h
    · exact List.mem_cons_of_mem _ h
    · exact h
theorem drp_asc {x : Int} : ∀ {l : List Stp}, AscP l → AscP (drp x l)
  | [], _ => trivial
  | p :: l, h => by
    rw [drp]
    split
    · exact h.2
    · exact h
theorem nxt_le {a b : List Stp} (ha : AscP a) (hb : AscP b) : (∀ q ∈ a, nxt a b ≤ q.x) ∧ ∀ q ∈ b, nxt a b ≤ q.x := by
  have hd : ∀ {p : Stp} {l : List Stp}, AscP (p :: l) → ∀ q ∈ p :: l, p.x ≤ q.x := fun h q hq => by
    rcases List.mem_cons.1 hq with rfl | hq
    · exact Int.le_refl _
    · have := h.1 q hq; omega
  match a, b with
  | [], [] => exact ⟨fun q hq => by simp at hq, fun q hq => by simp at hq⟩
  | [], p :: l => exact ⟨fun q hq => by simp at hq, fun q hq => hd hb q hq⟩
  | p :: l, [] => exact ⟨fun q hq => hd ha q hq, fun q hq => by simp at hq⟩
  | p :: l, p' :: l' =>
    refine ⟨fun q hq => ?_, fun q hq => ?_⟩
    · have := hd ha q hq
      simp only [nxt]; omega
    · have := hd hb q hq
      simp only [nxt]; omega
theorem drp_lt {x : Int} {l : List Stp} (h : AscP l) (hx : ∀ q ∈ l, x ≤ q.x) : ∀ q ∈ drp x l, x < q.x := by
  match l with
  | [] => exact fun q hq => by simp [drp] at hq
  | p :: l =>
    intro q hq
    rw [drp] at hq
    split at hq
    · rename_i e
      have := h.1 q hq
      omega
    · rename_i e
      have hp := hx p List.mem_cons_self
      rcases List.mem_cons.1 hq with rfl | hq
      · omega
      · have := h.1 q hq
        omega
theorem brkF_lt : ∀ (n : Nat) {a b : List Stp} {z : Int}, (∀ q ∈ a, z < q.x) → (∀ q ∈ b, z < q.x) → ∀ y ∈ brkF n a b, z < y
  | 0, _, _, _, _, _, y, hy => by simp [brkF] at hy
  | n + 1, a, b, z, ha, hb, y, hy => by
    rw [brkF] at hy
    split at hy
    · simp at hy
    · rename_i hne
      rcases List.mem_cons.1 hy with rfl | hy
      · match a, b with
        | [], [] => simp at hne
        | [], q :: _ => exact hb q List.mem_cons_self
        | p :: _, [] => exact ha p List.mem_cons_self
        | p :: _, q :: _ =>
          have h1 := ha p List.mem_cons_self
          have h2 := hb q List.mem_cons_self
          simp only [nxt]; omega
      · exact brkF_lt n (fun q hq => ha q (drp_mem hq)) (fun q hq => hb q (drp_mem hq)) y hy
theorem brkF_asc : ∀ (n : Nat) {a b : List Stp}, AscP a → AscP b → AscI (brkF n a b)
  | 0, _, _, _, _ => trivial
  | n + 1, a, b, ha, hb => by
    rw [brkF]
    split
    · exact trivial
    · obtain ⟨h1, h2⟩ := nxt_le ha hb
      exact ⟨brkF_lt n (drp_lt ha h1) (drp_lt hb h2), brkF_asc n (drp_asc ha) (drp_asc hb)⟩
theorem drp_len (x : Int) : ∀ (l : List Stp), (drp x l).length ≤ l.length
  | [] => Nat.le_refl _
  | p :: l => by
    rw [drp]
    split
    · simp
    · exact Nat.le_refl _
theorem drp_or {x : Int} : ∀ {l : List Stp} {q : Stp}, q ∈ l → q.x = x ∨ q ∈ drp x l
  | p :: l, q, h => by
    rw [drp]
    split
    · rename_i e
      rcases List.mem_cons.1 h with rfl | h
      · exact .inl e
      · exact .inr h
    · exact .inr h
theorem nxt_drop {a b : List Stp} (h : ¬ (a.length = 0 ∧ b.length = 0)) : (drp (nxt a b) a).length + (drp (nxt a b) b).length < a.length + b.length := by
  match a, b with
  | [], [] => simp at h
  | [], q :: l => simp [nxt, drp]
  | p :: l, [] => simp [nxt, drp]
  | p :: l, q :: m =>
    have h1 := drp_len (nxt (p :: l) (q :: m)) (p :: l)
    have h2 := drp_len (nxt (p :: l) (q :: m)) (q :: m)
    by_cases e : p.x ≤ q.x
    · have hn : nxt (p :: l) (q :: m) = p.x := by simp only [nxt]; omega
      rw [hn] at h2 ⊢
      rw [show drp p.x (p :: l) = l by rw [drp, if_pos rfl]]
      simp only [List.length_cons] at h2 ⊢
      omega
    · have hn : nxt (p :: l) (q :: m) = q.x := by simp only [nxt]; omega
      rw [hn] at h1 ⊢
      rw [show drp q.x (q :: m) = m by rw [drp, if_pos rfl]]
      simp only [List.length_cons] at h1 ⊢
      omega
theorem brkF_all : ∀ (n : Nat) {a b : List Stp}, a.length + b.length ≤ n → (∀ q ∈ a, q.x ∈ brkF n a b) ∧ ∀ q ∈ b, q.x ∈ brkF n a b
  | 0, a, b, h => by
    have ha : a = [] := List.length_eq_zero_iff.1 (by omega)
    have hb : b = [] := List.length_eq_zero_iff.1 (by omega)
    subst ha hb
    exact ⟨fun q hq => by simp at hq, fun q hq => by simp at hq⟩
  | n + 1, a, b, h => by
    rw [brkF]
    split
    · rename_i he
      have ha : a = [] := List.length_eq_zero_iff.1 he.1
      have hb : b = [] := List.length_eq_zero_iff.1 he.2
      subst ha hb
      exact ⟨fun q hq => by simp at hq, fun q hq => by simp at hq⟩
    · rename_i he
      have hd := nxt_drop he
      obtain ⟨i1, i2⟩ := brkF_all n (a := drp (nxt a b) a) (b := drp (nxt a b) b) (by omega)
      refine ⟨fun q hq => ?_, fun q hq => ?_⟩
      · rcases drp_or (x := nxt a b) hq with e | hq
        · rw [e]; exact List.mem_cons_self
        · exact List.mem_cons_of_mem _ (i1 q hq)
      · rcases drp_or (x := nxt a b) hq with e | hq
        · rw [e]; exact List.mem_cons_self
        · exact List.mem_cons_of_mem _ (i2 q hq)
theorem brkF_from : ∀ (n : Nat) {a b : List Stp} {y : Int}, y ∈ brkF n a b → (∃ q ∈ a, q.x = y) ∨ ∃ q ∈ b, q.x = y
  | 0, _, _, y, h => by simp [brkF] at h
  | n + 1, a, b, y, h => by
    rw [brkF] at h
    split at h
    · simp at h
    · rename_i hne
      rcases List.mem_cons.1 h with rfl | h
      · match a, b with
        | [], [] => simp at hne
        | [], q :: _ => exact .inr ⟨q, List.mem_cons_self, rfl⟩
        | p :: _, [] => exact .inl ⟨p, List.mem_cons_self, rfl⟩
        | p :: _, q :: _ =>
          by_cases e : p.x ≤ q.x
          · exact .inl ⟨p, List.mem_cons_self, by simp only [nxt]; omega⟩
          · exact .inr ⟨q, List.mem_cons_self, by simp only [nxt]; omega⟩
      · rcases brkF_from n h with ⟨q, hq, e⟩ | ⟨q, hq, e⟩
        · exact .inl ⟨q, drp_mem hq, e⟩
        · exact .inr ⟨q, drp_mem hq, e⟩
theorem brk_asc {a b : List Stp} (ha : AscP a) (hb : AscP b) : AscI (brk a b) := brkF_asc _ ha hb
theorem brk_all (a b : List Stp) : (∀ q ∈ a, q.x ∈ brk a b) ∧ ∀ q ∈ b, q.x ∈ brk a b := brkF_all _ (Nat.le_refl _)
theorem brk_from {a b : List Stp} {y : Int} (h : y ∈ brk a b) : (∃ q ∈ a, q.x = y) ∨ ∃ q ∈ b, q.x = y := brkF_from _ h
/- values -/
theorem atF_same {x y : Int} : ∀ {l : List Stp} (n : Int), (∀ q ∈ l, (q.x ≤ x ↔ q.x ≤ y)) → atF x n l = atF y n l
  | [], _, _ => rfl
  | p :: l, n, h => by
    have hp := h p List.mem_cons_self
    rw [atF, atF]
    by_cases e : p.x ≤ x
    · rw [if_pos e, if_pos (hp.1 e)]
      exact atF_same _ fun q hq => h q (List.mem_cons_of_mem _ hq)
    · rw [if_neg e, if_neg fun h' => e (hp.2 h')]
      exact atF_same _ fun q hq => h q (List.mem_cons_of_mem _ hq)
theorem atF_none {x : Int} : ∀ {l : List Stp} (n : Int), (∀ q ∈ l, x < q.x) → atF x n l = n := fun n h => (cntLe_none h).2 n
/-- Values at ascending places. -/
theorem atF_map {x : Int} (h : Int → Int) : ∀ {L : List Int} (n : Int), AscI L → ((∀ y ∈ L, x < y) ∧ atF x n (L.map fun y => ⟨y, h y⟩) = n) ∨ ∃ y ∈ L, y ≤ x ∧ (∀ z ∈ L, z ≤ x → z ≤ y) ∧ atF x n (L.map fun y => ⟨y, h y⟩) = h y
  | [], n, _ => .inl ⟨fun y hy => by simp at hy, rfl⟩
  | y :: L, n, ha => by
    simp only [List.map_cons, atF]
    by_cases e : y ≤ x
    · rw [if_pos e]
      rcases atF_map h (h y) ha.2 with ⟨h1, h2⟩ | ⟨z, hz, h1, h2, h3⟩
      · refine .inr ⟨y, List.mem_cons_self, e, fun z hz hzx => ?_, h2⟩
        rcases List.mem_cons.1 hz with rfl | hz
        · exact Int.le_refl _
        · have := h1 z hz; omega
      · refine .inr ⟨z, List.mem_cons_of_mem _ hz, h1, fun w hw hwx => ?_, h3⟩
        rcases List.mem_cons.1 hw with rfl | hw
        · have := ha.1 z hz; omega
        · exact h2 w hw hwx
    · rw [if_neg e]
      refine .inl ⟨fun z hz => ?_, ?_⟩
      · rcases List.mem_cons.1 hz with rfl | hz
        · omega
        · have := ha.1 z hz; omega
      · refine atF_none n fun q hq => ?_
        obtain ⟨z, hz, rfl⟩ := List.mem_map.1 hq
        have := ha.1 z hz
        simp only; omega
theorem at_opL {f : Int → Int → Int} {a b : List Stp} (ha : AscP a) (hb : AscP b) (h0 : f 0 0 = 0) (x : Int) : atL (opL f a b (brk a b)) x = f (atL a x) (atL b x) := by
  obtain ⟨m1, m2⟩ := brk_all a b
  rcases atF_map (x := x) (fun y => f (atL a y) (atL b y)) 0 (brk_asc ha hb) with ⟨h1, h2⟩ | ⟨y, hy, h1, h2, h3⟩
  · rw [show atL (opL f a b (brk a b)) x = 0 from h2]
    have e1 : atL a x = 0 := atF_none 0 fun q hq => h1 _ (m1 q hq)
    have e2 : atL b x = 0 := atF_none 0 fun q hq => h1 _ (m2 q hq)
    rw [e1, e2, h0]
  · rw [show atL (opL f a b (brk a b)) x = f (atL a y) (atL b y) from h3]
    have e1 : atL a x = atL a y := atF_same 0 fun q hq => ⟨fun h => h2 _ (m1 q hq) h, fun h => by omega⟩
    have e2 : atL b x = atL b y := atF_same 0 fun q hq => ⟨fun h => h2 _ (m2 q hq) h, fun h => by omega⟩
    rw [e1, e2]
theorem short_mem : ∀ {l : List Stp} {n : Int} {q : Stp}, q ∈ shortL n l → q ∈ l
  | [], _, _, h => h
  | p :: l, n, q, h => by
    rw [shortL] at h
    split at h
    · exact List.mem_cons_of_mem _ (short_mem h)
    · rcases List.mem_cons.1 h with rfl | h
      · exact List.mem_cons_self
      · exact List.mem_cons_of_mem _ (short_mem h)
theorem short_asc : ∀ {l : List Stp} {n : Int}, AscP l → AscP (shortL n l)
  | [], _, _ => trivial
  | p :: l, n, h => by
    rw [shortL]
    split
    · exact short_asc h.2
    · exact ⟨fun q hq => h.1 q (short_mem hq), short_asc h.2⟩
theorem at_short {x : Int} : ∀ {l : List Stp} {n : Int}, AscP l → atF x n (shortL n l) = atF x n l
  | [], _, _ => rfl
  | p :: l, n, h => by
    rw [shortL]
    by_cases e : p.v = n
    · rw [if_pos e, e, at_short h.2, atF, e]
      by_cases e2 : p.x ≤ x
      · rw [if_pos e2]
      · rw [if_neg e2]
    · rw [if_neg e, atF, atF]
      by_cases e2 : p.x ≤ x
      · rw [if_pos e2, at_short h.2]
      · rw [if_neg e2, atF_none n fun q hq => by have := h.1 q (short_mem hq); omega, atF_none n fun q hq => by have := h.1 q hq; omega]
theorem opL_asc {f : Int → Int → Int} {a b : List Stp} : ∀ {L : List Int}, AscI L → AscP (opL f a b L)
  | [], _ => trivial
  | y :: L, h => ⟨fun q hq => by
      obtain ⟨z, hz, rfl⟩ := List.mem_map.1 hq
      exact h.1 z hz, opL_asc h.2⟩
theorem at_join {f : Int → Int → Int} {a b : List Stp} (ha : AscP a) (hb : AscP b) (h0 : f 0 0 = 0) (x : Int) : atL (joinL f a b) x = f (atL a x) (atL b x) := by
  rw [← at_opL ha hb h0 x]
  exact at_short (opL_asc (brk_asc ha hb))
theorem join_comm {f : Int → Int → Int} (hf : ∀ x y, f x y = f y x) (a b : List Stp) : joinL f a b = joinL f b a := by
  rw [joinL, joinL, brk_comm a b]
  congr 1
  exact List.map_congr_left fun x _ => by rw [hf]
theorem joinE_comm {f : Int → Int → Int} (hf : ∀ x y, f x y = f y x) (a b : List Stp) : joinE f a b = joinE f b a ∧ joinR f a b = joinR f b a := by
  have e : joinE f a b = joinE f b a := by rw [joinE, joinE, join_comm hf a b, Bool.and_comm]
  exact ⟨e, by rw [joinR, joinR, e, join_comm hf a b]⟩
/- what joined yields is valid -/
theorem ascI_of_valid {l : List Stp} (h : validB l = true) : AscP l := ascP_of (asc_of (valid_yes.1 h).2)
theorem mem_ok {l : List Stp} (h : validB l = true) {q : Stp} (hq : q ∈ l) : -1048576 ≤ q.x ∧ q.x ≤ 1048576 ∧ 0 ≤ q.v ∧ q.v ≤ 1099511627776 := by
  obtain ⟨k, hk, rfl⟩ := List.mem_iff_getElem.1 hq
  have := (valid_yes.1 h).2 k hk
  rw [← ix_eq hk]
  simp only [okAt, placeB, Bool.and_eq_true, decide_eq_true_eq] at this
  omega
theorem valid_of {l : List Stp} (h0 : l.length ≤ 200) (ha : AscP l) (hm : ∀ q ∈ l, -1048576 ≤ q.x ∧ q.x ≤ 1048576 ∧ 0 ≤ q.v ∧ q.v ≤ 1099511627776) : validB l = true := by
  refine valid_all h0 fun k hk => ?_
  have h1 := hm _ (ix_mem hk)
  have h2 : k = 0 ∨ (ix l (k - 1)).x < (ix l k).x := by
    by_cases e : k = 0
    · exact .inl e
    · exact .inr (ascS_of ha (k - 1) k (by omega) hk)
  simp only [okAt, placeB, Bool.and_eq_true, Bool.or_eq_true, decide_eq_true_eq]
  omega
theorem join_valid {f : Int → Int → Int} {a b : List Stp} (hf : ∀ x y : Int, 0 ≤ x → 0 ≤ y → 0 ≤ f x y) (h : joinE f a b = 0) : validB a = true ∧ validB b = true ∧ validB (joinL f a b) = true := by
  rw [joinE] at h
  split at h
  · omega
  · rename_i hv
    have hv : validB a = true ∧ validB b = true := by simpa using hv
    split at h
    · omega
    · rename_i hbig
      split at h
      · omega
      · rename_i hlen
        refine ⟨hv.1, hv.2, valid_of (by omega) (short_asc (opL_asc (brk_asc (ascI_of_valid hv.1) (ascI_of_valid hv.2)))) fun q hq => ?_⟩
        have hnb : bigB q = false := by
          have := List.any_eq_false.1 (by simpa using hbig : (joinL f a b).any bigB = false) q hq
          simpa using this
        have hq2 := short_mem hq
        obtain ⟨y, hy, rfl⟩ := List.mem_map.1 hq2
        have hn := hf _ _ (at_range hv.1 y).1 (at_range hv.2 y).1
        simp only [bigB, decide_eq_false_iff_not] at hnb
        have hp : -1048576 ≤ y ∧ y ≤ 1048576 := by
          rcases brk_from hy with ⟨p, hp, rfl⟩ | ⟨p, hp, rfl⟩
          · have := mem_ok hv.1 hp; omega
          · have := mem_ok hv.2 hp; omega
        simp only
        omega
end Go.Proofs.Ytekokeiajgcfkaa
