/- Regions that draw their order, whose operations may make memory, and whose callees may hand back values known by a property: one walk in the text's order serves every order. No program in sight. -/
import Derived.Test.YtjpnijnbfjgnfaaCalm
namespace Go.Proofs.Ytjpnijnbfjgnfaa
open Go.RowKit
/- ===== regions in which an operation may make memory, or a callee hand back a value that is known by a property alone ===== -/
/-- The block that a value points into. -/
def blk : Value → Option Nat
  | .pointer (some a) => some a.block
  | .slice (some a) _ _ => some a.block
  | _ => none
/-- What is known of what an operation leaves: nothing (it is passed over), one value, or a property (which stands in all later worlds; 'fr': it points into a new block). -/
inductive Kind where
  | skip
  | det (v : Value)
  | any (fr : Bool) (R : Value → World → Prop)
def Kind.stable : Kind → Prop
  | .any _ R => ∀ v w w', R v w → Below w.heap.size w w' → R v w'
  | _ => True
def Kind.gives : Kind → Value → World → World → Prop
  | .skip, _, _, _ => False
  | .det v, u, w, w' => u = v ∧ Below w.heap.size w w'
  | .any fr R, u, w, w' => R u w' ∧ Below w.heap.size w w' ∧ (fr = true → ∃ b, blk u = some b ∧ w.heap.size ≤ b ∧ b < w'.heap.size)
def looseUpon (P : Program) (w : World) (K : Value → World → Prop) : Result Next → Prop
  | .ok (.value u) w' => K u w'
  | .ok .skip w' => K undef w'
  | .ok (.enter f args) w' => w' = w ∧ Calls P f args w (fun e w'' => ∃ u, e = .returned u ∧ K u w'')
  | _ => False
def looseOp (P : Program) (ops : Array Oper) (K : Kind) (o : Oper) (a : Act) (w : World) : Prop :=
  match K with
  | .skip => Region.wanted o (yielded ops a.tmps) = false
  | K => Region.wanted o (yielded ops a.tmps) = true ∧ looseUpon P w (fun u w' => K.gives u w w') ((execOp a.eval o).run P w)
/-- What is known: the operation's number, its temporary, whether new, the property. -/
structure Kn where
  ix : Nat
  dst : Option Tmp
  fr : Bool
  R : Value → World → Prop
def putK (ks : List Kn) (vals : Nat → Value) (a : Act) : Act := ks.foldr (fun p a => a.put p.dst (vals p.ix)) a
def Kind.ks (K : Kind) (i : Nat) (d : Option Tmp) (ks : List Kn) : List Kn :=
  match K with
  | .any fr R => ⟨i, d, fr, R⟩ :: ks
  | _ => ks
def Kind.act (K : Kind) (d : Option Tmp) (a : Act) : Act :=
  match K with
  | .skip => a.put d undef
  | .det v => a.put d v
  | .any _ _ => a
def Apart (ks : List Kn) (vals : Nat → Value) : Prop := ∀ p ∈ ks, ∀ q ∈ ks, p.fr = true → q.fr = true → p.ix ≠ q.ix → blk (vals p.ix) ≠ blk (vals q.ix)
def looks (o : Oper) (ops : Array Oper) (d : Option Tmp) : Bool :=
  match d with
  | some t => (o.looksAt ops).contains t
  | none => false
/-- THE WALK IN THE TEXT's ORDER. -/
def wpLoose (P : Program) (ops : Array Oper) (w0 : World) (Fin : Act → World → Prop) : List Oper → Nat → List Kn → Act → Prop
  | [], _, ks, a => ∀ (vals : Nat → Value) (xx : Ex), (∀ p ∈ ks, p.R (vals p.ix) (pls w0 xx)) → Apart ks vals → Fin (putK ks vals a) (pls w0 xx)
  | o :: rest, k, ks, a => ∃ K : Kind, K.stable ∧
      (∀ (vals : Nat → Value) (xx : Ex), (∀ p ∈ ks, looks o ops p.dst = true → p.R (vals p.ix) (pls w0 xx)) → looseOp P ops K o (putK ks vals a) (pls w0 xx)) ∧
      wpLoose P ops w0 Fin rest (k + 1) (K.ks k o.dst ks) (K.act o.dst a)

/- ===== its soundness ===== -/
def over (a : Act) (f : Tmp → Option Value) : Act := ⟨a.tmps.mapIdx fun t v => (f t).getD v, a.defers⟩
theorem over_none (a : Act) : over a (fun _ => none) = a := by
  unfold over; cases a; simp only [Act.mk.injEq, and_true, Option.getD_none]; apply Array.ext_getElem?; intro i; simp
theorem over_put (a : Act) (f : Tmp → Option Value) (d : Tmp) (v : Value) : (over a f).put (some d) v = over a (fun t => if t = d then some v else f t) := by
  unfold over Act.put
  simp only [Act.mk.injEq, and_true]
  apply Array.ext_getElem?
  intro i
  rw [Array.getElem?_setIfInBounds, Array.getElem?_mapIdx, Array.getElem?_mapIdx, Array.size_mapIdx]
  by_cases h : d = i
  · subst h
    by_cases hlt : d < a.tmps.size
    · simp [hlt]
    · simp [hlt]
  · simp [h, Ne.symm h]
theorem over_eval (a : Act) {f g : Tmp → Option Value} {x : Operand} (h : ∀ t, x = .tmp t → f t = g t) : (over a f).eval x = (over a g).eval x := by
  cases x with
  | tmp t =>
    have ht := h t rfl
    simp [Act.eval, over, ht]
  | _ => rfl
theorem over_wanted (a : Act) {ops : Array Oper} {f g : Tmp → Option Value} {o : Oper} (h : ∀ t ∈ o.looksAt ops, f t = g t) :
    Region.wanted o (yielded ops (over a f).tmps) = Region.wanted o (yielded ops (over a g).tmps) := by
  unfold Region.wanted
  cases hg : o.guard with
  | none => rfl
  | some gw =>
    obtain ⟨g', want⟩ := gw
    have hy : yielded ops (over a f).tmps g' = yielded ops (over a g).tmps g' := by
      unfold yielded
      cases ht : (ops[g']?).bind (·.dst) with
      | none => rfl
      | some t =>
        have := h t (by simp [Oper.looksAt, hg, ht])
        simp [over, this]
    simp only [hy]
theorem over_exec (a : Act) {ops : Array Oper} {f g : Tmp → Option Value} {o : Oper} (hs : ∀ cs b, o.op ≠ .select cs b) (h : ∀ t ∈ o.looksAt ops, f t = g t) :
    execOp (over a f).eval o = execOp (over a g).eval o :=
  execOp_congr o hs fun x hx => over_eval a fun t ht => h t (by
    subst ht
    exact List.mem_append_left _ (List.mem_filterMap.2 ⟨.tmp t, by simpa using hx, rfl⟩))

/-- What is asked of the region's head of n operations. -/
def looseB (ops : Array Oper) (n : Nat) : Bool :=
  Region.noSelect ops && decide (n ≤ ops.size) &&
  (List.range n).all fun i => match ops[i]? with
    | none => false
    | some o => (o.after.all fun e => !Region.binds .any e || decide (e.on < i)) &&
      (List.range n).all fun j => j == i || match (ops[j]?).bind (·.dst) with
        | none => true
        | some t => o.dst != some t && (!(o.looksAt ops).contains t || (decide (j < i) && Region.waitsFor .any ops i j))
section
variable {P : Program} {ops : Array Oper} {n : Nat}
theorem looseB_spec (h : looseB ops n = true) : Region.noSelect ops = true ∧ n ≤ ops.size ∧ ∀ i, i < n → ∃ o, ops[i]? = some o ∧ (∀ e ∈ o.after, Region.binds .any e = true → e.on < i) ∧
    ∀ j t, j < n → j ≠ i → (ops[j]?).bind (·.dst) = some t → o.dst ≠ some t ∧ (t ∈ o.looksAt ops → j < i ∧ Region.waitsFor .any ops i j = true) := by
  unfold looseB at h
  simp only [Bool.and_eq_true, decide_eq_true_eq, List.all_eq_true, List.mem_range] at h
  obtain ⟨⟨h1, h2⟩, h3⟩ := h
  refine ⟨h1, h2, fun i hi => ?_⟩
  have h4 := h3 i hi
  cases ho : ops[i]? with
  | none => rw [ho] at h4; cases h4
  | some o =>
    rw [ho] at h4
    simp only [Bool.and_eq_true, List.all_eq_true, List.mem_range] at h4
    obtain ⟨h5, h6⟩ := h4
    refine ⟨o, rfl, fun e he hb => ?_, fun j t hj hji ht => ?_⟩
    · have := Array.all_eq_true_iff_forall_mem.1 h5 e he
      simpa [hb] using this
    · have := h6 j hj
      rw [ht] at this
      have hne : (j == i) = false := by simpa using hji
      simp only [hne, Bool.false_or, Bool.and_eq_true, bne_iff_ne, ne_eq, Bool.or_eq_true, Bool.not_eq_true', decide_eq_true_eq] at this
      refine ⟨this.1, fun hm => ?_⟩
      rcases this.2 with h7 | h7
      · have hc : (o.looksAt ops).contains t = true := by simpa using hm
        rw [hc] at h7; cases h7
      · exact h7

/-- The operation of the head whose temporary this is. -/
def slotOf (ops : Array Oper) (n : Nat) (t : Tmp) : Option Nat := (List.range n).find? fun j => (ops[j]?).bind (·.dst) == some t
theorem slotOf_some {t : Tmp} {j : Nat} (h : slotOf ops n t = some j) : j < n ∧ (ops[j]?).bind (·.dst) = some t := by
  unfold slotOf at h
  have h1 := List.mem_of_find?_eq_some h
  have h2 := List.find?_some h
  exact ⟨List.mem_range.1 h1, by simpa using h2⟩
theorem slotOf_eq (hB : looseB ops n = true) {t : Tmp} {j : Nat} (hj : j < n) (ht : (ops[j]?).bind (·.dst) = some t) : slotOf ops n t = some j := by
  cases h : slotOf ops n t with
  | none =>
    unfold slotOf at h
    have := List.find?_eq_none.1 h j (List.mem_range.2 hj)
    simp [ht] at this
  | some k =>
    obtain ⟨hk, hkt⟩ := slotOf_some h
    by_cases hjk : j = k
    · rw [hjk]
    · exfalso
      obtain ⟨_, _, h3⟩ := looseB_spec hB
      obtain ⟨o, ho, _, h4⟩ := h3 k hk
      have := (h4 j t hj hjk ht).1
      rw [ho] at hkt
      exact this hkt
def fill (ops : Array Oper) (n : Nat) (D : Nat → Bool) (vals : Nat → Value) : Tmp → Option Value := fun t => (slotOf ops n t).bind fun j => if D j then some (vals j) else none
theorem fill_put (hB : looseB ops n = true) (a : Act) {D : Nat → Bool} {vals : Nat → Value} {i : Nat} {o : Oper} (hi : i < n) (ho : ops[i]? = some o) (hD : D i = false) (v : Value) :
    (over a (fill ops n D vals)).put o.dst v = over a (fill ops n (fun j => j == i || D j) (fun j => if j = i then v else vals j)) := by
  cases hd : o.dst with
  | none =>
    show over a _ = _
    congr 1
    funext t
    unfold fill
    cases hs : slotOf ops n t with
    | none => rfl
    | some j =>
      have hji : j ≠ i := by
        rintro rfl
        have := (slotOf_some hs).2
        rw [ho] at this
        simp [hd] at this
      simp [hji]
  | some d =>
    rw [over_put]
    congr 1
    funext t
    by_cases ht : t = d
    · subst ht
      have := slotOf_eq hB hi (t := t) (by rw [ho]; simpa using hd)
      simp [fill, this]
    · rw [if_neg ht]
      unfold fill
      cases hs : slotOf ops n t with
      | none => rfl
      | some j =>
        have hji : j ≠ i := by
          rintro rfl
          have h2 := (slotOf_some hs).2
          rw [ho] at h2
          have h3 : o.dst = some t := h2
          rw [hd] at h3
          exact ht (by injection h3 with h3; exact h3.symm)
        simp [hji]

/-- The choices that the text's walk has made. -/
def Cons (S : Nat → Kind) (k : Nat) (vals : Nat → Value) : Prop := ∀ j, j < k → match S j with
  | .skip => vals j = undef
  | .det v => vals j = v
  | .any _ _ => True
structure Corr (ops : Array Oper) (n : Nat) (a0 : Act) (S : Nat → Kind) (k : Nat) (ks : List Kn) (a : Act) : Prop where
  act : ∀ vals, Cons S k vals → putK ks vals a = over a0 (fill ops n (fun j => decide (j < k)) vals)
  mem : ∀ p ∈ ks, p.ix < k ∧ S p.ix = .any p.fr p.R ∧ (ops[p.ix]?).bind (·.dst) = p.dst
  all : ∀ j fr R, j < k → S j = .any fr R → ∃ p ∈ ks, p.ix = j ∧ p.fr = fr ∧ p.R = R
theorem put_put_comm (a : Act) (x y : Option Tmp) (v u : Value) (h : ∀ d, x = some d → y ≠ some d) : (a.put x v).put y u = (a.put y u).put x v := Act.put_comm a v u h
theorem putK_put (vals : Nat → Value) (d : Option Tmp) (v : Value) : ∀ (ks : List Kn) (a : Act), (∀ p ∈ ks, ∀ t, d = some t → p.dst ≠ some t) → putK ks vals (a.put d v) = (putK ks vals a).put d v
  | [], _, _ => rfl
  | p :: ks, a, h => by
    show (putK ks vals (a.put d v)).put p.dst (vals p.ix) = ((putK ks vals a).put p.dst (vals p.ix)).put d v
    rw [putK_put vals d v ks a (fun q hq => h q (List.mem_cons_of_mem _ hq))]
    exact put_put_comm _ d p.dst v _ (fun t ht => h p (List.mem_cons_self) t ht)
theorem Corr.step (hB : looseB ops n = true) {a0 a : Act} {S : Nat → Kind} {k : Nat} {ks : List Kn} {o : Oper} (hk : k < n) (ho : ops[k]? = some o) (hc : Corr ops n a0 S k ks a) :
    Corr ops n a0 S (k + 1) ((S k).ks k o.dst ks) ((S k).act o.dst a) := by
  have hdst : ∀ p ∈ ks, ∀ t, o.dst = some t → p.dst ≠ some t := by
    intro p hp t ht hpt
    obtain ⟨h1, _, h3⟩ := hc.mem p hp
    obtain ⟨_, _, h4⟩ := looseB_spec hB
    obtain ⟨o', ho', _, h5⟩ := h4 k hk
    rw [ho] at ho'; injection ho' with ho'; subst ho'
    exact (h5 p.ix t (by omega) (by omega) (h3.trans hpt)).1 ht
  have hset : ∀ vals, (over a0 (fill ops n (fun j => decide (j < k)) vals)).put o.dst (vals k) = over a0 (fill ops n (fun j => decide (j < k + 1)) vals) := by
    intro vals
    rw [fill_put hB a0 hk ho (by simp) (vals k)]
    congr 1
    congr 1
    · funext j; rw [Bool.eq_iff_iff]; simp; omega
    · funext j; split
      · rename_i h; rw [h]
      · rfl
  have hcons : ∀ vals, Cons S (k + 1) vals → Cons S k vals := fun vals h j hj => h j (by omega)
  cases hS : S k with
  | skip =>
    refine ⟨fun vals hv => ?_, fun p hp => ?_, fun j fr R hj hjS => ?_⟩
    · have h1 : vals k = undef := by have := hv k (by omega); rw [hS] at this; exact this
      show putK ks vals (a.put o.dst undef) = _
      rw [putK_put vals o.dst undef ks a hdst, hc.act vals (hcons vals hv), ← h1, hset]
    · obtain ⟨h1, h2⟩ := hc.mem p hp; exact ⟨by omega, h2⟩
    · by_cases hjk : j = k
      · subst hjk; rw [hS] at hjS; cases hjS
      · exact hc.all j fr R (by omega) hjS
  | det v =>
    refine ⟨fun vals hv => ?_, fun p hp => ?_, fun j fr R hj hjS => ?_⟩
    · have h1 : vals k = v := by have := hv k (by omega); rw [hS] at this; exact this
      show putK ks vals (a.put o.dst v) = _
      rw [putK_put vals o.dst v ks a hdst, hc.act vals (hcons vals hv), ← h1, hset]
    · obtain ⟨h1, h2⟩ := hc.mem p hp; exact ⟨by omega, h2⟩
    · by_cases hjk : j = k
      · subst hjk; rw [hS] at hjS; cases hjS
      · exact hc.all j fr R (by omega) hjS
  | any fr R =>
    refine ⟨fun vals hv => ?_, fun p hp => ?_, fun j fr' R' hj hjS => ?_⟩
    · show (putK ks vals a).put o.dst (vals k) = _
      rw [hc.act vals (hcons vals hv), hset]
    · rcases List.mem_cons.1 hp with rfl | hp
      · exact ⟨by show k < k + 1; omega, hS, by show (ops[k]?).bind (·.dst) = o.dst; rw [ho]; rfl⟩
      · obtain ⟨h1, h2⟩ := hc.mem p hp; exact ⟨by omega, h2⟩
    · by_cases hjk : j = k
      · subst hjk; rw [hS] at hjS; injection hjS with e1 e2; subst e1 e2; exact ⟨_, List.mem_cons_self, rfl, rfl, rfl⟩
      · obtain ⟨p, hp, h⟩ := hc.all j fr' R' (by omega) hjS; exact ⟨p, List.mem_cons_of_mem _ hp, h⟩
/-- What the text's walk shows of operation i. -/
def Obl (P : Program) (ops : Array Oper) (n : Nat) (a0 : Act) (w0 : World) (S : Nat → Kind) (i : Nat) : Prop :=
  (S i).stable ∧ ∀ o, ops[i]? = some o → ∀ vals, Cons S i vals → ∀ xx : Ex, (∀ j fr R, j < i → S j = .any fr R → looks o ops ((ops[j]?).bind (·.dst)) = true → R (vals j) (pls w0 xx)) →
    looseOp P ops (S i) o (over a0 (fill ops n (fun j => decide (j < i)) vals)) (pls w0 xx)
def FinObl (ops : Array Oper) (n : Nat) (a0 : Act) (w0 : World) (S : Nat → Kind) (Fin : Act → World → Prop) : Prop :=
  ∀ vals, Cons S n vals → ∀ xx : Ex, (∀ j fr R, j < n → S j = .any fr R → R (vals j) (pls w0 xx)) →
    (∀ i j R R', i < n → j < n → S i = .any true R → S j = .any true R' → i ≠ j → blk (vals i) ≠ blk (vals j)) → Fin (over a0 (fill ops n (fun j => decide (j < n)) vals)) (pls w0 xx)
theorem loose_spec (hB : looseB ops n = true) {w0 : World} {Fin : Act → World → Prop} {a0 : Act} :
    ∀ (rest : List Oper) (k : Nat) (ks : List Kn) (a : Act) (S : Nat → Kind), (∀ j, j < rest.length → rest[j]? = ops[k + j]?) → k + rest.length = n → Corr ops n a0 S k ks a →
      (∀ i, i < k → Obl P ops n a0 w0 S i) → wpLoose P ops w0 Fin rest k ks a → ∃ S', (∀ i, i < n → Obl P ops n a0 w0 S' i) ∧ FinObl ops n a0 w0 S' Fin
  | [], k, ks, a, S, _, hk, hc, hO, h => by
    have : k = n := by simpa using hk
    subst this
    refine ⟨S, hO, fun vals hv xx hR hA => ?_⟩
    have h1 := h vals xx (fun p hp => by obtain ⟨h1, h2, _⟩ := hc.mem p hp; exact hR p.ix p.fr p.R h1 h2) (fun p hp q hq hpf hqf hne => by
      obtain ⟨h1, h2, _⟩ := hc.mem p hp
      obtain ⟨h3, h4, _⟩ := hc.mem q hq
      rw [hpf] at h2; rw [hqf] at h4
      exact hA p.ix q.ix p.R q.R h1 h3 h2 h4 hne)
    rwa [hc.act vals hv] at h1
  | o :: rest, k, ks, a, S, hl, hk, hc, hO, h => by
    obtain ⟨K, hst, hop, hrest⟩ := h
    have hkn : k < n := by simp only [List.length_cons] at hk; omega
    have ho : ops[k]? = some o := by simpa using (hl 0 (by simp)).symm
    -- the choices with K at k
    have hext : ∀ j, j < k → (fun j => if j = k then K else S j) j = S j := fun j hj => by show (if j = k then K else S j) = S j; rw [if_neg (by omega)]
    have hcons : ∀ m, m ≤ k → ∀ vals, Cons (fun j => if j = k then K else S j) m vals ↔ Cons S m vals := fun m hm vals => by
      constructor
      · intro h' j hj
        have h1 := h' j hj
        simp only [show j ≠ k by omega, if_false] at h1
        exact h1
      · intro h' j hj
        have h1 := h' j hj
        simp only [show j ≠ k by omega, if_false]
        exact h1
    have hc' : Corr ops n a0 (fun j => if j = k then K else S j) k ks a :=
      ⟨fun vals hv => hc.act vals ((hcons k (Nat.le_refl _) vals).1 hv), fun p hp => by
        obtain ⟨h1, h2, h3⟩ := hc.mem p hp
        exact ⟨h1, by rw [if_neg (by omega)]; exact h2, h3⟩, fun j fr R hj hS => by
        rw [if_neg (by omega)] at hS
        exact hc.all j fr R hj hS⟩
    have hstep := hc'.step hB hkn ho
    simp only [if_true] at hstep
    refine loose_spec hB rest (k + 1) (K.ks k o.dst ks) (K.act o.dst a) (fun j => if j = k then K else S j) (fun j hj => by have := hl (j + 1) (by simp; omega); simpa [Nat.add_assoc, Nat.add_comm 1 j] using this)
      (by simp only [List.length_cons] at hk; omega) hstep (fun i hi => ?_) hrest
    by_cases hik : i = k
    · subst hik
      refine ⟨by simpa using hst, fun o' ho' vals hv xx hR => ?_⟩
      rw [ho] at ho'; injection ho' with ho'; subst ho'
      have hv' := (hcons i (Nat.le_refl _) vals).1 hv
      have h1 := hop vals xx (fun p hp hlook => by
        obtain ⟨h1, h2, h3⟩ := hc'.mem p hp
        exact hR p.ix p.fr p.R h1 h2 (by rw [h3]; exact hlook))
      rw [hc.act vals hv'] at h1
      simpa using h1
    · have hO' := hO i (by omega)
      refine ⟨by show (if i = k then K else S i).stable; rw [if_neg hik]; exact hO'.1, fun o' ho' vals hv xx hR => ?_⟩
      have h1 := hO'.2 o' ho' vals ((hcons i (by omega) vals).1 hv) xx (fun j fr R hj hS hlook => hR j fr R hj (by show (if j = k then K else S j) = _; rw [if_neg (by omega)]; exact hS) hlook)
      show looseOp P ops (if i = k then K else S i) o' _ _
      rw [if_neg hik]; exact h1
/-- What holds of the run when the operations D are done. -/
structure Real (ops : Array Oper) (n : Nat) (a0 : Act) (w0 : World) (S : Nat → Kind) (listed : Array Bool) (vals : Nat → Value) (a : Act) (w : World) : Prop where
  head : HeadInv .any ops n listed
  act : a = over a0 (fill ops n (fun j => listed.getD j false) vals)
  ext : Below w0.heap.size w0 w
  val : ∀ j, j < n → listed.getD j false = true → match S j with
    | .skip => vals j = undef
    | .det v => vals j = v
    | .any fr R => R (vals j) w ∧ (fr = true → ∃ b, blk (vals j) = some b ∧ b < w.heap.size)
  dis : ∀ i j R R', i < n → j < n → listed.getD i false = true → listed.getD j false = true → S i = .any true R → S j = .any true R' → i ≠ j → blk (vals i) ≠ blk (vals j)
theorem Real.op (hB : looseB ops n = true) {a0 a : Act} {w0 w : World} {S : Nat → Kind} (hO : ∀ i, i < n → Obl P ops n a0 w0 S i) {listed : Array Bool} {vals : Nat → Value} {i : Nat} (hi : i < n)
    (hr : Real ops n a0 w0 S listed vals a w) (hready : i ∈ Region.ready .any ops listed) {K : Act → World → Prop} {Q : Exit → Act → World → Prop}
    (hK : ∀ u w', Real ops n a0 w0 S (listed.setIfInBounds i true) (fun j => if j = i then u else vals j) (a.put ((ops[i]?).bind (·.dst)) u) w' → K (a.put ((ops[i]?).bind (·.dst)) u) w') : wpOp P ops Q i K a w := by
  obtain ⟨hun, o, ho, hpre⟩ := mem_ready.1 hready
  obtain ⟨hsel, hn, hall⟩ := looseB_spec hB
  obtain ⟨o', ho', hlt, hslot⟩ := hall i hi
  rw [ho] at ho'; injection ho' with ho'; subst ho'
  have hunf := getD_both hun
  obtain ⟨hst, hop⟩ := hO i hi
  obtain ⟨xx, rfl⟩ := plus_of_below hr.ext
  -- preds are done
  have hdone : ∀ j, Region.waitsFor .any ops i j = true → listed.getD j false = true := fun j hw => by
    obtain ⟨o', ho', e, he, hb, hon⟩ := Region.waitsFor_spec hw
    rw [ho] at ho'; injection ho' with ho'; subst ho'
    rw [← hon]; exact hpre e he hb
  -- the values for the text's walk
  let vt : Nat → Value := fun j => if listed.getD j false then vals j else match S j with | .det v => v | _ => undef
  have hvt : Cons S i vt := fun j hj => by
    have hjn : j < n := by omega
    show match S j with | .skip => vt j = undef | .det v => vt j = v | .any _ _ => True
    cases hl : listed.getD j false with
    | true =>
      have := hr.val j hjn hl
      cases hS : S j <;> rw [hS] at this <;> simp only [vt, hl, if_true] <;> first | exact this | trivial
    | false => cases hS : S j <;> simp only [vt, hl, hS, Bool.false_eq_true, if_false]
  have hsame : ∀ t ∈ o.looksAt ops, fill ops n (fun j => decide (j < i)) vt t = fill ops n (fun j => listed.getD j false) vals t := fun t ht => by
    unfold fill
    cases hs : slotOf ops n t with
    | none => rfl
    | some j =>
      obtain ⟨hjn, hjt⟩ := slotOf_some hs
      by_cases hji : j = i
      · subst hji; simp only [Option.bind_some, Nat.lt_irrefl, decide_false, Bool.false_eq_true, if_false, hunf]
      · obtain ⟨h1, h2⟩ := (hslot j t hjn hji hjt).2 ht
        have hl := hdone j h2
        simp only [Option.bind_some, h1, decide_true, if_true, hl, vt]
  have h1 := hop o ho vt hvt xx (fun j fr R hj hS hlook => by
    have hjn : j < n := by omega
    unfold looks at hlook
    cases hd : (ops[j]?).bind (·.dst) with
    | none => rw [hd] at hlook; cases hlook
    | some t =>
      rw [hd] at hlook
      have hmem : t ∈ o.looksAt ops := by simpa using hlook
      obtain ⟨_, h2⟩ := (hslot j t hjn (by omega) hd).2 hmem
      have hl := hdone j h2
      have := hr.val j hjn hl
      rw [hS] at this
      simp only [vt, hl, if_true]
      exact this.1)
  have hselo : ∀ cs b, o.op ≠ .select cs b := fun cs b => Region.noSelect_spec hsel i o cs b ho
  have hex := over_exec a0 hselo hsame
  have hwa := over_wanted a0 hsame
  rw [← hr.act] at hex hwa
  -- the next state
  have hnext : ∀ u w', (match S i with | .skip => u = undef ∧ w' = pls w0 xx | K => K.gives u (pls w0 xx) w') →
      Real ops n a0 w0 S (listed.setIfInBounds i true) (fun j => if j = i then u else vals j) (a.put o.dst u) w' := by
    intro u w' hg
    have hbel : Below (pls w0 xx).heap.size (pls w0 xx) w' := by
      cases hS : S i with
      | skip => rw [hS] at hg; rw [hg.2]; exact Below.refl _ _
      | det v => rw [hS] at hg; exact hg.2
      | any fr R => rw [hS] at hg; exact hg.2.1
    have hilt : i < listed.size := by rw [hr.head.size]; omega
    have hnew : ∀ j, (listed.setIfInBounds i true).getD j false = (j == i || listed.getD j false) := fun j => by
      by_cases hji : j = i
      · subst hji; simp [hilt]
      · rw [getD_set_ne false (Ne.symm hji)]; simp [hji]
    refine ⟨hr.head.set hready hi, ?_, hr.ext.trans (hbel.mono (by rw [size_plus]; omega)), fun j hj hl => ?_, fun p q R R' hp hq hlp hlq hSp hSq hne => ?_⟩
    · rw [hr.act, fill_put hB a0 hi ho hunf u]
      congr 1
      congr 1
      funext j
      exact (hnew j).symm
    · rw [hnew] at hl
      by_cases hji : j = i
      · subst hji
        simp only [if_true]
        cases hS : S j with
        | skip => rw [hS] at hg; exact hg.1
        | det v => rw [hS] at hg; exact hg.1
        | any fr R => rw [hS] at hg; exact ⟨hg.1, fun hf => by obtain ⟨b, h1, _, h2⟩ := hg.2.2 hf; exact ⟨b, h1, h2⟩⟩
      · have hl' : listed.getD j false = true := by simpa [hji] using hl
        have := hr.val j hj hl'
        simp only [hji, if_false]
        cases hS : S j with
        | skip => rw [hS] at this; exact this
        | det v => rw [hS] at this; exact this
        | any fr R =>
          rw [hS] at this
          have hstj := (hO j hj).1
          rw [hS] at hstj
          exact ⟨hstj _ _ _ this.1 hbel, fun hf => by obtain ⟨b, h1, h2⟩ := this.2 hf; exact ⟨b, h1, Nat.lt_of_lt_of_le h2 hbel.size⟩⟩
    · rw [hnew] at hlp hlq
      have old : ∀ j R, j < n → j ≠ i → listed.getD j false = true → S j = .any true R → ∃ b, blk (vals j) = some b ∧ b < (pls w0 xx).heap.size := fun j R hj hji hl hS => by
        have := hr.val j hj hl
        rw [hS] at this
        exact this.2 rfl
      by_cases hpi : p = i
      · subst hpi
        have hqi : q ≠ p := Ne.symm hne
        have hlq' : listed.getD q false = true := by simpa [hqi] using hlq
        obtain ⟨b, hb, hblt⟩ := old q R' hq hqi hlq' hSq
        rw [hSp] at hg
        obtain ⟨b', hb', hge, _⟩ := hg.2.2 rfl
        simp only [if_true, hqi, if_false]
        rw [hb, hb']
        intro e; injection e with e; omega
      · by_cases hqi : q = i
        · subst hqi
          have hlp' : listed.getD p false = true := by simpa [hpi] using hlp
          obtain ⟨b, hb, hblt⟩ := old p R hp hpi hlp' hSp
          rw [hSq] at hg
          obtain ⟨b', hb', hge, _⟩ := hg.2.2 rfl
          simp only [if_true, hpi, if_false]
          rw [hb, hb']
          intro e; injection e with e; omega
        · simp only [hpi, hqi, if_false]
          exact hr.dis p q R R' hp hq (by simpa [hpi] using hlp) (by simpa [hqi] using hlq) hSp hSq hne
  have hK' : ∀ u w', (match S i with | .skip => u = undef ∧ w' = pls w0 xx | K => K.gives u (pls w0 xx) w') → K (a.put o.dst u) w' := fun u w' hg => by
    have := hK u w'
    rw [ho] at this
    exact this (hnext u w' hg)
  unfold wpOp
  simp only [ho]
  cases hS : S i with
  | skip =>
    rw [hS] at h1
    have h2 : Region.wanted o (yielded ops a.tmps) = false := by rw [← hwa]; exact h1
    rw [if_neg (by rw [h2]; exact Bool.false_ne_true)]
    exact hK' _ _ (by rw [hS]; exact ⟨rfl, rfl⟩)
  | det v =>
    rw [hS] at h1
    obtain ⟨h2, h3⟩ := h1
    rw [if_pos (by rw [← hwa]; exact h2)]
    refine .inl ?_
    unfold Oper.wp
    rw [hex] at h3
    generalize (execOp a.eval o).run P (pls w0 xx) = r at *
    cases r with
    | ok nx w' =>
      cases nx <;> simp only [looseUpon] at h3 <;> simp only [Oper.upon]
      case value u => exact hK' _ _ (by rw [hS]; exact h3)
      case skip => exact hK' _ _ (by rw [hS]; exact h3)
      case enter f args =>
        obtain ⟨rfl, hc⟩ := h3
        exact hc.mono fun e w'' ⟨u, he, hg⟩ => by subst he; exact hK' _ _ (by rw [hS]; exact hg)
    | halt x w' => simp only [looseUpon] at h3
  | any fr R =>
    rw [hS] at h1
    obtain ⟨h2, h3⟩ := h1
    rw [if_pos (by rw [← hwa]; exact h2)]
    refine .inl ?_
    unfold Oper.wp
    rw [hex] at h3
    generalize (execOp a.eval o).run P (pls w0 xx) = r at *
    cases r with
    | ok nx w' =>
      cases nx <;> simp only [looseUpon] at h3 <;> simp only [Oper.upon]
      case value u => exact hK' _ _ (by rw [hS]; exact h3)
      case skip => exact hK' _ _ (by rw [hS]; exact h3)
      case enter f args =>
        obtain ⟨rfl, hc⟩ := h3
        exact hc.mono fun e w'' ⟨u, he, hg⟩ => by subst he; exact hK' _ _ (by rw [hS]; exact hg)
    | halt x w' => simp only [looseUpon] at h3
theorem Real.all_done {a0 a : Act} {w0 w : World} {S : Nat → Kind} {Fin : Act → World → Prop} (hF : FinObl ops n a0 w0 S Fin) {listed : Array Bool} {vals : Nat → Value}
    (hr : Real ops n a0 w0 S listed vals a w) (hd : ∀ i, i < n → listed.getD i false = true) : Fin a w := by
  obtain ⟨xx, rfl⟩ := plus_of_below hr.ext
  have hact : a = over a0 (fill ops n (fun j => decide (j < n)) vals) := by
    rw [hr.act]
    congr 1
    funext t
    unfold fill
    cases hs : slotOf ops n t with
    | none => rfl
    | some j =>
      have hjn := (slotOf_some hs).1
      simp only [Option.bind_some, hd j hjn, hjn, decide_true]
  rw [hact]
  refine hF vals (fun j hj => ?_) xx (fun j fr R hj hS => ?_) (fun i j R R' hi hj hSi hSj hne => hr.dis i j R R' hi hj (hd i hi) (hd j hj) hSi hSj hne)
  · have := hr.val j hj (hd j hj)
    cases hS : S j <;> rw [hS] at this <;> first | exact this | trivial
  · have := hr.val j hj (hd j hj)
    rw [hS] at this
    exact this.1
/-- An operation of the head that is not done: then some operation of the head may come up. -/
theorem ready_of_undone (hB : looseB ops n = true) {listed : Array Bool} (hsz : listed.size = ops.size) : ∀ i, i < n → listed.getD i false = false → ∃ j, j ≤ i ∧ j ∈ Region.ready .any ops listed := by
  intro i
  induction i using Nat.strongRecOn with
  | _ i ih =>
    intro hi hun
    obtain ⟨_, hn, hall⟩ := looseB_spec hB
    obtain ⟨o, ho, hlt, _⟩ := hall i hi
    by_cases h : ∃ e ∈ o.after, Region.binds .any e = true ∧ listed.getD e.on false = false
    · obtain ⟨e, he, hb, hf⟩ := h
      obtain ⟨j, hj, hr⟩ := ih e.on (hlt e he hb) (by have := hlt e he hb; omega) hf
      exact ⟨j, by have := hlt e he hb; omega, hr⟩
    · refine ⟨i, Nat.le_refl _, mem_ready.2 ⟨getD_in (by omega) hun, o, ho, fun e he hb => ?_⟩⟩
      cases hl : listed.getD e.on false with
      | true => rfl
      | false => exact absurd ⟨e, he, hb, hl⟩ h
end
section
variable {P : Program}
/-- **A REGION THAT DRAWS ITS ORDER, WALKED ONCE IN THE TEXT's ORDER.** -/
theorem wp_region_loose {id : Nat} {Q : Exit → Act → World → Prop} {a : Act} {w : World} {l : List Oper} (hm : P.follows .mixedOrders = true) (hB : looseB l.toArray l.length = true)
    (h : wpLoose P l.toArray w (fun a' w' => Q .normal a' w') l 0 [] a) : (Code.region id l.toArray true).wp P Q a w := by
  obtain ⟨S, hO, hF⟩ := loose_spec (n := l.length) (a0 := a) hB l 0 [] a (fun _ => .skip) (fun j hj => by simp) (by simp)
    ⟨fun vals _ => by
      show a = _
      have : fill l.toArray l.length (fun j => decide (j < 0)) vals = fun _ => none := by funext t; unfold fill; cases slotOf l.toArray l.length t <;> rfl
      rw [this, over_none], (fun p hp => by cases hp), fun j fr R hj => by omega⟩ (fun i hi => by omega) h
  refine wp_region_any hm ?_
  have key : ∀ (f : Nat) (listed : Array Bool) (vals : Nat → Value) (a' : Act) (w' : World), Real l.toArray l.length a w S listed vals a' w' →
      ((List.range l.length).filter fun i => !listed.getD i false).length ≤ f → wpAny P .any l.toArray Q f listed a' w' := by
    intro f
    induction f with
    | zero =>
      intro listed vals a' w' hr hf
      have hnil := List.eq_nil_of_length_eq_zero (Nat.le_zero.1 hf)
      have hd : ∀ i, i < l.length → listed.getD i false = true := fun i hi => by
        cases hl : listed.getD i false with
        | true => rfl
        | false =>
          have : i ∈ (List.range l.length).filter fun i => !listed.getD i false := List.mem_filter.2 ⟨List.mem_range.2 hi, by rw [hl]; rfl⟩
          rw [hnil] at this; cases this
      refine ⟨?_, hr.all_done hF hd⟩
      cases hrd : Region.ready .any l.toArray listed with
      | nil => rfl
      | cons i r =>
        have hi : i ∈ Region.ready .any l.toArray listed := by rw [hrd]; exact List.mem_cons_self
        obtain ⟨hun, o, ho, _⟩ := mem_ready.1 hi
        have hlt : i < l.length := by have := (Array.getElem?_eq_some_iff.1 ho).1; simpa using this
        have := hd i hlt
        rw [getD_both hun] at this; cases this
    | succ f ih =>
      intro listed vals a' w' hr hf
      refine ⟨fun hnil => hr.all_done hF fun i hi => ?_, fun i hi => ?_⟩
      · cases hl : listed.getD i false with
        | true => rfl
        | false =>
          obtain ⟨j, _, hj⟩ := ready_of_undone hB hr.head.size i hi hl
          rw [hnil] at hj; cases hj
      · obtain ⟨hun, o, ho, _⟩ := mem_ready.1 hi
        have hlt : i < l.length := by have := (Array.getElem?_eq_some_iff.1 ho).1; simpa using this
        refine hr.op hB hO hlt hi fun u w'' hr' => ih _ _ _ _ hr' ?_
        have hisz : i < listed.size := by rw [hr.head.size]; simpa using hlt
        have hnew : ∀ j, (!(listed.setIfInBounds i true).getD j false) = (!listed.getD j false && (j != i)) := fun j => by
          by_cases hji : j = i
          · subst hji; simp [hisz]
          · rw [getD_set_ne false (Ne.symm hji)]; simp [hji]
        have hfun : (fun j => !(listed.setIfInBounds i true).getD j false) = fun j => (!listed.getD j false) && (j != i) := funext hnew
        rw [hfun, ← List.filter_filter]
        have hmem : i ∈ (List.range l.length).filter fun i => !listed.getD i false := List.mem_filter.2 ⟨List.mem_range.2 hlt, by rw [getD_both hun]; rfl⟩
        have hlen : (List.filter (fun x => !listed.getD x false) (List.filter (fun x => x != i) (List.range l.length))).length < ((List.range l.length).filter fun i => !listed.getD i false).length := by
          rw [List.filter_filter, show (fun x => (!listed.getD x false) && (x != i)) = fun x => (x != i) && (!listed.getD x false) from funext fun x => Bool.and_comm _ _, ← List.filter_filter]
          exact List.length_filter_lt_length_iff_exists.2 ⟨i, hmem, by simp⟩
        omega
  exact key _ _ (fun _ => undef) _ _ ⟨⟨by simp, fun j oj _ hl => (by rw [getD_replicate_false] at hl; cases hl), fun t ht ht' => by simp at ht'; omega⟩, by
      have : fill l.toArray l.length (fun j => (Array.replicate l.toArray.size false).getD j false) (fun _ => undef) = fun _ => none := by
        funext t; unfold fill
        cases slotOf l.toArray l.length t with
        | none => rfl
        | some j => simp only [Option.bind_some, getD_replicate_false]; rfl
      rw [this, over_none],
    ⟨rfl, rfl, rfl, Nat.le_refl _, fun _ _ => rfl⟩, fun j _ hl => (by rw [getD_replicate_false] at hl; cases hl), fun i j _ _ _ _ hl => (by rw [getD_replicate_false] at hl; cases hl)⟩
    (by have := List.length_filter_le (fun i => !(Array.replicate l.toArray.size false).getD i false) (List.range l.length); simpa using this)
end
/- ===== the same, with a tail in one forced order ===== -/
theorem wpAny_fuel {P : Program} {md : Region.Mode} {ops : Array Oper} {Q : Exit → Act → World → Prop} : ∀ (f : Nat) (listed : Array Bool) (a : Act) (w : World), wpAny P md ops Q f listed a w → wpAny P md ops Q (f + 1) listed a w
  | 0, _, _, _, h => ⟨fun _ => h.2, fun i hi => by rw [h.1] at hi; cases hi⟩
  | f + 1, _, _, _, h => ⟨h.1, fun i hi => wpOp_mono (fun a w h' => wpAny_fuel f _ a w h') (h.2 i hi)⟩
def listedTo (n m : Nat) : Array Bool := (List.replicate n true ++ List.replicate (m - n) false).toArray
def tailB (ops : Array Oper) (n : Nat) : Bool :=
  decide (n < ops.size) && Region.sinkB .any ops n && Region.chainB .any ops n && Region.seqB .any ops (ops.size - n) n (listedTo n ops.size)
theorem listedTo_eq {n m : Nat} {listed : Array Bool} (hn : n ≤ m) (hs : listed.size = m) (h1 : ∀ i, i < n → listed.getD i false = true) (h2 : ∀ t, n ≤ t → t < m → listed.getD t true = false) : listed = listedTo n m := by
  apply Array.ext_getElem?
  intro i
  unfold listedTo
  rw [show (List.replicate n true ++ List.replicate (m - n) false).toArray[i]? = (List.replicate n true ++ List.replicate (m - n) false)[i]? from by simp]
  by_cases hi : i < n
  · rw [List.getElem?_append_left (by simpa using hi), List.getElem?_replicate, if_pos hi]
    have := h1 i hi
    have hlt : i < listed.size := by omega
    simp [hlt] at this ⊢
    exact this
  · rw [List.getElem?_append_right (by simpa using Nat.le_of_not_lt hi), List.length_replicate, List.getElem?_replicate]
    by_cases him : i < m
    · rw [if_pos (by omega)]
      have := h2 i (by omega) him
      have hlt : i < listed.size := by omega
      simp [hlt] at this ⊢
      exact this
    · rw [if_neg (by omega), Array.getElem?_eq_none (by omega)]
section
variable {P : Program}
theorem wp_region_loose_tail {id : Nat} {Q : Exit → Act → World → Prop} {a : Act} {w : World} {l : List Oper} (n : Nat) (hm : P.follows .mixedOrders = true) (hB : looseB l.toArray n = true) (hT : tailB l.toArray n = true)
    (h : wpLoose P l.toArray w (fun a' w' => wpList P l.toArray Q (l.drop n) a' w') (l.take n) 0 [] a) : (Code.region id l.toArray true).wp P Q a w := by
  unfold tailB at hT
  simp only [Bool.and_eq_true, decide_eq_true_eq] at hT
  obtain ⟨⟨⟨hn, hsink⟩, hchain⟩, hseq⟩ := hT
  have hnl : n < l.length := by simpa using hn
  have htl : (l.take n).length = n := by simp; omega
  have hdl : (l.drop n).length = l.toArray.size - n := by simp
  obtain ⟨S, hO, hF⟩ := loose_spec (n := n) (a0 := a) hB (l.take n) 0 [] a (fun _ => .skip) (fun j hj => by rw [htl] at hj; simp [hj]) (by simpa using htl)
    ⟨fun vals _ => by
      show a = _
      have : fill l.toArray n (fun j => decide (j < 0)) vals = fun _ => none := by funext t; unfold fill; cases slotOf l.toArray n t <;> rfl
      rw [this, over_none], (fun p hp => by cases hp), fun j fr R hj => by omega⟩ (fun i hi => by omega) h
  refine wp_region_any hm ?_
  have key : ∀ (f : Nat) (listed : Array Bool) (vals : Nat → Value) (a' : Act) (w' : World), Real l.toArray n a w S listed vals a' w' →
      ((List.range n).filter fun i => !listed.getD i false).length ≤ f → wpAny P .any l.toArray Q (f + (l.toArray.size - n)) listed a' w' := by
    intro f
    have fin : ∀ (listed : Array Bool) (vals : Nat → Value) (a' : Act) (w' : World), Real l.toArray n a w S listed vals a' w' → (∀ i, i < n → listed.getD i false = true) →
        wpAny P .any l.toArray Q (l.toArray.size - n) listed a' w' := fun listed vals a' w' hr hd => by
      have hl := listedTo_eq (Nat.le_of_lt hn) hr.head.size hd hr.head.tail
      have := wpAny_of_seq (P := P) (md := .any) (Q' := Q) (l.drop n) n listed a' w' (fun j => by simp [List.getElem?_drop]) (by rw [hdl, hl]; exact hseq) (hr.all_done hF hd)
      rwa [hdl] at this
    induction f with
    | zero =>
      intro listed vals a' w' hr hf
      have hnil := List.eq_nil_of_length_eq_zero (Nat.le_zero.1 hf)
      rw [Nat.zero_add]
      refine fin listed vals a' w' hr fun i hi => ?_
      cases hl : listed.getD i false with
      | true => rfl
      | false =>
        have : i ∈ (List.range n).filter fun i => !listed.getD i false := List.mem_filter.2 ⟨List.mem_range.2 hi, by rw [hl]; rfl⟩
        rw [hnil] at this; cases this
    | succ f ih =>
      intro listed vals a' w' hr hf
      by_cases hd : ∀ i, i < n → listed.getD i false = true
      · have h0 := ih listed vals a' w' hr (by
          have : ((List.range n).filter fun i => !listed.getD i false) = [] := by
            rw [List.filter_eq_nil_iff]
            intro i hi
            rw [hd i (List.mem_range.1 hi)]; simp
          rw [this]; simp)
        rw [show f + 1 + (l.toArray.size - n) = f + (l.toArray.size - n) + 1 by omega]
        exact wpAny_fuel _ _ _ _ h0
      · have ⟨i0, hi0, hun0⟩ : ∃ i, i < n ∧ listed.getD i false = false := by
          refine Classical.byContradiction fun hno => hd fun i hi => ?_
          cases hl : listed.getD i false with
          | true => rfl
          | false => exact absurd ⟨i, hi, hl⟩ hno
        rw [show f + 1 + (l.toArray.size - n) = (f + (l.toArray.size - n)) + 1 by omega]
        refine ⟨fun hnil => ?_, fun i hi => ?_⟩
        · obtain ⟨j, _, hj⟩ := ready_of_undone hB hr.head.size i0 hi0 hun0
          rw [hnil] at hj; cases hj
        · obtain ⟨hun, o, ho, _⟩ := mem_ready.1 hi
          have hlt : i < n := by
            rcases Nat.lt_or_ge i n with h' | h'
            · exact h'
            · exact absurd hi (tail_waits hsink hchain hn hr.head _ i0 rfl hi0 (getD_in (by rw [hr.head.size]; simp; omega) hun0) i h')
          refine hr.op hB hO hlt hi fun u w'' hr' => ih _ _ _ _ hr' ?_
          have hisz : i < listed.size := by rw [hr.head.size]; simp; omega
          have hnew : ∀ j, (!(listed.setIfInBounds i true).getD j false) = (!listed.getD j false && (j != i)) := fun j => by
            by_cases hji : j = i
            · subst hji; simp [hisz]
            · rw [getD_set_ne false (Ne.symm hji)]; simp [hji]
          have hfun : (fun j => !(listed.setIfInBounds i true).getD j false) = fun j => (!listed.getD j false) && (j != i) := funext hnew
          rw [hfun, ← List.filter_filter]
          have hmem : i ∈ (List.range n).filter fun i => !listed.getD i false := List.mem_filter.2 ⟨List.mem_range.2 hlt, by rw [getD_both hun]; rfl⟩
          have hlen : (List.filter (fun x => !listed.getD x false) (List.filter (fun x => x != i) (List.range n))).length < ((List.range n).filter fun i => !listed.getD i false).length := by
            rw [List.filter_filter, show (fun x => (!listed.getD x false) && (x != i)) = fun x => (x != i) && (!listed.getD x false) from funext fun x => Bool.and_comm _ _, ← List.filter_filter]
            exact List.length_filter_lt_length_iff_exists.2 ⟨i, hmem, by simp⟩
          omega
  have := key n _ (fun _ => undef) _ _ (⟨⟨by simp, fun j oj _ hl => (by rw [getD_replicate_false] at hl; cases hl), fun t ht ht' => getD_in (by simpa using ht') (getD_replicate_false _ _)⟩, by
      have : fill l.toArray n (fun j => (Array.replicate l.toArray.size false).getD j false) (fun _ => undef) = fun _ => none := by
        funext t; unfold fill
        cases slotOf l.toArray n t with
        | none => rfl
        | some j => simp only [Option.bind_some, getD_replicate_false]; rfl
      rw [this, over_none],
    ⟨rfl, rfl, rfl, Nat.le_refl _, fun _ _ => rfl⟩, fun j _ hl => (by rw [getD_replicate_false] at hl; cases hl), fun i j _ _ _ _ hl => (by rw [getD_replicate_false] at hl; cases hl)⟩ :
      Real l.toArray n a w S (Array.replicate l.toArray.size false) (fun _ => undef) a { w with drawn := w.drawn + 1 })
    (by have := List.length_filter_le (fun i => !(Array.replicate l.toArray.size false).getD i false) (List.range n); simpa using this)
  rw [show n + (l.toArray.size - n) = l.toArray.size by simp; omega] at this
  exact this
end
/- ===== one operation of the walk ===== -/
def noLook (o : Oper) (ops : Array Oper) (ks : List Kn) : Bool :=
  (match o.op with | .select .. => false | _ => true) && ks.all fun p => !looks o ops p.dst
theorem putK_exec {o : Oper} {ops : Array Oper} {vals : Nat → Value} : ∀ (ks : List Kn) (a : Act), noLook o ops ks = true →
    execOp (putK ks vals a).eval o = execOp a.eval o ∧ Region.wanted o (yielded ops (putK ks vals a).tmps) = Region.wanted o (yielded ops a.tmps)
  | [], _, _ => ⟨rfl, rfl⟩
  | p :: ks, a, h => by
    unfold noLook at h
    simp only [List.all_cons, Bool.and_eq_true, Bool.not_eq_true'] at h
    obtain ⟨hs, hp, hk⟩ := h
    have ih := putK_exec (o := o) (ops := ops) (vals := vals) ks a (by unfold noLook; simp only [Bool.and_eq_true]; exact ⟨hs, hk⟩)
    have hno : ∀ d, p.dst = some d → d ∉ o.looksAt ops := fun d hd hm => by
      unfold looks at hp
      rw [hd] at hp
      have hc : (o.looksAt ops).contains d = true := by simpa using hm
      have hp' : (o.looksAt ops).contains d = false := hp
      rw [hc] at hp'; cases hp'
    have hsel : ∀ cs b, o.op ≠ .select cs b := fun cs b e => by rw [e] at hs; cases hs
    show execOp ((putK ks vals a).put p.dst (vals p.ix)).eval o = _ ∧ _
    exact ⟨(execOp_put o hsel _ _ _ hno).trans ih.1, (wanted_put o _ _ _ hno).trans ih.2⟩
section
variable {P : Program} {ops : Array Oper} {w0 : World} {Fin : Act → World → Prop} {o : Oper} {rest : List Oper} {k : Nat} {ks : List Kn} {a : Act}
theorem loose_skip (hs : noLook o ops ks = true) (hw : Region.wanted o (yielded ops a.tmps) = false) (h : wpLoose P ops w0 Fin rest (k + 1) ks (a.put o.dst undef)) : wpLoose P ops w0 Fin (o :: rest) k ks a :=
  ⟨.skip, trivial, fun _ _ _ => (putK_exec ks a hs).2.trans hw, h⟩
/-- An operation that yields a value and calls nothing. -/
def tame : Op → Bool
  | .move _ | .assign _ | .pick .. | .build .. | .load .. | .binOp .. | .unOp .. | .convert .. | .makeInterface .. | .slice .. | .fieldAddr .. | .field .. | .indexAddr .. | .index .. | .lookup .. | .extract .. => true
  | _ => false
theorem tame_no_enter {o : Oper} (ht : tame o.op = true) (ρ : Operand → Value) {w w' : World} {f : FuncId} {args : Array Value} : (execOp ρ o).run P w ≠ .ok (.enter f args) w' := by
  unfold execOp
  have key : ∀ (s : Sem Value), (do pure (Next.value (← s)) : Sem Next).run P w ≠ .ok (.enter f args) w' := fun s h => by
    simp only [Sem.run_bind] at h
    cases hs : s.run P w with
    | ok x w1 => rw [hs] at h; simp at h
    | halt x w1 => rw [hs] at h; simp at h
  cases hop : o.op <;> rw [hop] at ht <;> first | (cases ht; done) | skip
  all_goals first
    | exact key _
    | (intro h; simp at h; done)
    | (intro h; simp only [Sem.run_bind] at h; revert h; generalize Sem.run P _ w = r; cases r <;> intro h <;> simp at h)
theorem loose_quiet (hs : noLook o ops ks = true) (hw : Region.wanted o (yielded ops a.tmps) = true) (ht : tame o.op = true)
    (h : ∀ K : Act → Prop, (∀ a', wpLoose P ops w0 Fin rest (k + 1) ks a' → K a') → o.quiet P a (fun w' => ∃ xx : Ex, w' = pls w0 xx) K) : wpLoose P ops w0 Fin (o :: rest) k ks a := by
  obtain ⟨v, h1, h2⟩ := h _ (fun _ h => h)
  refine ⟨.det v, trivial, fun vals xx _ => ?_, h2⟩
  obtain ⟨e1, e2⟩ := putK_exec (vals := vals) ks a hs
  refine ⟨e2.trans hw, ?_⟩
  rw [e1]
  have h3 := h1 _ ⟨xx, rfl⟩
  have hne := fun f args w' => tame_no_enter (P := P) (o := o) ht a.eval (w := pls w0 xx) (w' := w') (f := f) (args := args)
  unfold Oper.quietAt at h3
  generalize (execOp a.eval o).run P (pls w0 xx) = r at *
  cases r with
  | ok n w' =>
    cases n <;> simp only [Oper.quietUpon] at h3 <;> simp only [looseUpon]
    case value u => obtain ⟨rfl, rfl⟩ := h3; exact ⟨rfl, Below.refl _ _⟩
    case skip => obtain ⟨rfl, rfl⟩ := h3; exact ⟨rfl, Below.refl _ _⟩
    case enter f args => exact absurd rfl (hne f args w')
  | halt x w' => simp only [Oper.quietUpon] at h3
/-- A call, or whatever else, with one value: what is known of the operands is at hand. -/
theorem loose_det (v : Value) (h1 : ∀ (vals : Nat → Value) (xx : Ex), (∀ p ∈ ks, looks o ops p.dst = true → p.R (vals p.ix) (pls w0 xx)) → looseOp P ops (.det v) o (putK ks vals a) (pls w0 xx))
    (h2 : wpLoose P ops w0 Fin rest (k + 1) ks (a.put o.dst v)) : wpLoose P ops w0 Fin (o :: rest) k ks a := ⟨.det v, trivial, h1, h2⟩
/-- .. with a property. -/
theorem loose_any (fr : Bool) (R : Value → World → Prop) (hst : ∀ v w w', R v w → Below w.heap.size w w' → R v w')
    (h1 : ∀ (vals : Nat → Value) (xx : Ex), (∀ p ∈ ks, looks o ops p.dst = true → p.R (vals p.ix) (pls w0 xx)) → looseOp P ops (.any fr R) o (putK ks vals a) (pls w0 xx))
    (h2 : wpLoose P ops w0 Fin rest (k + 1) (⟨k, o.dst, fr, R⟩ :: ks) a) : wpLoose P ops w0 Fin (o :: rest) k ks a := ⟨.any fr R, hst, h1, h2⟩
/-- A call of a Go function with one value, none of whose operands is known by a property alone. -/
theorem loose_call (f : FuncId) (args : Array Value) (v : Value) (hs : noLook o ops ks = true) (hw : Region.wanted o (yielded ops a.tmps) = true)
    (hrun : ∀ w, (execOp a.eval o).run P w = .ok (.enter f args) w)
    (h1 : ∀ w', Below w0.heap.size w0 w' → Calls P f args w' fun e w'' => e = .returned v ∧ Below w'.heap.size w' w'')
    (h2 : wpLoose P ops w0 Fin rest (k + 1) ks (a.put o.dst v)) : wpLoose P ops w0 Fin (o :: rest) k ks a :=
  loose_det v (fun vals xx _ => by
    obtain ⟨e1, e2⟩ := putK_exec (vals := vals) ks a hs
    refine ⟨e2.trans hw, ?_⟩
    rw [e1, hrun]
    exact ⟨rfl, (h1 _ below_plus).mono fun e w'' ⟨he, hb⟩ => ⟨v, he, rfl, hb⟩⟩) h2
/-- A call with a property. -/
theorem loose_call_any (f : FuncId) (args : Array Value) (R : Value → World → Prop) (hs : noLook o ops ks = true) (hw : Region.wanted o (yielded ops a.tmps) = true)
    (hst : ∀ v w w', R v w → Below w.heap.size w w' → R v w')
    (hrun : ∀ w, (execOp a.eval o).run P w = .ok (.enter f args) w)
    (h1 : ∀ w', Below w0.heap.size w0 w' → Calls P f args w' fun e w'' => ∃ u, e = .returned u ∧ R u w'' ∧ Below w'.heap.size w' w'')
    (h2 : wpLoose P ops w0 Fin rest (k + 1) (⟨k, o.dst, false, R⟩ :: ks) a) : wpLoose P ops w0 Fin (o :: rest) k ks a :=
  loose_any false R hst (fun vals xx _ => by
    obtain ⟨e1, e2⟩ := putK_exec (vals := vals) ks a hs
    refine ⟨e2.trans hw, ?_⟩
    rw [e1, hrun]
    exact ⟨rfl, (h1 _ below_plus).mono fun e w'' ⟨u, he, hR, hb⟩ => ⟨u, he, hR, hb, fun hf => by cases hf⟩⟩) h2
/-- New memory: a variable. -/
def IsNew (B : Nat) (T : TypeId) (cs : Array Value) (mk : Nat → Value) : Value → World → Prop := fun v w => ∃ g, v = mk g ∧ B ≤ g ∧ g < w.heap.size ∧ w.heap[g]? = some (.cells cs T (0, 0))
theorem isNew_stable (B : Nat) (T : TypeId) (cs : Array Value) (mk : Nat → Value) : ∀ v w w', IsNew B T cs mk v w → Below w.heap.size w w' → IsNew B T cs mk v w' := by
  rintro v w w' ⟨g, h1, h2, h3, h4⟩ hb
  exact ⟨g, h1, h2, Nat.lt_of_lt_of_le h3 hb.size, (hb.block g h3).trans h4⟩
theorem loose_new (T : TypeId) (cs : Array Value) (mk : Nat → Value) (hmk : ∀ g, blk (mk g) = some g) (hs : noLook o ops ks = true) (hw : Region.wanted o (yielded ops a.tmps) = true)
    (hrun : ∀ w, (execOp a.eval o).run P w = .ok (.value (mk w.heap.size)) (w.alloc (.cells cs T)))
    (h2 : wpLoose P ops w0 Fin rest (k + 1) (⟨k, o.dst, true, IsNew w0.heap.size T cs mk⟩ :: ks) a) : wpLoose P ops w0 Fin (o :: rest) k ks a :=
  loose_any true _ (isNew_stable _ _ _ _) (fun vals xx _ => by
    obtain ⟨e1, e2⟩ := putK_exec (vals := vals) ks a hs
    refine ⟨e2.trans hw, ?_⟩
    rw [e1, hrun]
    refine ⟨⟨_, rfl, by rw [size_plus]; omega, by simp, heap_alloc_new _ _⟩, (Below.refl _ _).alloc (Nat.le_refl _) _, fun _ => ⟨_, hmk _, Nat.le_refl _, by simp⟩⟩) h2
/-- At the head's end. -/
theorem loose_nil (h : ∀ (vals : Nat → Value) (xx : Ex), (∀ p ∈ ks, p.R (vals p.ix) (pls w0 xx)) → Apart ks vals → Fin (putK ks vals a) (pls w0 xx)) : wpLoose P ops w0 Fin [] k ks a := h
theorem loose_nil' (h : ∀ w', Below w0.heap.size w0 w' → Fin a w') : wpLoose P ops w0 Fin [] k [] a := fun _ _ _ _ => h _ below_plus
end
section
variable {P : Program} {ops : Array Oper} {w0 : World} {Fin : Act → World → Prop} {o : Oper} {rest : List Oper} {k : Nat} {ks : List Kn} {a : Act}
/-- A call that leaves the world alone. -/
theorem loose_callp (f : FuncId) (args : Array Value) (v : Value) (hs : noLook o ops ks = true) (hw : Region.wanted o (yielded ops a.tmps) = true)
    (hrun : ∀ w, (execOp a.eval o).run P w = .ok (.enter f args) w)
    (h1 : ∀ w', Calls P f args w' fun e w'' => e = .returned v ∧ w' = w'')
    (h2 : wpLoose P ops w0 Fin rest (k + 1) ks (a.put o.dst v)) : wpLoose P ops w0 Fin (o :: rest) k ks a :=
  loose_call f args v hs hw hrun (fun w' _ => (h1 w').mono fun e w'' ⟨he, hw⟩ => ⟨he, by rw [← hw]; exact Below.refl _ _⟩) h2
end
/-- The world under a name that later worlds bear too. -/
theorem plus_self (w : World) : ∃ xx : Ex, pls w xx = w := ⟨⟨#[], w.drawn⟩, by simp [pls]⟩
theorem wp_plus {P : Program} {c : Code} {Q : Exit → Act → World → Prop} {a : Act} {w : World} (h : ∀ xx : Ex, c.wp P Q a (pls w xx)) : c.wp P Q a w := by
  obtain ⟨xx, e⟩ := plus_self w
  have := h xx
  rwa [e] at this
/- ===== a result in memory, stored last ===== -/
theorem ret_row2 {P : Program} {fn : Func} {R : Ending → World → Prop} {p : Tmp} {ty : TypeId} {d : TypeDesc} (h : fn.results = #[.cell p ty]) {tmps : Array Value} {w : World} {g : Nat} {a b x y : Value}
    (hb : Blk w g ty #[a, b]) (hp : tmps.getD p undef = .pointer (some ⟨g, 0, none⟩)) (hu : P.underlying ty = some d) (hd : (match d with | .struct _ | .array _ _ => true | _ => false) = true) (hi : (P.info? ty).map (·.size) = some 2)
    (hR : ∀ W, Turned g w W → R (.returned (.agg #[x, y])) W) : bodyPost P fn R .ret ⟨tmps, []⟩ ((w.setCell ⟨g, 0, none⟩ x).setCell ⟨g, 1, none⟩ y) := by
  obtain ⟨W, e, hb, t⟩ := set_row2 hb x y
  rw [e]
  exact bodyPost_ret (results_cell_row h _ _ g ty _ (0, 0) _ hp hb hu hd hi) rfl (hR _ t)
theorem ret_row3 {P : Program} {fn : Func} {R : Ending → World → Prop} {p : Tmp} {ty : TypeId} {d : TypeDesc} (h : fn.results = #[.cell p ty]) {tmps : Array Value} {w : World} {g : Nat} {a b c x y z : Value}
    (hb : Blk w g ty #[a, b, c]) (hp : tmps.getD p undef = .pointer (some ⟨g, 0, none⟩)) (hu : P.underlying ty = some d) (hd : (match d with | .struct _ | .array _ _ => true | _ => false) = true) (hi : (P.info? ty).map (·.size) = some 3)
    (hR : ∀ W, Turned g w W → R (.returned (.agg #[x, y, z])) W) : bodyPost P fn R .ret ⟨tmps, []⟩ (((w.setCell ⟨g, 0, none⟩ x).setCell ⟨g, 1, none⟩ y).setCell ⟨g, 2, none⟩ z) := by
  obtain ⟨W, e, hb, t⟩ := set_row3 hb x y z
  rw [e]
  exact bodyPost_ret (results_cell_row h _ _ g ty _ (0, 0) _ hp hb hu hd hi) rfl (hR _ t)
theorem results_cell_row_tmp {P : Program} {fn : Func} {p u : Tmp} {ty : TypeId} (h : fn.results = #[.cell p ty, .tmp u]) (tmps : Array Value) (w : World) (g : Nat) (t : TypeId) (cs : Array Value) (fr : Nat × Nat) (d : TypeDesc)
    (hp : tmps.getD p undef = .pointer (some ⟨g, 0, none⟩)) (hg : w.heap[g]? = some (.cells cs t fr))
    (hu : P.underlying ty = some d) (hd : (match d with | .struct _ | .array _ _ => true | _ => false) = true) (hi : (P.info? ty).map (·.size) = some cs.size) :
    (results fn tmps).run P w = .ok (.tuple #[.agg cs, tmps.getD u undef]) w := by
  have hp' : tmps[p]?.getD undef = .pointer (some ⟨g, 0, none⟩) := by simpa using hp
  simp [results, h, hp', asAddr, run_loadVar_row w g t ty cs fr d hg hu hd hi]
theorem ret_row2_tmp {P : Program} {fn : Func} {R : Ending → World → Prop} {p u : Tmp} {ty : TypeId} {d : TypeDesc} (h : fn.results = #[.cell p ty, .tmp u]) {tmps : Array Value} {w : World} {g : Nat} {a b x y v : Value}
    (hb : Blk w g ty #[a, b]) (hp : tmps.getD p undef = .pointer (some ⟨g, 0, none⟩)) (hv : tmps.getD u undef = v) (hu : P.underlying ty = some d) (hd : (match d with | .struct _ | .array _ _ => true | _ => false) = true) (hi : (P.info? ty).map (·.size) = some 2)
    (hR : ∀ W, Turned g w W → R (.returned (.tuple #[.agg #[x, y], v])) W) : bodyPost P fn R .ret ⟨tmps, []⟩ ((w.setCell ⟨g, 0, none⟩ x).setCell ⟨g, 1, none⟩ y) := by
  obtain ⟨W, e, hb, t⟩ := set_row2 hb x y
  rw [e]
  have := hR _ t
  rw [← hv] at this
  exact bodyPost_ret (results_cell_row_tmp h _ _ g ty _ (0, 0) _ hp hb hu hd hi) rfl this
theorem ret_row3_tmp {P : Program} {fn : Func} {R : Ending → World → Prop} {p u : Tmp} {ty : TypeId} {d : TypeDesc} (h : fn.results = #[.cell p ty, .tmp u]) {tmps : Array Value} {w : World} {g : Nat} {a b c x y z v : Value}
    (hb : Blk w g ty #[a, b, c]) (hp : tmps.getD p undef = .pointer (some ⟨g, 0, none⟩)) (hv : tmps.getD u undef = v) (hu : P.underlying ty = some d) (hd : (match d with | .struct _ | .array _ _ => true | _ => false) = true) (hi : (P.info? ty).map (·.size) = some 3)
    (hR : ∀ W, Turned g w W → R (.returned (.tuple #[.agg #[x, y, z], v])) W) : bodyPost P fn R .ret ⟨tmps, []⟩ (((w.setCell ⟨g, 0, none⟩ x).setCell ⟨g, 1, none⟩ y).setCell ⟨g, 2, none⟩ z) := by
  obtain ⟨W, e, hb, t⟩ := set_row3 hb x y z
  rw [e]
  have := hR _ t
  rw [← hv] at this
  exact bodyPost_ret (results_cell_row_tmp h _ _ g ty _ (0, 0) _ hp hb hu hd hi) rfl this
theorem calm_of {P : Program} {f : FuncId} {args : Array Value} {W w : World} {v : Value} (hS : Below W.heap.size W w)
    (h : Calls P f args w fun e w' => e = .returned v ∧ Below w.heap.size w w') :
    Calls P f args w fun e w'' => e = .returned v ∧ ∃ x2 : Ex, w'' = pls W x2 :=
  h.mono fun _ _ ⟨he, hb⟩ => ⟨he, plus_of_below (hS.trans (hb.mono hS.size))⟩
theorem calm_same_of {P : Program} {f : FuncId} {args : Array Value} {W w : World} {v : Value} (hS : Below W.heap.size W w)
    (h : Calls P f args w fun e w' => e = .returned v ∧ w = w') :
    Calls P f args w fun e w'' => e = .returned v ∧ ∃ x2 : Ex, w'' = pls W x2 :=
  h.mono fun _ _ ⟨he, hb⟩ => ⟨he, plus_of_below (by rw [← hb]; exact hS)⟩
section
variable {P : Program} {ops : Array Oper} {w0 : World} {Fin : Act → World → Prop} {o : Oper} {rest : List Oper} {k : Nat} {ks : List Kn} {a : Act}
/-- A call, some of whose operands are known by a property; one value. -/
theorem loose_call_known (f : FuncId) (args : (Nat → Value) → Array Value) (v : Value) (hw : ∀ vals : Nat → Value, Region.wanted o (yielded ops (putK ks vals a).tmps) = true)
    (hrun : ∀ (vals : Nat → Value) w, (execOp (putK ks vals a).eval o).run P w = .ok (.enter f (args vals)) w)
    (h1 : ∀ (vals : Nat → Value) w', Below w0.heap.size w0 w' → (∀ p ∈ ks, looks o ops p.dst = true → p.R (vals p.ix) w') → Calls P f (args vals) w' fun e w'' => e = .returned v ∧ Below w'.heap.size w' w'')
    (h2 : wpLoose P ops w0 Fin rest (k + 1) ks (a.put o.dst v)) : wpLoose P ops w0 Fin (o :: rest) k ks a :=
  loose_det v (fun vals xx hk => by
    refine ⟨hw vals, ?_⟩
    rw [hrun]
    exact ⟨rfl, (h1 vals _ below_plus hk).mono fun e w'' ⟨he, hb⟩ => ⟨v, he, rfl, hb⟩⟩) h2
/-- .. with a property. -/
theorem loose_call_known_any (f : FuncId) (args : (Nat → Value) → Array Value) (R : Value → World → Prop) (hst : ∀ v w w', R v w → Below w.heap.size w w' → R v w') (hw : ∀ vals : Nat → Value, Region.wanted o (yielded ops (putK ks vals a).tmps) = true)
    (hrun : ∀ (vals : Nat → Value) w, (execOp (putK ks vals a).eval o).run P w = .ok (.enter f (args vals)) w)
    (h1 : ∀ (vals : Nat → Value) w', Below w0.heap.size w0 w' → (∀ p ∈ ks, looks o ops p.dst = true → p.R (vals p.ix) w') → Calls P f (args vals) w' fun e w'' => ∃ u, e = .returned u ∧ R u w'' ∧ Below w'.heap.size w' w'')
    (h2 : wpLoose P ops w0 Fin rest (k + 1) (⟨k, o.dst, false, R⟩ :: ks) a) : wpLoose P ops w0 Fin (o :: rest) k ks a :=
  loose_any false R hst (fun vals xx hk => by
    refine ⟨hw vals, ?_⟩
    rw [hrun]
    exact ⟨rfl, (h1 vals _ below_plus hk).mono fun e w'' ⟨u, he, hR, hb⟩ => ⟨u, he, hR, hb, fun hf => by cases hf⟩⟩) h2
/-- A known value handed on. -/
theorem loose_move_known (R : Value → World → Prop) (j : Nat) (hst : ∀ v w w', R v w → Below w.heap.size w w' → R v w') (hw : ∀ vals : Nat → Value, Region.wanted o (yielded ops (putK ks vals a).tmps) = true)
    (hrun : ∀ (vals : Nat → Value) w, (execOp (putK ks vals a).eval o).run P w = .ok (.value (vals j)) w)
    (hR : ∀ (vals : Nat → Value) w', (∀ p ∈ ks, looks o ops p.dst = true → p.R (vals p.ix) w') → R (vals j) w')
    (h2 : wpLoose P ops w0 Fin rest (k + 1) (⟨k, o.dst, false, R⟩ :: ks) a) : wpLoose P ops w0 Fin (o :: rest) k ks a :=
  loose_any false R hst (fun vals xx hk => by
    refine ⟨hw vals, ?_⟩
    rw [hrun]
    exact ⟨hR vals _ hk, Below.refl _ _, fun hf => by cases hf⟩) h2
end

end Go.Proofs.Ytjpnijnbfjgnfaa
