/- Plain facts: no right plan uses fewer lengths than the least number. -/
import Derived.Test.YthlpfjcjfhdmaaaZD
import Derived.Test.YthlpfjcjfhdmaaaMB
import Derived.Test.YthlpfjcjfhdmaaaYB
import Derived.Test.YthlpfjcjfhdmaaaP
set_option maxRecDepth 100000
set_option linter.unusedSimpArgs false
set_option linter.unusedVariables false
namespace Go.Proofs.Ythlpfjcjfhdmaaa
open Go.RowKit
/-- The pieces of a pattern. -/
def pcsOf : List Pc → List Int → List Int
  | p :: l, n :: ns => List.replicate n.toNat p.len ++ pcsOf l ns
  | _, _ => []
theorem sum_rep (n : Nat) (x : Int) : (List.replicate n x).sum = n * x := by
  induction n with
  | zero => simp
  | succ n ih => rw [List.replicate_succ, List.sum_cons, ih]; push_cast; rw [Int.add_mul]; omega
theorem pcs_sum : ∀ {l : List Pc} {ns : List Int}, (∀ i, i < l.length → 0 ≤ ix ns i) → ns.length = l.length → (pcsOf l ns).sum = dotL l ns
  | [], [], _, _ => rfl
  | [], _ :: _, _, h => by simp at h
  | _ :: _, [], _, h => by simp at h
  | p :: l, n :: ns, h, hl => by
    have h0 : 0 ≤ n := h 0 (by simp)
    have ih := pcs_sum (l := l) (ns := ns) (fun i hi => h (i + 1) (by simpa using hi)) (by simpa using hl)
    simp only [pcsOf, dotL, List.sum_append, ih, sum_rep]
    rw [Int.toNat_of_nonneg h0]
/-- One line's length against another one's. -/
def indL (a : Int) (l : List Pc) : List Pc := l.map fun p => ⟨if p.len = a then 1 else 0, p.cnt⟩
theorem indL_len (a : Int) (l : List Pc) : (indL a l).length = l.length := by simp [indL]
theorem count_rep (n : Nat) (x a : Int) : (((List.replicate n x).count a : Nat) : Int) = n * (if x = a then 1 else 0) := by
  rw [List.count_replicate]
  by_cases h : x = a
  · subst h; simp
  · rw [if_neg h, if_neg (by simpa using h)]; simp
theorem pcs_count (a : Int) : ∀ {l : List Pc} {ns : List Int}, (∀ i, i < l.length → 0 ≤ ix ns i) → ns.length = l.length → (((pcsOf l ns).count a : Nat) : Int) = dotL (indL a l) ns
  | [], [], _, _ => rfl
  | [], _ :: _, _, h => by simp at h
  | _ :: _, [], _, h => by simp at h
  | p :: l, n :: ns, h, hl => by
    have h0 : 0 ≤ n := h 0 (by simp)
    have ih := pcs_count a (l := l) (ns := ns) (fun i hi => h (i + 1) (by simpa using hi)) (by simpa using hl)
    simp only [pcsOf, indL, List.map_cons, dotL, List.count_append]
    have e := count_rep n.toNat p.len a
    rw [Int.toNat_of_nonneg h0] at e
    unfold indL at ih
    omega
theorem ws_count (a : Int) {l : List Pc} (hc : ∀ p ∈ l, 0 ≤ p.cnt) : (((wsO l).count a : Nat) : Int) = totL (indL a l) := by
  have key : ∀ l : List Pc, (∀ p ∈ l, 0 ≤ p.cnt) → (((l.flatMap fun p => List.replicate p.cnt.toNat p.len).count a : Nat) : Int) = ((indL a l).map fun p => p.len * p.cnt).sum := by
    intro l
    induction l with
    | nil => intro _; rfl
    | cons p l ih =>
      intro hc
      have ih := ih fun q hq => hc q (List.mem_cons_of_mem _ hq)
      have h0 := hc p List.mem_cons_self
      have e := count_rep p.cnt.toNat p.len a
      rw [Int.toNat_of_nonneg h0] at e
      simp only [List.flatMap_cons, List.count_append, indL, List.map_cons, List.sum_cons]
      unfold indL at ih
      rw [Int.mul_comm] at e
      omega
  rw [wsO_eq, key l hc]
  unfold totL totT
  rw [List.take_length]
theorem range_ind (a : Int) (l : List Pc) : ((List.range (indL a l).length).map fun i => (ix (indL a l) i).cnt) = (List.range l.length).map fun i => (ix l i).cnt := by
  rw [indL_len]
  refine List.map_congr_left fun i hi => ?_
  have hi := List.mem_range.1 hi
  rw [ix_eq (by rw [indL_len]; exact hi), ix_eq hi]
  simp [indL]
theorem sum_cast (L : List Nat) : ((L.sum : Nat) : Int) = (L.map fun (n : Nat) => (n : Int)).sum := by
  induction L with
  | nil => rfl
  | cons n L ih => simp only [List.sum_cons, List.map_cons]; omega
/-- Bars from which the order is cut, as loads of the pieces. -/
theorem bars_pack {l : List Pc} {lim : Int} {o : List Br} (hc : ∀ p ∈ l, 0 ≤ p.cnt) (hb : ∀ b ∈ o, b.ps.length = l.length ∧ (∀ i, i < l.length → 0 ≤ ix b.ps i) ∧ dotL l b.ps ≤ lim) (hs : ∀ i, i < l.length → (o.map fun b => ix b.ps i).sum = (ix l i).cnt) : Pack lim (wsO l) [] o.length := by
  refine ⟨[], o.map fun b => pcsOf l b.ps, rfl, (fun c hc => by cases hc), fun b hb2 => ?_, ?_, by simp⟩
  · obtain ⟨x, hx, rfl⟩ := List.mem_map.1 hb2
    obtain ⟨h1, h2, h3⟩ := hb x hx
    rw [pcs_sum h2 h1]; exact h3
  · simp only [List.flatMap_nil, List.nil_append]
    refine List.perm_iff_count.2 fun a => ?_
    have e1 : (((o.map fun b => pcsOf l b.ps).flatten.count a : Nat) : Int) = (o.map fun b => dotL (indL a l) b.ps).sum := by
      rw [List.count_flatten, sum_cast, List.map_map, List.map_map]
      congr 1
      refine List.map_congr_left fun b hb2 => ?_
      obtain ⟨h1, h2, _⟩ := hb b hb2
      exact pcs_count a h2 h1
    have e2 := dot_sum (l := indL a l) o fun b hb2 => by rw [indL_len]; exact (hb b hb2).1
    have e3 : ((List.range (indL a l).length).map fun i => (o.map fun b => ix b.ps i).sum) = (List.range (indL a l).length).map fun i => (ix (indL a l) i).cnt := by
      rw [range_ind, indL_len]
      exact List.map_congr_left fun i hi => hs i (List.mem_range.1 hi)
    rw [e2, e3, dot_tot, ← ws_count a hc] at e1
    omega
/-- A plan's patterns, each as often as it is cut. -/
def expB (p : List Pt) : List Br := p.flatMap fun x => List.replicate x.times.toNat ⟨x.stock, 0, x.ps⟩
theorem exp_sum (f : Br → Int) : ∀ {p : List Pt}, (∀ x ∈ p, 0 ≤ x.times) → ((expB p).map f).sum = (p.map fun x => f ⟨x.stock, 0, x.ps⟩ * x.times).sum
  | [], _ => rfl
  | x :: p, h => by
    have ih := exp_sum f (p := p) fun y hy => h y (List.mem_cons_of_mem _ hy)
    have h0 := h x List.mem_cons_self
    unfold expB at ih ⊢
    simp only [List.flatMap_cons, List.map_append, List.sum_append, List.map_replicate, List.map_cons, List.sum_cons, sum_rep, ih]
    rw [Int.toNat_of_nonneg h0, Int.mul_comm]
theorem exp_mem {p : List Pt} {b : Br} (h : b ∈ expB p) : ∃ x ∈ p, b.ps = x.ps := by
  obtain ⟨x, hx, hb⟩ := List.mem_flatMap.1 h
  exact ⟨x, hx, by rw [(List.mem_replicate.1 hb).2]⟩
theorem right_pack {l : List Pc} {lim : Int} {p : List Pt} (ho : orderB l = true) (h : rightB (lotS lim) l p = true) : ∃ n : Nat, (n : Int) = timesT p p.length ∧ Pack lim (wsO l) [] n := by
  obtain ⟨h1, h2, h3, _⟩ := right_yes.1 h
  have ht : ∀ x ∈ p, 0 ≤ x.times := fun x hx => by
    obtain ⟨k, hk, rfl⟩ := List.mem_iff_getElem.1 hx
    have := (plan_at h1 hk).2.2.1
    rw [ix_eq hk] at this
    omega
  refine ⟨(expB p).length, ?_, bars_pack (fun q hq => ?_) (fun b hb => ?_) fun i hi => ?_⟩
  · have e := exp_sum (fun _ => 1) ht
    rw [sum_one] at e
    rw [e]
    unfold timesT
    rw [List.take_length]
    congr 1
    exact List.map_congr_left fun x _ => Int.one_mul _
  · obtain ⟨k, hk, rfl⟩ := List.mem_iff_getElem.1 hq
    have := order_at ho hk
    rw [ix_eq hk] at this
    omega
  · obtain ⟨x, hx, e⟩ := exp_mem hb
    obtain ⟨k, hk, rfl⟩ := List.mem_iff_getElem.1 hx
    have hf := h2 k hk
    obtain ⟨f1, f2⟩ := fit_at hf
    have hst := plan_at h1 hk
    rw [ix_eq hk] at f1 f2 hf hst
    rw [e]
    refine ⟨f1, fun i hi => (f2 i hi).1, ?_⟩
    simp only [fitP, fitsB, Bool.and_eq_true, decide_eq_true_eq] at hf
    have e0 : p[k].stock.toNat = 0 := by
      have : ((lotS lim).length : Int) = 1 := rfl
      omega
    rw [e0] at hf
    exact hf.2.2
  · rw [exp_sum (fun b => ix b.ps i) ht, ← h3 i hi]
    unfold madeT
    rw [List.take_length]
theorem right_opt {l : List Pc} {lim : Int} {p : List Pt} (ho : orderB l = true) (h : rightB (lotS lim) l p = true) : (optO lim l : Int) ≤ timesT p p.length := by
  obtain ⟨n, e, hP⟩ := right_pack ho h
  have := pack_le (fun w hw => by
    obtain ⟨k, hk, rfl⟩ := wsO_mem hw
    have := order_at ho hk
    omega) hP
  unfold optO
  omega
end Go.Proofs.Ythlpfjcjfhdmaaa
