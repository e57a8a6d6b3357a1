/- Contracts: copies of pieces, and their reversal. CuttingMore: plain facts. CuttingAltered: plain facts. Plain facts: no right plan uses fewer lengths than the least number. Plain facts: no bound is greater than the least number. CuttingLeast: plain facts. -/
import Derived.Test.YtolioflblegneaaGreatVA
import Derived.Test.YtolioflblegneaaGreatZ
import Derived.Test.YtolioflblegneaaGreatU
set_option maxRecDepth 100000
set_option linter.unusedSimpArgs false
set_option linter.unusedVariables false
namespace Go.Proofs.YtolioflblegneaaGreat
open Go.RowKit
end Go.Proofs.YtolioflblegneaaGreat
namespace Go.Proofs.YtolioflblegneaaGreat
open Go.RowKit
/-- The least number. -/
def optO (lim : Int) (l : List Pc) : Nat := optF lim (wsO l) []
theorem wsO_range {l : List Pc} {lim : Int} (ho : orderB l = true) (hm : ∀ k, k < l.length → (ix l k).len ≤ lim) : ∀ w ∈ wsO l, 0 ≤ w ∧ w ≤ lim := fun w hw => by
  obtain ⟨k, hk, rfl⟩ := wsO_mem hw
  have := order_at ho hk
  exact ⟨by omega, hm k hk⟩
theorem wsO_eq (l : List Pc) : wsO l = l.flatMap fun p => List.replicate p.cnt.toNat p.len := by
  unfold wsO wsT
  rw [List.take_length]
theorem list_rng (l : List Pc) : l = (List.range l.length).map (ix l) := by
  apply List.ext_getElem
  · simp
  · intro i h1 h2
    rw [List.getElem_map, List.getElem_range, ix_eq h1]
theorem wsL_rep (l : List Pc) (x : List Int) : wsL l (repF l x) = x.flatMap fun i => List.replicate (ix l i.toNat).cnt.toNat (ix l i.toNat).len := by
  unfold wsL repF
  rw [List.map_flatMap]
  simp only [List.map_replicate]
theorem wsL_rng (l : List Pc) : wsL l (repF l (rng l.length)) = wsO l := by
  rw [wsO_eq, wsL_rep]
  conv => rhs; rw [list_rng l]
  unfold rng
  rw [List.flatMap_map, List.flatMap_map]
  rfl
theorem wsL_perm (l : List Pc) : (wsL l (longL l)).Perm (wsO l) := by
  rw [← wsL_rng, wsL_rep]
  unfold longL lnO
  rw [wsL_rep]
  exact (sortK_perm _ _).flatMap_right _
theorem wsO_len {l : List Pc} (ho : orderB l = true) : ((wsO l).length : Int) = cntL l := wsT_len ho _ (Nat.le_refl _)
theorem lst_ok {lim : Int} {l : List Pc} (he : lstE lim l = 0) : givE lim l = 0 ∧ cntL l ≤ 10 := by
  unfold lstE at he
  split at he
  · contradiction
  · split at he
    · omega
    · exact ⟨by omega, by omega⟩
theorem lst_len {lim : Int} {l : List Pc} (he : lstE lim l = 0) : (lstB lim l).length = optO lim l := by
  obtain ⟨hg, hc⟩ := lst_ok he
  obtain ⟨ho, h1, h2, h3⟩ := givE_0 hg
  by_cases h0 : 0 < cntL l
  · obtain ⟨_, _, e⟩ := lst_good he h0
    rw [e]
    exact optF_perm (wsL_perm l) (.refl _) (fun w hw => wsO_range ho h3 w ((wsL_perm l).mem_iff.1 hw)) (fun m hm => by cases hm)
  · have e1 : lstB lim l = [] := if_neg (by omega)
    have e2 : wsO l = [] := List.length_eq_zero_iff.1 (by have := wsO_len ho; omega)
    rw [e1, optO, e2]
    rfl
end Go.Proofs.YtolioflblegneaaGreat
namespace Go.Proofs.YtolioflblegneaaGreat
open Go.RowKit
def Has (l : List Pc) (ps : List Int) : Prop := ∃ j, j < l.length ∧ 0 < ix ps j
theorem has_cut {l : List Pc} {i n : Int} {b : Br} (hps : b.ps.length = l.length) (hnn : ∀ j, j < l.length → 0 ≤ ix b.ps j) (hi : 0 ≤ i ∧ i < l.length) : Has l (cutBr i n b).ps := by
  refine ⟨i.toNat, by omega, ?_⟩
  simp only [cutBr]
  rw [ix_set_self (by omega)]
  have := hnn i.toNat (by omega)
  omega
theorem gs_step {s l : List Pc} {i : Int} {x : List Int} {st st' : GSt} (h : GB s l (i :: x) st) (hi : 0 ≤ i ∧ i < l.length) (he : gst s l i st = some st') (hb : ∀ b ∈ st.1, Has l b.ps) : ∀ b ∈ st'.1, Has l b.ps := by
  unfold gst at he
  simp only at he
  split at he
  · rename_i hf
    simp only [Option.some.injEq] at he
    subst he
    obtain ⟨b1, b2⟩ := h.bar _ (ix_mem hf)
    intro b hm
    rcases List.mem_or_eq_of_mem_set hm with hm | rfl
    · exact hb b hm
    · exact has_cut b1.ps b1.nn hi
  · split at he
    · cases he
    · simp only [Option.some.injEq] at he
      subst he
      intro b hm
      rcases List.mem_append.1 hm with hm | hm
      · exact hb b hm
      · simp only [List.mem_singleton] at hm
        subst hm
        exact has_cut (zeros_len _) (fun j _ => by simp only [zeros_ix]; omega) hi
theorem gs_fold {s l : List Pc} (hs : stB s = true) (ho : orderB l = true) : ∀ {x : List Int} {st st' : GSt}, (∀ i ∈ x, 0 ≤ i ∧ i < l.length) → GB s l x st → gfold s l x st = some st' → (∀ b ∈ st.1, Has l b.ps) → ∀ b ∈ st'.1, Has l b.ps
  | [], st, st', _, _, he, hb => by
    simp only [gfold, Option.some.injEq] at he
    subst he
    exact hb
  | i :: x, st, st', hx, h, he, hb => by
    simp only [gfold] at he
    obtain ⟨st1, h1, h2⟩ := Option.bind_eq_some_iff.1 he
    exact gs_fold hs ho (fun j hj => hx j (List.mem_cons_of_mem _ hj)) (gb_step hs ho h (hx i List.mem_cons_self) h1) h2 (gs_step h (hx i List.mem_cons_self) h1 hb)
theorem gs_all {s l : List Pc} (hs : stB s = true) (ho : orderB l = true) {st : GSt} (h : gA s l = some st) : ∀ b ∈ st.1, Has l b.ps := by
  refine gs_fold hs ho (fun i hi => longL_mem hi) ⟨fun b hb => by simp [g0] at hb, fun i hi => ?_, zeros_len _, fun j hj => ?_, fun i j hij hj => by simp [g0] at hj⟩ h fun b hb => by simp [g0] at hb
  · rw [long_count hi]
    have := order_at ho hi
    simp [g0]
    omega
  · have := st_len hs hj
    simp only [g0, zeros_ix]
    simp
    omega
/-- A greedy plan. -/
structure GPlan (s l : List Pc) (p : List Pt) : Prop where
  right : rightB s l p = true
  len : p.length ≤ 1000
  ps : ∀ x ∈ p, x.ps.length = l.length
  has : ∀ x ∈ p, Has l x.ps
theorem gplan {s l : List Pc} (he : gErr s l = 0) : GPlan s l (gRes s l) := by
  have hr : gRes s l = patL ((gA s l).getD (g0 s)).1 := if_pos he
  unfold gErr at he
  split at he
  · omega
  rename_i h1
  split at he
  · omega
  rename_i h2
  split at he
  · omega
  rename_i h3
  have hs : stB s = true := by cases e : stB s with | true => rfl | false => exact absurd (.inl e) h1
  have ho : orderB l = true := by cases e : orderB l with | true => rfl | false => exact absurd (.inr e) h1
  obtain ⟨st, hst⟩ := Option.ne_none_iff_exists'.1 h3
  rw [hst, Option.getD_some] at hr
  have hB := gb_bars (gb_all hs ho hst) (gb_len hs ho hst (by omega))
  have hS := gs_all hs ho hst
  rw [hr]
  refine ⟨bars_right hB, plan_len (bars_plan hB), fun x hx => ?_, fun x hx => ?_⟩
  · obtain ⟨b, hb, _, e2⟩ := pat_mem x hx
    rw [← e2]; exact (hB.bar b hb).2.2.1
  · obtain ⟨b, hb, _, e2⟩ := pat_mem x hx
    rw [← e2]; exact hS b hb
end Go.Proofs.YtolioflblegneaaGreat
namespace Go.Proofs.YtolioflblegneaaGreat
open Go.RowKit
/-- The pieces of a pattern. -/
def pcsOf : List Pc → List Int → List Int
  | p :: l, n :: ns => List.replicate n.toNat p.len ++ pcsOf l ns
  | _, _ => []
theorem sum_rep (n : Nat) (x : Int) : (List.replicate n x).sum = n * x := by
  induction n with
  | zero => simp
  | succ n ih => rw [List.replicate_succ, List.sum_cons, ih]; push_cast; rw [Int.add_mul]; omega
theorem pcs_sum : ∀ {l : List Pc} {ns : List Int}, (∀ i, i < l.length → 0 ≤ ix ns i) → ns.length = l.length → (pcsOf l ns).sum = dotL l ns
  | [], [], _, _ => rfl
  | [], _ :: _, _, h => by simp at h
  | _ :: _, [], _, h => by simp at h
  | p :: l, n :: ns, h, hl => by
    have h0 : 0 ≤ n := h 0 (by simp)
    have ih := pcs_sum (l := l) (ns := ns) (fun i hi => h (i + 1) (by simpa using hi)) (by simpa using hl)
    simp only [pcsOf, dotL, List.sum_append, ih, sum_rep]
    rw [Int.toNat_of_nonneg h0]
/-- One line's length against another one's. -/
def indL (a : Int) (l : List Pc) : List Pc := l.map fun p => ⟨if p.len = a then 1 else 0, p.cnt⟩
theorem indL_len (a : Int) (l : List Pc) : (indL a l).length = l.length := by simp [indL]
theorem count_rep (n : Nat) (x a : Int) : (((List.replicate n x).count a : Nat) : Int) = n * (if x = a then 1 else 0) := by
  rw [List.count_replicate]
  by_cases h : x = a
  · subst h; simp
  · rw [if_neg h, if_neg (by simpa using h)]; simp
theorem pcs_count (a : Int) : ∀ {l : List Pc} {ns : List Int}, (∀ i, i < l.length → 0 ≤ ix ns i) → ns.length = l.length → (((pcsOf l ns).count a : Nat) : Int) = dotL (indL a l) ns
  | [], [], _, _ => rfl
  | [], _ :: _, _, h => by simp at h
  | _ :: _, [], _, h => by simp at h
  | p :: l, n :: ns, h, hl => by
    have h0 : 0 ≤ n := h 0 (by simp)
    have ih := pcs_count a (l := l) (ns := ns) (fun i hi => h (i + 1) (by simpa using hi)) (by simpa using hl)
    simp only [pcsOf, indL, List.map_cons, dotL, List.count_append]
    have e := count_rep n.toNat p.len a
    rw [Int.toNat_of_nonneg h0] at e
    unfold indL at ih
    omega
theorem ws_count (a : Int) {l : List Pc} (hc : ∀ p ∈ l, 0 ≤ p.cnt) : (((wsO l).count a : Nat) : Int) = totL (indL a l) := by
  have key : ∀ l : List Pc, (∀ p ∈ l, 0 ≤ p.cnt) → (((l.flatMap fun p => List.replicate p.cnt.toNat p.len).count a : Nat) : Int) = ((indL a l).map fun p => p.len * p.cnt).sum := by
    intro l
    induction l with
    | nil => intro _; rfl
    | cons p l ih =>
      intro hc
      have ih := ih fun q hq => hc q (List.mem_cons_of_mem _ hq)
      have h0 := hc p List.mem_cons_self
      have e := count_rep p.cnt.toNat p.len a
      rw [Int.toNat_of_nonneg h0] at e
      simp only [List.flatMap_cons, List.count_append, indL, List.map_cons, List.sum_cons]
      unfold indL at ih
      rw [Int.mul_comm] at e
      omega
  rw [wsO_eq, key l hc]
  unfold totL totT
  rw [List.take_length]
theorem range_ind (a : Int) (l : List Pc) : ((List.range (indL a l).length).map fun i => (ix (indL a l) i).cnt) = (List.range l.length).map fun i => (ix l i).cnt := by
  rw [indL_len]
  refine List.map_congr_left fun i hi => ?_
  have hi := List.mem_range.1 hi
  rw [ix_eq (by rw [indL_len]; exact hi), ix_eq hi]
  simp [indL]
theorem sum_cast (L : List Nat) : ((L.sum : Nat) : Int) = (L.map fun (n : Nat) => (n : Int)).sum := by
  induction L with
  | nil => rfl
  | cons n L ih => simp only [List.sum_cons, List.map_cons]; omega
/-- Bars from which the order is cut, as loads of the pieces. -/
theorem bars_pack {l : List Pc} {lim : Int} {o : List Br} (hc : ∀ p ∈ l, 0 ≤ p.cnt) (hb : ∀ b ∈ o, b.ps.length = l.length ∧ (∀ i, i < l.length → 0 ≤ ix b.ps i) ∧ dotL l b.ps ≤ lim) (hs : ∀ i, i < l.length → (o.map fun b => ix b.ps i).sum = (ix l i).cnt) : Pack lim (wsO l) [] o.length := by
  refine ⟨[], o.map fun b => pcsOf l b.ps, rfl, (fun c hc => by cases hc), fun b hb2 => ?_, ?_, by simp⟩
  · obtain ⟨x, hx, rfl⟩ := List.mem_map.1 hb2
    obtain ⟨h1, h2, h3⟩ := hb x hx
    rw [pcs_sum h2 h1]; exact h3
  · simp only [List.flatMap_nil, List.nil_append]
    refine List.perm_iff_count.2 fun a => ?_
    have e1 : (((o.map fun b => pcsOf l b.ps).flatten.count a : Nat) : Int) = (o.map fun b => dotL (indL a l) b.ps).sum := by
      rw [List.count_flatten, sum_cast, List.map_map, List.map_map]
      congr 1
      refine List.map_congr_left fun b hb2 => ?_
      obtain ⟨h1, h2, _⟩ := hb b hb2
      exact pcs_count a h2 h1
    have e2 := dot_sum (l := indL a l) o fun b hb2 => by rw [indL_len]; exact (hb b hb2).1
    have e3 : ((List.range (indL a l).length).map fun i => (o.map fun b => ix b.ps i).sum) = (List.range (indL a l).length).map fun i => (ix (indL a l) i).cnt := by
      rw [range_ind, indL_len]
      exact List.map_congr_left fun i hi => hs i (List.mem_range.1 hi)
    rw [e2, e3, dot_tot, ← ws_count a hc] at e1
    omega
/-- A plan's patterns, each as often as it is cut. -/
def expB (p : List Pt) : List Br := p.flatMap fun x => List.replicate x.times.toNat ⟨x.stock, 0, x.ps⟩
theorem exp_sum (f : Br → Int) : ∀ {p : List Pt}, (∀ x ∈ p, 0 ≤ x.times) → ((expB p).map f).sum = (p.map fun x => f ⟨x.stock, 0, x.ps⟩ * x.times).sum
  | [], _ => rfl
  | x :: p, h => by
    have ih := exp_sum f (p := p) fun y hy => h y (List.mem_cons_of_mem _ hy)
    have h0 := h x List.mem_cons_self
    unfold expB at ih ⊢
    simp only [List.flatMap_cons, List.map_append, List.sum_append, List.map_replicate, List.map_cons, List.sum_cons, sum_rep, ih]
    rw [Int.toNat_of_nonneg h0, Int.mul_comm]
theorem exp_mem {p : List Pt} {b : Br} (h : b ∈ expB p) : ∃ x ∈ p, b.ps = x.ps := by
  obtain ⟨x, hx, hb⟩ := List.mem_flatMap.1 h
  exact ⟨x, hx, by rw [(List.mem_replicate.1 hb).2]⟩
theorem right_pack {l : List Pc} {lim : Int} {p : List Pt} (ho : orderB l = true) (h : rightB (lotS lim) l p = true) : ∃ n : Nat, (n : Int) = timesT p p.length ∧ Pack lim (wsO l) [] n := by
  obtain ⟨h1, h2, h3, _⟩ := right_yes.1 h
  have ht : ∀ x ∈ p, 0 ≤ x.times := fun x hx => by
    obtain ⟨k, hk, rfl⟩ := List.mem_iff_getElem.1 hx
    have := (plan_at h1 hk).2.2.1
    rw [ix_eq hk] at this
    omega
  refine ⟨(expB p).length, ?_, bars_pack (fun q hq => ?_) (fun b hb => ?_) fun i hi => ?_⟩
  · have e := exp_sum (fun _ => 1) ht
    rw [sum_one] at e
    rw [e]
    unfold timesT
    rw [List.take_length]
    congr 1
    exact List.map_congr_left fun x _ => Int.one_mul _
  · obtain ⟨k, hk, rfl⟩ := List.mem_iff_getElem.1 hq
    have := order_at ho hk
    rw [ix_eq hk] at this
    omega
  · obtain ⟨x, hx, e⟩ := exp_mem hb
    obtain ⟨k, hk, rfl⟩ := List.mem_iff_getElem.1 hx
    have hf := h2 k hk
    obtain ⟨f1, f2⟩ := fit_at hf
    have hst := plan_at h1 hk
    rw [ix_eq hk] at f1 f2 hf hst
    rw [e]
    refine ⟨f1, fun i hi => (f2 i hi).1, ?_⟩
    simp only [fitP, fitsB, Bool.and_eq_true, decide_eq_true_eq] at hf
    have e0 : p[k].stock.toNat = 0 := by
      have : ((lotS lim).length : Int) = 1 := rfl
      omega
    rw [e0] at hf
    exact hf.2.2
  · rw [exp_sum (fun b => ix b.ps i) ht, ← h3 i hi]
    unfold madeT
    rw [List.take_length]
theorem right_opt {l : List Pc} {lim : Int} {p : List Pt} (ho : orderB l = true) (h : rightB (lotS lim) l p = true) : (optO lim l : Int) ≤ timesT p p.length := by
  obtain ⟨n, e, hP⟩ := right_pack ho h
  have := pack_le (fun w hw => by
    obtain ⟨k, hk, rfl⟩ := wsO_mem hw
    have := order_at ho hk
    omega) hP
  unfold optO
  omega
end Go.Proofs.YtolioflblegneaaGreat
namespace Go.Proofs.YtolioflblegneaaGreat
open Go.RowKit
theorem upR_le {a m q : Int} (h0 : 0 ≤ a) (hm : 1 ≤ m) (h : a ≤ m * q) : upR a m ≤ q := by
  unfold upR
  rw [Int.tdiv_eq_ediv_of_nonneg (by omega)]
  have h1 : (a + m - 1) / m < q + 1 := by
    rw [Int.ediv_lt_iff_lt_mul (by omega), Int.add_mul, Int.mul_comm q m]
    omega
  omega
theorem sum_perm_map {x y : List Int} (W : Int → Int) (h : x.Perm y) : (x.map W).sum = (y.map W).sum := sum_perm (h.map W)
theorem flat_sum (W : Int → Int) (K : Int) : ∀ (B : List (List Int)), (∀ b ∈ B, (b.map W).sum ≤ K) → (B.flatten.map W).sum ≤ K * B.length
  | [], _ => by simp
  | b :: B, h => by
    have ih := flat_sum W K B fun c hc => h c (List.mem_cons_of_mem _ hc)
    have h0 := h b List.mem_cons_self
    simp only [List.flatten_cons, List.map_append, List.sum_append, List.length_cons]
    push_cast
    rw [Int.mul_add]
    omega
/-- What a weight that no load exceeds says of a packing. -/
theorem pack_weight {lim K : Int} {ws : List Int} {n : Nat} (W : Int → Int) (hw : ∀ w ∈ ws, 1 ≤ w ∧ w ≤ lim) (hK : ∀ b : List Int, (∀ w ∈ b, 1 ≤ w ∧ w ≤ lim) → b.sum ≤ lim → (b.map W).sum ≤ K) (h : Pack lim ws [] n) : (ws.map W).sum ≤ K * n := by
  obtain ⟨C, B, hC, _, hB, hp, hn⟩ := h
  have hC0 : C = [] := by simpa using hC
  subst hC0
  simp only [List.flatMap_nil, List.nil_append] at hp
  have hn : n = B.length := by simpa using hn
  subst hn
  rw [← sum_perm_map W hp]
  refine flat_sum W K B fun b hb => hK b (fun w hw2 => hw w (hp.mem_iff.1 (List.mem_flatten.2 ⟨b, hb, hw2⟩))) (hB b hb)
/-- The weights of all pieces. -/
def wT (W : Int → Int) (l : List Pc) : Nat → Int
  | 0 => 0
  | j + 1 => wT W l j + (ix l j).cnt * W (ix l j).len
theorem ws_weight (W : Int → Int) {l : List Pc} (hc : ∀ k, k < l.length → 0 ≤ (ix l k).cnt) : ∀ j, j ≤ l.length → ((wsT l j).map W).sum = wT W l j
  | 0, _ => by simp [wsT, wT]
  | j + 1, h => by
    rw [wsT_succ (by omega), List.map_append, List.sum_append, ws_weight W hc j (by omega), List.map_replicate, sum_rep, Int.toNat_of_nonneg (hc j (by omega))]
    rfl
theorem bound_le {l : List Pc} {lim K : Int} {n : Nat} (W : Int → Int) (ho : orderB l = true) (hm : ∀ k, k < l.length → (ix l k).len ≤ lim) (hK : ∀ b : List Int, (∀ w ∈ b, 1 ≤ w ∧ w ≤ lim) → b.sum ≤ lim → (b.map W).sum ≤ K) (h : Pack lim (wsO l) [] n) : wT W l l.length ≤ K * n := by
  rw [← ws_weight W (fun k hk => by have := order_at ho hk; omega) l.length (Nat.le_refl _)]
  refine pack_weight W (fun w hw => ?_) hK h
  obtain ⟨k, hk, rfl⟩ := wsO_mem hw
  have := order_at ho hk
  exact ⟨by omega, hm k hk⟩
theorem mat_le {l : List Pc} {lim : Int} {n : Nat} (ho : orderB l = true) (h1 : 1 ≤ lim) (hm : ∀ k, k < l.length → (ix l k).len ≤ lim) (h : Pack lim (wsO l) [] n) : matR lim l ≤ n := by
  have key : ∀ j, j ≤ l.length → wT (fun x => x) l j = totT l j := by
    intro j
    induction j with
    | zero => intro _; simp [wT, totT]
    | succ j ih =>
      intro hj
      rw [totT_succ (by omega), ← ih (by omega), Int.mul_comm]
      rfl
  have := bound_le (K := lim) (fun x => x) ho hm (fun b _ hb => by rw [List.map_id']; exact hb) h
  rw [key _ (Nat.le_refl _)] at this
  exact upR_le (totL_range ho).1 h1 this
def wL (lim x : Int) : Int := if lim < 2 * x then 1 else 0
theorem large_le {l : List Pc} {lim : Int} {n : Nat} (ho : orderB l = true) (h1 : 1 ≤ lim) (hm : ∀ k, k < l.length → (ix l k).len ≤ lim) (h : Pack lim (wsO l) [] n) : largT lim l l.length ≤ n := by
  have key : ∀ j, j ≤ l.length → wT (wL lim) l j = largT lim l j := by
    intro j
    induction j with
    | zero => intro _; rfl
    | succ j ih =>
      intro hj
      have e : wT (wL lim) l (j + 1) = wT (wL lim) l j + (ix l j).cnt * wL lim (ix l j).len := rfl
      have e2 : largT lim l (j + 1) = if lim < 2 * (ix l j).len then largT lim l j + (ix l j).cnt else largT lim l j := rfl
      rw [e, e2, ih (by omega)]
      unfold wL
      split <;> simp
  have hb : ∀ b : List Int, (∀ w ∈ b, 1 ≤ w ∧ w ≤ lim) → (lim + 1) * (b.map (wL lim)).sum ≤ 2 * b.sum := by
    intro b
    induction b with
    | nil => intro _; simp
    | cons x b ih =>
      intro hw
      have ih := ih fun w h => hw w (List.mem_cons_of_mem _ h)
      have h0 := hw x List.mem_cons_self
      simp only [List.map_cons, List.sum_cons]
      have hx : wL lim x = if lim < 2 * x then 1 else 0 := rfl
      rw [Int.mul_add, hx]
      split
      · omega
      · rw [Int.mul_zero]; omega
  have := bound_le (K := 1) (wL lim) ho hm (fun b hw hs => by
    have h2 := hb b hw
    refine Int.not_lt.1 fun h3 => ?_
    have := Int.mul_le_mul_of_nonneg_left (show (2 : Int) ≤ (b.map (wL lim)).sum by omega) (show 0 ≤ lim + 1 by omega)
    omega) h
  rw [key _ (Nat.le_refl _)] at this
  omega
def wD (lim k x : Int) : Int := if ((k + 1) * x).tmod lim = 0 then ((k + 1) * x).tdiv lim * k else ((k + 1) * x).tdiv lim * (k + 1)
theorem dual_load {lim k : Int} (h1 : 1 ≤ lim) (hk : 1 ≤ k) (b : List Int) (hw : ∀ w ∈ b, 1 ≤ w ∧ w ≤ lim) (hs : b.sum ≤ lim) : (b.map (wD lim k)).sum ≤ k * (k + 1) := by
  have key : ∀ b : List Int, (∀ w ∈ b, 1 ≤ w ∧ w ≤ lim) → ∃ A B : Int, 0 ≤ A ∧ 0 ≤ B ∧ (b.map (wD lim k)).sum = A * k + B * (k + 1) ∧ lim * (A + B) ≤ (k + 1) * b.sum ∧ (0 < B → lim * (A + B) < (k + 1) * b.sum) := by
    intro b
    induction b with
    | nil => intro _; exact ⟨0, 0, by simp, by simp, by simp, by simp, fun h => absurd h (by simp)⟩
    | cons x b ih =>
      intro hw
      obtain ⟨A, B, hA, hB, e1, e2, e3⟩ := ih fun w h => hw w (List.mem_cons_of_mem _ h)
      have h0 := hw x List.mem_cons_self
      have hn : 0 ≤ (k + 1) * x := Int.mul_nonneg (by omega) (by omega)
      have hq : 0 ≤ ((k + 1) * x).tdiv lim := Int.tdiv_nonneg hn (by omega)
      have hr : 0 ≤ ((k + 1) * x).tmod lim := Int.tmod_nonneg _ hn
      have hd := Int.mul_tdiv_add_tmod ((k + 1) * x) lim
      simp only [List.map_cons, List.sum_cons]
      rw [Int.mul_add (k + 1)]
      unfold wD at e1 ⊢
      generalize (k + 1) * x = n at *
      generalize n.tdiv lim = q at *
      generalize n.tmod lim = r at *
      split
      · rename_i hr0
        refine ⟨A + q, B, by omega, hB, ?_, ?_, fun h => ?_⟩
        · rw [e1, Int.add_mul]; omega
        · rw [show A + q + B = q + (A + B) by omega, Int.mul_add]; omega
        · have := e3 h
          rw [show A + q + B = q + (A + B) by omega, Int.mul_add]; omega
      · rename_i hr0
        refine ⟨A, B + q, hA, by omega, ?_, ?_, fun h => ?_⟩
        · rw [e1, Int.add_mul]; omega
        · rw [show A + (B + q) = q + (A + B) by omega, Int.mul_add]; omega
        · rw [show A + (B + q) = q + (A + B) by omega, Int.mul_add]; omega
  obtain ⟨A, B, hA, hB, e1, e2, e3⟩ := key b hw
  have hs2 : (k + 1) * b.sum ≤ lim * (k + 1) := by
    rw [Int.mul_comm lim]
    exact Int.mul_le_mul_of_nonneg_left hs (by omega)
  rw [e1]
  by_cases hB0 : 0 < B
  · have h3 : lim * (A + B) < lim * (k + 1) := Int.lt_of_lt_of_le (e3 hB0) hs2
    have h4 : A + B < k + 1 := Int.lt_of_mul_lt_mul_left h3 (by omega)
    have h5 := Int.mul_le_mul_of_nonneg_right (show A + B ≤ k by omega) (show 0 ≤ k + 1 by omega)
    rw [Int.add_mul] at h5
    have h6 : A * (k + 1) = A * k + A := by rw [Int.mul_add, Int.mul_one]
    omega
  · have : B = 0 := by omega
    subst this
    have h4 : A + 0 ≤ k + 1 := Int.le_of_mul_le_mul_left (Int.le_trans e2 hs2) (by omega)
    have h5 := Int.mul_le_mul_of_nonneg_right (show A ≤ k + 1 by omega) (show 0 ≤ k by omega)
    rw [Int.mul_comm k]
    omega
theorem dual_le {l : List Pc} {lim k : Int} {n : Nat} (ho : orderB l = true) (h1 : 1 ≤ lim) (hk : 1 ≤ k ∧ k ≤ 10) (hm : ∀ k, k < l.length → (ix l k).len ≤ lim) (h : Pack lim (wsO l) [] n) : dualR lim k l ≤ n := by
  have key : ∀ j, j ≤ l.length → wT (wD lim k) l j = dualT lim k l j := by
    intro j
    induction j with
    | zero => intro _; rfl
    | succ j ih =>
      intro hj
      have e : wT (wD lim k) l (j + 1) = wT (wD lim k) l j + (ix l j).cnt * wD lim k (ix l j).len := rfl
      have e2 : dualT lim k l (j + 1) = dualT lim k l j + dualI lim k (ix l j) := rfl
      rw [e, e2, ih (by omega)]
      unfold wD dualI
      split <;> rw [Int.mul_assoc]
  have := bound_le (K := k * (k + 1)) (wD lim k) ho hm (fun b hw hs => dual_load h1 hk.1 b hw hs) h
  rw [key _ (Nat.le_refl _)] at this
  exact upR_le (dualT_range h1 hk ho _ (Nat.le_refl _)).1 (kk_range hk).1 this
theorem best_le {l : List Pc} {lim : Int} {n : Nat} (ho : orderB l = true) (h1 : 1 ≤ lim) (hm : ∀ k, k < l.length → (ix l k).len ≤ lim) (h : Pack lim (wsO l) [] n) : bestR lim l ≤ n := by
  have key : ∀ j, j ≤ 10 → bestT lim l j ≤ n := by
    intro j
    induction j with
    | zero =>
      intro _
      have a := mat_le ho h1 hm h
      have b := large_le ho h1 hm h
      show max _ _ ≤ _
      omega
    | succ j ih =>
      intro hj
      have a := ih (by omega)
      have b := dual_le (k := (j + 1 : Nat)) ho h1 (by omega) hm h
      show max _ _ ≤ _
      omega
  exact key 10 (Nat.le_refl _)
theorem best_opt {l : List Pc} {lim : Int} (ho : orderB l = true) (h1 : 1 ≤ lim) (hm : ∀ k, k < l.length → (ix l k).len ≤ lim) : bestR lim l ≤ optO lim l :=
  best_le ho h1 hm (opt_pack (fun w hw => (wsO_range ho hm w hw).2) fun m hm => by cases hm)
end Go.Proofs.YtolioflblegneaaGreat
namespace Go.Proofs.YtolioflblegneaaGreat
open Go.RowKit
theorem lst_right {lim : Int} {l : List Pc} (he : lstE lim l = 0) : rightB (lotS lim) l (lstR lim l) = true ∧ timesT (lstR lim l) (lstR lim l).length = (lstB lim l).length := by
  obtain ⟨hg, hc⟩ := lst_ok he
  obtain ⟨ho, h1, h2, h3⟩ := givE_0 hg
  refine ⟨?_, timesT_pat _⟩
  by_cases h0 : 0 < cntL l
  · obtain ⟨g, _, _⟩ := lst_good he h0
    refine bars_right (visOk_bars g ?_)
    rw [lst_len he]
    have h4 := optF_le_len (wsO_range ho h3)
    have h5 := wsO_len ho
    unfold optO
    omega
  · have e1 : lstB lim l = [] := if_neg (by omega)
    have e2 : l = [] := by
      have := (cntT_range ho l.length (Nat.le_refl _)).1
      have h6 : cntT l l.length = cntL l := rfl
      exact List.length_eq_zero_iff.1 (by omega)
    have e3 : lstR lim l = [] := by rw [lstR, e1]; rfl
    rw [e3, e2]
    refine right_yes.2 ⟨rfl, fun k hk => by simp at hk, fun i hi => by simp at hi, fun j hj => ?_⟩
    obtain rfl : j = 0 := by simp [lotS] at hj; omega
    exact .inl (show (-1 : Int) < 0 by decide)
theorem right_small {s l : List Pc} {p : List Pt} (ho : orderB l = true) (h : rightB s l p = true) : p.length ≤ 1000 ∧ ∀ k, k < p.length → (ix p k).ps.length ≤ 200 := by
  have := order_len ho
  refine ⟨plan_len (right_yes.1 h).1, fun k hk => ?_⟩
  have := (fit_at ((right_yes.1 h).2.1 k hk)).1
  omega
theorem right_plan {s l : List Pc} {p : List Pt} (h : rightB s l p = true) : planB s p = true := (right_yes.1 h).1
theorem lst_10 {lim : Int} {l : List Pc} (hg : givE lim l = 0) (h : 10 < cntL l) : lstE lim l = 6 ∧ lstB lim l = [] ∧ lstR lim l = [] := by
  have e : lstE lim l = 6 := by rw [lstE, if_neg (by simp [hg]), if_pos h]
  have e1 : lstB lim l = [] := if_neg (by omega)
  exact ⟨e, e1, by rw [lstR, e1]; rfl⟩
theorem lst_yes {lim : Int} {l : List Pc} (hg : givE lim l = 0) (h : cntL l ≤ 10) : lstE lim l = 0 := by
  rw [lstE, if_neg (by simp [hg]), if_neg (by omega)]
theorem greedy_lots {lim : Int} {l : List Pc} (hg : givE lim l = 0) (h : cntL l ≤ 1000) : gErr (lotS lim) l = 0 := by
  obtain ⟨ho, h1, h2, h3⟩ := givE_0 hg
  have hs := stB_lots h1 h2
  unfold gErr
  rw [if_neg (by simp [hs, ho]), if_neg (by omega), if_neg]
  exact no_gap (k := 0) (show 0 < 1 by decide) (show (-1 : Int) < 0 by decide) fun i hi => h3 i hi
end Go.Proofs.YtolioflblegneaaGreat
