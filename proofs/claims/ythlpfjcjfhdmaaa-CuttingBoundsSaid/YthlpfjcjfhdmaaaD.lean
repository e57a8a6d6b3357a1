/- Contracts: the order by masses. -/
import Derived.Test.YthlpfjcjfhdmaaaSL
set_option maxRecDepth 100000
set_option linter.unusedSimpArgs false
set_option linter.unusedVariables false
namespace Go.Proofs.Ythlpfjcjfhdmaaa
open Go.RowKit
theorem app_int {p q : List Int} {v : Int} (e : q = p ++ [v]) (rl : List Nat) : q.length ≤ p.length + 1 ∧ ∀ k, k < q.length → Value.int IntKind.i64 (ix q k) = Value.int IntKind.i64 (bif decide (k < p.length) then ix p k else v) ∧ mtL rl [] (bif decide (k < p.length) then [] else []) := by
  subst e
  refine ⟨by simp, fun k hk => ?_⟩
  have h2 : mtL rl [] (bif decide (k < p.length) then ([] : List SV) else []) := by cases decide (k < p.length) <;> simp [mtL]
  refine ⟨?_, h2⟩
  rw [ix_eq hk]
  by_cases h : k < p.length
  · simp [h, ix_eq h, List.getElem_append_left h]
  · have : k = p.length := by simp at hk; omega
    subst this
    simp
def rIO (l : List Int) (cap : Nat) : Ob := rOwn 3 l.length cap (fun k => ix l k)
attribute [push_cast] rIO
theorem sorted_of {K : Int → Int} {p : List Int} {f' : Nat → Int} (h : InI K (fun k => ix p k) 0 p.length f') (hi : ∀ x ∈ p, ∀ y ∈ p, K x = K y → x = y) : ∀ k, k < p.length → f' k = ix (sortK K p) k := by
  have e : seg (fun k => ix p k) 0 p.length = p := by
    apply List.ext_getElem (by rw [seg_len])
    intro i h1 h2
    simp only [seg, List.getElem_map, List.getElem_range, Nat.zero_add]
    exact ix_eq h2
  have h2 := h.perm
  rw [Nat.sub_zero, e] at h2
  have h3 := seg_sorted h2 hi h.up
  exact fun k hk => seg_ix h3 hk
/-- A variable that holds bundles. -/
def rBoxB (j : Nat) (n c : Nat) : Ob := ⟨23, true, .st [.s j 0 0 n c 2]⟩
attribute [push_cast] rBoxB
theorem hcmp_pu (l : List Pc) (c : Nat) (x y : Int) (hv : orderB l = true) (hx : 0 ≤ x ∧ x < l.length) (hy : 0 ≤ y ∧ y < l.length) : Pu Try.prog 79 [.v (.int .i64 x), .v (.int .i64 y), .p 0 0 0] [rBoxB 1 l.length c, rPc l] (.v (.int .i64 ((ix l y.toNat).len - (ix l x.toNat).len))) := by
  have m1 := order_at hv (k := x.toNat) (by omega)
  have m2 := order_at hv (k := y.toNat) (by omega)
  refine pu_of_ex true [] mixed Try.call79 Try.func79 rfl Try.ntmps79 Try.results79 (by decide +kernel) rfl rfl rfl ?_
  simp only [push_cast, ↓branch_true, ↓branch_false, Nat.reduceBEq, Nat.reduceAdd, Nat.reduceMul, Nat.reduceSub, Int.reduceToNat, reduceCtorEq, branch_decide, branch_not, branch_beq, branch_bne]
  repeat (first | (with_reducible refine And.intro (by omega) ?_) | omega)
def VB (l : List Pc) (x : Int) : Prop := 0 ≤ x ∧ x < l.length
theorem h_cmp (l : List Pc) (hv : orderB l = true) (c n cap : Nat) : Cmp 79 [] [.p 1 0 0] n cap [rBoxB 2 l.length c, rPc l] (VB l) (fun x y => (ix l y.toNat).len - (ix l x.toNat).len) := fun f x y hx hy =>
  pu_at (hcmp_pu l c x y hv hx hy) rfl [1, 2] rfl (by (simp only [push_cast, ↓branch_true, ↓branch_false, Nat.reduceBEq, Nat.reduceAdd, Nat.reduceMul, Nat.reduceSub, Int.reduceToNat, reduceCtorEq, branch_decide, branch_not, branch_beq, branch_bne])) (by (simp only [push_cast, ↓branch_true, ↓branch_false, Nat.reduceBEq, Nat.reduceAdd, Nat.reduceMul, Nat.reduceSub, Int.reduceToNat, reduceCtorEq, branch_decide, branch_not, branch_beq, branch_bne]))
def KH (l : List Pc) (x : Int) : Int := -(ix l x.toNat).len * 2000 + x
theorem knH {l : List Pc} (h : l.length ≤ 1000) : Kn (VB l) (fun y x => y < x) (fun x y => (ix l y.toNat).len - (ix l x.toNat).len) (KH l) := ⟨fun x y hx hy hO => by
  obtain ⟨x1, x2⟩ := hx
  obtain ⟨y1, y2⟩ := hy
  simp only [KH]
  omega⟩
theorem kH_inj {l : List Pc} (h : l.length ≤ 1000) {x y : Int} (hx : VB l x) (hy : VB l y) (e : KH l x = KH l y) : x = y := by
  obtain ⟨x1, x2⟩ := hx
  obtain ⟨y1, y2⟩ := hy
  simp only [KH] at e
  omega
/-- The numbers from 0 on. -/
def rng (n : Nat) : List Int := (List.range n).map fun (k : Nat) => (k : Int)
theorem rng_len (n : Nat) : (rng n).length = n := by simp [rng]
theorem rng_succ (n : Nat) : rng (n + 1) = rng n ++ [(n : Int)] := by simp [rng, List.range_succ]
theorem rng_ix {n k : Nat} (h : k < n) : ix (rng n) k = k := by rw [ix_eq (by rw [rng_len]; exact h)]; simp [rng]
theorem rng_mem {n : Nat} {x : Int} (h : x ∈ rng n) : 0 ≤ x ∧ x < n := by
  simp only [rng, List.mem_map, List.mem_range] at h
  obtain ⟨k, h1, rfl⟩ := h
  omega
/-- The heaviest bundles first. -/
def lnO (l : List Pc) : List Int := sortK (KH l) (rng l.length)
theorem lnO_len (l : List Pc) : (lnO l).length = l.length := by rw [lnO, (sortK_perm _ _).length_eq, rng_len]
theorem lnO_mem {l : List Pc} {x : Int} (h : x ∈ lnO l) : 0 ≤ x ∧ x < l.length := rng_mem ((sortK_perm _ _).mem_iff.1 h)
/-- The lines of all pieces, the longest pieces first. -/
def repF (l : List Pc) (x : List Int) : List Int := x.flatMap fun i => List.replicate (ix l i.toNat).cnt.toNat i
def longL (l : List Pc) : List Int := repF l (lnO l)
theorem repF_snoc (l : List Pc) (x : List Int) (i : Int) : repF l (x ++ [i]) = repF l x ++ List.replicate (ix l i.toNat).cnt.toNat i := by
  unfold repF
  rw [List.flatMap_append]; simp
theorem rep_sum {l : List Pc} (ho : orderB l = true) : ∀ {x : List Int}, (∀ i ∈ x, 0 ≤ i ∧ i < l.length) → ((repF l x).length : Int) = (x.map fun i => (ix l i.toNat).cnt).sum
  | [], _ => rfl
  | i :: x, h => by
    have h1 := h i List.mem_cons_self
    have h2 := order_at ho (k := i.toNat) (by omega)
    have ih := rep_sum ho (x := x) fun j hj => h j (List.mem_cons_of_mem _ hj)
    have e : repF l (i :: x) = List.replicate (ix l i.toNat).cnt.toNat i ++ repF l x := rfl
    rw [e, List.length_append, List.length_replicate, List.map_cons, List.sum_cons]
    omega
theorem sum_permI {x y : List Int} (h : x.Perm y) : x.sum = y.sum := by
  induction h with
  | nil => rfl
  | cons _ _ ih => simp [ih]
  | swap => simp; omega
  | trans _ _ h1 h2 => rw [h1, h2]
theorem long_len {l : List Pc} (ho : orderB l = true) : ((longL l).length : Int) = cntL l := by
  unfold longL
  have hp : (lnO l).Perm (rng l.length) := sortK_perm _ _
  rw [rep_sum ho fun i hi => lnO_mem hi, sum_permI (hp.map fun i => (ix l i.toNat).cnt)]
  unfold cntL cntT
  rw [List.take_length]
  congr 1
  unfold rng
  rw [List.map_map]
  refine List.ext_getElem (by simp) fun k h1 h2 => ?_
  have hk : k < l.length := by simpa using h2
  simp [ix_eq hk]
theorem rep_mono (l : List Pc) (x : List Int) (k : Nat) : (repF l (x.take k)).length ≤ (repF l x).length := by
  have e : repF l x = repF l (x.take k) ++ repF l (x.drop k) := by
    conv => lhs; rw [← List.take_append_drop k x]
    unfold repF
    rw [List.flatMap_append]
  rw [e, List.length_append]; omega
set_option maxHeartbeats 1000000 in
theorem longest_sp (l : List Pc) (c : Nat) (hv : orderB l = true) (hc : cntL l ≤ 1000) : Sp Try.prog 49 [.s 0 0 0 l.length c 2] [rPc l] (fun r H => ∃ cap, (longL l).length ≤ cap ∧ r = .s 1 0 0 (longL l).length cap 1 ∧ H = [rPc l, rIO (longL l) cap]) := by
  have hlen := order_len hv
  have hll := long_len hv
  refine sp_weak ?_
  refine sp_of_ex true [] mixed Try.call49 Try.func49 rfl Try.ntmps49 Try.results49 (by decide +kernel) rfl ?_
  simp only [push_cast, ↓branch_true, ↓branch_false, Nat.reduceBEq, Nat.reduceAdd, Nat.reduceMul, Nat.reduceSub, Int.reduceToNat, reduceCtorEq, branch_decide, branch_not, branch_beq, branch_bne]
  refine tr_loop mixed (by kernel_rfl) (fun (x : Nat × Nat) => [(10, .v (.int .i64 x.1)), (9, .v (.int .i64 l.length)), (3, .s 2 0 0 (rng x.1).length x.2 1), (1, .p 1 0 0), (0, .s 0 0 0 l.length c 2)])
    (fun x => [rPc l, rBoxB 0 l.length c, rIO (rng x.1) x.2]) (fun x => x.1 ≤ l.length ∧ x.1 ≤ x.2) (fun x => l.length - x.1) (0, 0) ⟨Nat.zero_le _, Nat.le_refl _⟩ (Mt.wk (rl := [0, 1, 2]) ⟨by kernel_rfl, ?_, ?_⟩) ?_
  · simp only [push_cast, ↓branch_true, ↓branch_false, Nat.reduceBEq, Nat.reduceAdd, Nat.reduceMul, Nat.reduceSub, Int.reduceToNat, reduceCtorEq, branch_decide, branch_not, branch_beq, branch_bne]
    simp [rng]
  · simp only [push_cast, ↓branch_true, ↓branch_false, Nat.reduceBEq, Nat.reduceAdd, Nat.reduceMul, Nat.reduceSub, Int.reduceToNat, reduceCtorEq, branch_decide, branch_not, branch_beq, branch_bne]
    simp [rng]
  rintro ⟨k, cap⟩ ⟨h1, h2⟩
  simp only at h1 h2
  have hrl := rng_len k
  simp only [push_cast, ↓branch_true, ↓branch_false, Nat.reduceBEq, Nat.reduceAdd, Nat.reduceMul, Nat.reduceSub, Int.reduceToNat, reduceCtorEq, branch_decide, branch_not, branch_beq, branch_bne]
  refine ⟨fun h => ?_, fun h => ?_⟩
  · repeat (with_reducible refine And.intro (by omega) ?_)
    refine Or.inr ?_
    repeat (with_reducible refine And.intro (by omega) ?_)
    intro cap2 hcap2
    repeat (with_reducible refine And.intro (by omega) ?_)
    refine lpK_normal (k + 1, cap2) [0, 1, 4] ⟨by simp only; omega, by simp only; omega⟩ (by simp only; omega) (by kernel_rfl) ?_ ?_
    · simp only [push_cast, ↓branch_true, ↓branch_false, Nat.reduceBEq, Nat.reduceAdd, Nat.reduceMul, Nat.reduceSub, Int.reduceToNat, reduceCtorEq, branch_decide, branch_not, branch_beq, branch_bne, rng_len]
    · simp only [push_cast, ↓branch_true, ↓branch_false, Nat.reduceBEq, Nat.reduceAdd, Nat.reduceMul, Nat.reduceSub, Int.reduceToNat, reduceCtorEq, branch_decide, branch_not, branch_beq, branch_bne]
      exact fun i hi => app_int (rng_succ k) _
  · obtain rfl : k = l.length := by omega
    refine sp_at (sort_sp 79 [] [.p 1 0 0] (rng l.length).length cap [rBoxB 2 l.length c, rPc l] (VB l) (fun y x => y < x) _ (KH l) (fun k => ix (rng l.length) k) (h_cmp l hv c _ cap) (knH (by omega)) (fun k _ h => by have e := rng_ix (n := l.length) (k := k) (by omega); show VB l (ix (rng l.length) k); rw [e]; exact ⟨by omega, by omega⟩) (fun p q h1 h2 => by have e1 := rng_ix (n := l.length) (k := p) (by omega); have e2 := rng_ix (n := l.length) (k := q) (by omega); show ix (rng l.length) p < ix (rng l.length) q; rw [e1, e2]; omega) rfl (by omega) (by omega)) [2, 1, 0] rfl ?_ ?_ ?_
    · simp only [push_cast, ↓branch_true, ↓branch_false, Nat.reduceBEq, Nat.reduceAdd, Nat.reduceMul, Nat.reduceSub, Int.reduceToNat, reduceCtorEq, branch_decide, branch_not, branch_beq, branch_bne]
    · simp only [push_cast, ↓branch_true, ↓branch_false, Nat.reduceBEq, Nat.reduceAdd, Nat.reduceMul, Nat.reduceSub, Int.reduceToNat, reduceCtorEq, branch_decide, branch_not, branch_beq, branch_bne]
    rintro _ _ ⟨f', rfl, rfl, hi⟩
    simp only [push_cast, ↓branch_true, ↓branch_false, Nat.reduceBEq, Nat.reduceAdd, Nat.reduceMul, Nat.reduceSub, Int.reduceToNat, reduceCtorEq, branch_decide, branch_not, branch_beq, branch_bne]
    have hs := sorted_of hi fun x hx y hy => kH_inj (by omega) (rng_mem hx) (rng_mem hy)
    rw [hrl] at hs
    refine tr_loop mixed (by kernel_rfl) (fun (x : Nat × Nat) => [(23, .v (.int .i64 x.1)), (22, .v (.int .i64 l.length)), (21, .s 2 0 0 l.length cap 1), (5, .s 3 0 0 (repF l ((lnO l).take x.1)).length x.2 1), (1, .p 1 0 0)])
      (fun x => [rPc l, rBoxB 0 l.length c, rOwn 3 l.length cap (fun k => ix (lnO l) k), rIO (repF l ((lnO l).take x.1)) x.2]) (fun x => x.1 ≤ l.length ∧ (repF l ((lnO l).take x.1)).length ≤ x.2) (fun x => l.length - x.1) (0, 0) ⟨Nat.zero_le _, Nat.le_refl _⟩ (Mt.wk (rl := [0, 1, 2, 3]) ⟨by kernel_rfl, ?_, ?_⟩) ?_
    · simp only [push_cast, ↓branch_true, ↓branch_false, Nat.reduceBEq, Nat.reduceAdd, Nat.reduceMul, Nat.reduceSub, Int.reduceToNat, reduceCtorEq, branch_decide, branch_not, branch_beq, branch_bne, hrl]
      exact rfl
    · simp only [push_cast, ↓branch_true, ↓branch_false, Nat.reduceBEq, Nat.reduceAdd, Nat.reduceMul, Nat.reduceSub, Int.reduceToNat, reduceCtorEq, branch_decide, branch_not, branch_beq, branch_bne, hrl]
      refine ⟨fun i _ q hq => ?_, ?_⟩
      · rw [hs q hq]; rfl
      · exact .inl rfl
    rintro ⟨k, co⟩ ⟨g1, g2⟩
    simp only at g1 g2
    have hol := lnO_len l
    simp only [push_cast, ↓branch_true, ↓branch_false, Nat.reduceBEq, Nat.reduceAdd, Nat.reduceMul, Nat.reduceSub, Int.reduceToNat, reduceCtorEq, branch_decide, branch_not, branch_beq, branch_bne]
    refine ⟨fun h3 => ?_, fun h3 => ?_⟩
    rotate_left
    · obtain rfl : k = l.length := by omega
      have e : repF l ((lnO l).take l.length) = longL l := by rw [show (lnO l).take l.length = lnO l by rw [← hol, List.take_length]]; rfl
      rw [e] at g2 ⊢
      refine ⟨_, _, [0, 3], ?_, by kernel_rfl, ?_, co, g2, rfl, rfl⟩
      · simp only [push_cast, ↓branch_true, ↓branch_false, Nat.reduceBEq, Nat.reduceAdd, Nat.reduceMul, Nat.reduceSub, Int.reduceToNat, reduceCtorEq, branch_decide, branch_not, branch_beq, branch_bne]
      · simp only [push_cast, ↓branch_true, ↓branch_false, Nat.reduceBEq, Nat.reduceAdd, Nat.reduceMul, Nat.reduceSub, Int.reduceToNat, reduceCtorEq, branch_decide, branch_not, branch_beq, branch_bne]
    have hk : k < l.length := by omega
    have hi := lnO_mem (ix_mem (l := lnO l) (k := k) (by omega))
    have hp := order_at hv (k := (ix (lnO l) k).toNat) (by omega)
    have hmo := rep_mono l (lnO l) (k + 1)
    have hsn : repF l ((lnO l).take (k + 1)) = repF l ((lnO l).take k) ++ List.replicate (ix l (ix (lnO l) k).toNat).cnt.toNat (ix (lnO l) k) := by rw [take_snoc (by omega), repF_snoc]
    change _ ≤ (longL l).length at hmo
    rw [hsn, List.length_append, List.length_replicate] at hmo
    generalize hP : repF l ((lnO l).take k) = P at *
    obtain ⟨n, hn⟩ : ∃ n : Nat, (ix l (ix (lnO l) k).toNat).cnt = n := ⟨(ix l (ix (lnO l) k).toNat).cnt.toNat, by omega⟩
    generalize hI : ix (lnO l) k = I at *
    rw [hn] at hmo hsn hp
    rw [Int.toNat_natCast] at hmo hsn
    simp only [push_cast, ↓branch_true, ↓branch_false, Nat.reduceBEq, Nat.reduceAdd, Nat.reduceMul, Nat.reduceSub, Int.reduceToNat, reduceCtorEq, branch_decide, branch_not, branch_beq, branch_bne, hI, hn]
    repeat (with_reducible refine And.intro (by omega) ?_)
    refine tr_loop mixed (by kernel_rfl) (fun (x : Nat × Nat) => [(32, .v (.int .i64 x.1)), (31, .v (.int .i64 n)), (7, .v (.int .i64 I)), (5, .s 3 0 0 (P ++ List.replicate x.1 I).length x.2 1), (23, .v (.int .i64 k)), (22, .v (.int .i64 l.length)), (21, .s 2 0 0 l.length cap 1), (1, .p 1 0 0)])
      (fun x => [rPc l, rBoxB 0 l.length c, rOwn 3 l.length cap (fun k => ix (lnO l) k), rIO (P ++ List.replicate x.1 I) x.2]) (fun x => x.1 ≤ n ∧ P.length + x.1 ≤ x.2) (fun x => n - x.1) (0, co) ⟨Nat.zero_le _, g2⟩ (Mt.wk (rl := [0, 1, 2, 3]) ⟨by kernel_rfl, ?_, ?_⟩) ?_
    · simp only [push_cast, ↓branch_true, ↓branch_false, Nat.reduceBEq, Nat.reduceAdd, Nat.reduceMul, Nat.reduceSub, Int.reduceToNat, reduceCtorEq, branch_decide, branch_not, branch_beq, branch_bne, List.replicate_zero, List.append_nil]
    · simp only [push_cast, ↓branch_true, ↓branch_false, Nat.reduceBEq, Nat.reduceAdd, Nat.reduceMul, Nat.reduceSub, Int.reduceToNat, reduceCtorEq, branch_decide, branch_not, branch_beq, branch_bne, List.replicate_zero, List.append_nil]
    rintro ⟨j, cj⟩ ⟨f1, f2⟩
    simp only at f1 f2
    have hjl : (P ++ List.replicate j I).length = P.length + j := by simp
    have hre : P ++ List.replicate (j + 1) I = (P ++ List.replicate j I) ++ [I] := by rw [List.append_assoc, List.replicate_succ']
    simp only [push_cast, ↓branch_true, ↓branch_false, Nat.reduceBEq, Nat.reduceAdd, Nat.reduceMul, Nat.reduceSub, Int.reduceToNat, reduceCtorEq, branch_decide, branch_not, branch_beq, branch_bne]
    refine ⟨fun h4 => ?_, fun h4 => ?_⟩
    · repeat (with_reducible refine And.intro (by omega) ?_)
      refine Or.inr ?_
      repeat (with_reducible refine And.intro (by omega) ?_)
      intro c3 hc3
      repeat (with_reducible refine And.intro (by omega) ?_)
      refine lpK_normal (j + 1, c3) [0, 1, 2, 5] ⟨by simp only; omega, by simp only; omega⟩ (by simp only; omega) (by kernel_rfl) ?_ ?_
      · simp only [push_cast, ↓branch_true, ↓branch_false, Nat.reduceBEq, Nat.reduceAdd, Nat.reduceMul, Nat.reduceSub, Int.reduceToNat, reduceCtorEq, branch_decide, branch_not, branch_beq, branch_bne, hre, List.length_append]
      · simp only [push_cast, ↓branch_true, ↓branch_false, Nat.reduceBEq, Nat.reduceAdd, Nat.reduceMul, Nat.reduceSub, Int.reduceToNat, reduceCtorEq, branch_decide, branch_not, branch_beq, branch_bne]
        exact fun i hi => app_int hre _
    · obtain rfl : j = n := by omega
      repeat (with_reducible refine And.intro (by omega) ?_)
      refine lpK_normal (k + 1, cj) [0, 1, 2, 3] ⟨by simp only; omega, by simp only; rw [hsn, hjl]; exact f2⟩ (by simp only; omega) (by kernel_rfl) ?_ ?_
      · simp only [push_cast, ↓branch_true, ↓branch_false, Nat.reduceBEq, Nat.reduceAdd, Nat.reduceMul, Nat.reduceSub, Int.reduceToNat, reduceCtorEq, branch_decide, branch_not, branch_beq, branch_bne, hsn]
      · simp only [push_cast, ↓branch_true, ↓branch_false, Nat.reduceBEq, Nat.reduceAdd, Nat.reduceMul, Nat.reduceSub, Int.reduceToNat, reduceCtorEq, branch_decide, branch_not, branch_beq, branch_bne, hsn]
end Go.Proofs.Ythlpfjcjfhdmaaa
