/- Contracts: the order by masses. -/
import Derived.Test.YtdinkpefoljigaaL
set_option maxRecDepth 100000
set_option linter.unusedSimpArgs false
set_option linter.unusedVariables false
namespace Go.Proofs.Ytdinkpefoljigaa
open Go.RowKit
theorem app_int {p q : List Int} {v : Int} (e : q = p ++ [v]) (rl : List Nat) : q.length ≤ p.length + 1 ∧ ∀ k, k < q.length → Value.int IntKind.i64 (ix q k) = Value.int IntKind.i64 (bif decide (k < p.length) then ix p k else v) ∧ mtL rl [] (bif decide (k < p.length) then [] else []) := by
  subst e
  refine ⟨by simp, fun k hk => ?_⟩
  have h2 : mtL rl [] (bif decide (k < p.length) then ([] : List SV) else []) := by cases decide (k < p.length) <;> simp [mtL]
  refine ⟨?_, h2⟩
  rw [ix_eq hk]
  by_cases h : k < p.length
  · simp [h, ix_eq h, List.getElem_append_left h]
  · have : k = p.length := by simp at hk; omega
    subst this
    simp
def rIO (l : List Int) (cap : Nat) : Ob := rOwn 3 l.length cap (fun k => ix l k)
attribute [push_cast] rIO
theorem sorted_of {K : Int → Int} {p : List Int} {f' : Nat → Int} (h : InI K (fun k => ix p k) 0 p.length f') (hi : ∀ x ∈ p, ∀ y ∈ p, K x = K y → x = y) : ∀ k, k < p.length → f' k = ix (sortK K p) k := by
  have e : seg (fun k => ix p k) 0 p.length = p := by
    apply List.ext_getElem (by rw [seg_len])
    intro i h1 h2
    simp only [seg, List.getElem_map, List.getElem_range, Nat.zero_add]
    exact ix_eq h2
  have h2 := h.perm
  rw [Nat.sub_zero, e] at h2
  have h3 := seg_sorted h2 hi h.up
  exact fun k hk => seg_ix h3 hk
/-- A variable that holds bundles. -/
def rBoxB (j : Nat) (n c : Nat) : Ob := ⟨22, true, .st [.s j 0 0 n c 4]⟩
attribute [push_cast] rBoxB
theorem hcmp_pu (l : List Bun) (c : Nat) (x y : Int) (hv : vB l = true) (hx : 0 ≤ x ∧ x < l.length) (hy : 0 ≤ y ∧ y < l.length) : Pu Try.prog 60 [.v (.int .i64 x), .v (.int .i64 y), .p 0 0 0] [rBoxB 1 l.length c, rB l] (.v (.int .i64 ((ix l y.toNat).mass - (ix l x.toNat).mass))) := by
  have m1 := okA_mass ((vB_yes.1 hv).2 x.toNat (by omega))
  have m2 := okA_mass ((vB_yes.1 hv).2 y.toNat (by omega))
  refine pu_of_ex true [] mixed Try.call60 Try.func60 rfl Try.ntmps60 Try.results60 (by decide +kernel) rfl rfl rfl ?_
  simp only [push_cast, ↓branch_true, ↓branch_false, Nat.reduceBEq, Nat.reduceAdd, Nat.reduceMul, Nat.reduceSub, Int.reduceToNat, reduceCtorEq, branch_decide, branch_not, branch_beq, branch_bne]
  repeat (first | (with_reducible refine And.intro (by omega) ?_) | omega)
def VB (l : List Bun) (x : Int) : Prop := 0 ≤ x ∧ x < l.length
theorem h_cmp (l : List Bun) (hv : vB l = true) (c n cap : Nat) : Cmp 60 [] [.p 1 0 0] n cap [rBoxB 2 l.length c, rB l] (VB l) (fun x y => (ix l y.toNat).mass - (ix l x.toNat).mass) := fun f x y hx hy =>
  pu_at (hcmp_pu l c x y hv hx hy) rfl [1, 2] rfl (by (simp only [push_cast, ↓branch_true, ↓branch_false, Nat.reduceBEq, Nat.reduceAdd, Nat.reduceMul, Nat.reduceSub, Int.reduceToNat, reduceCtorEq, branch_decide, branch_not, branch_beq, branch_bne])) (by (simp only [push_cast, ↓branch_true, ↓branch_false, Nat.reduceBEq, Nat.reduceAdd, Nat.reduceMul, Nat.reduceSub, Int.reduceToNat, reduceCtorEq, branch_decide, branch_not, branch_beq, branch_bne]))
def KH (l : List Bun) (x : Int) : Int := -(ix l x.toNat).mass * 2000 + x
theorem knH {l : List Bun} (h : l.length ≤ 1000) : Kn (VB l) (fun y x => y < x) (fun x y => (ix l y.toNat).mass - (ix l x.toNat).mass) (KH l) := ⟨fun x y hx hy hO => by
  obtain ⟨x1, x2⟩ := hx
  obtain ⟨y1, y2⟩ := hy
  simp only [KH]
  omega⟩
theorem kH_inj {l : List Bun} (h : l.length ≤ 1000) {x y : Int} (hx : VB l x) (hy : VB l y) (e : KH l x = KH l y) : x = y := by
  obtain ⟨x1, x2⟩ := hx
  obtain ⟨y1, y2⟩ := hy
  simp only [KH] at e
  omega
/-- The numbers from 0 on. -/
def rng (n : Nat) : List Int := (List.range n).map fun (k : Nat) => (k : Int)
theorem rng_len (n : Nat) : (rng n).length = n := by simp [rng]
theorem rng_succ (n : Nat) : rng (n + 1) = rng n ++ [(n : Int)] := by simp [rng, List.range_succ]
theorem rng_ix {n k : Nat} (h : k < n) : ix (rng n) k = k := by rw [ix_eq (by rw [rng_len]; exact h)]; simp [rng]
theorem rng_mem {n : Nat} {x : Int} (h : x ∈ rng n) : 0 ≤ x ∧ x < n := by
  simp only [rng, List.mem_map, List.mem_range] at h
  obtain ⟨k, h1, rfl⟩ := h
  omega
/-- The heaviest bundles first. -/
def heavO (l : List Bun) : List Int := sortK (KH l) (rng l.length)
theorem heavO_len (l : List Bun) : (heavO l).length = l.length := by rw [heavO, (sortK_perm _ _).length_eq, rng_len]
theorem heavO_mem {l : List Bun} {x : Int} (h : x ∈ heavO l) : 0 ≤ x ∧ x < l.length := rng_mem ((sortK_perm _ _).mem_iff.1 h)
theorem heaviest_sp (l : List Bun) (c : Nat) (hv : vB l = true) : Sp Try.prog 42 [.s 0 0 0 l.length c 4] [rB l] (fun r H => ∃ cap, l.length ≤ cap ∧ r = .s 1 0 0 l.length cap 1 ∧ H = [rB l, rOwn 3 l.length cap (fun k => ix (heavO l) k)]) := by
  have hlen := (vB_yes.1 hv).1
  refine sp_weak ?_
  refine sp_of_ex true [] mixed Try.call42 Try.func42 rfl Try.ntmps42 Try.results42 (by decide +kernel) rfl ?_
  simp only [push_cast, ↓branch_true, ↓branch_false, Nat.reduceBEq, Nat.reduceAdd, Nat.reduceMul, Nat.reduceSub, Int.reduceToNat, reduceCtorEq, branch_decide, branch_not, branch_beq, branch_bne]
  refine tr_loop mixed (by kernel_rfl) (fun (x : Nat × Nat) => [(7, .v (.int .i64 x.1)), (6, .v (.int .i64 l.length)), (3, .s 2 0 0 (rng x.1).length x.2 1), (1, .p 1 0 0), (0, .s 0 0 0 l.length c 4)])
    (fun x => [rB l, rBoxB 0 l.length c, rIO (rng x.1) x.2]) (fun x => x.1 ≤ l.length ∧ x.1 ≤ x.2) (fun x => l.length - x.1) (0, 0) ⟨Nat.zero_le _, Nat.le_refl _⟩ (Mt.wk (rl := [0, 1, 2]) ⟨by kernel_rfl, ?_, ?_⟩) ?_
  · simp only [push_cast, ↓branch_true, ↓branch_false, Nat.reduceBEq, Nat.reduceAdd, Nat.reduceMul, Nat.reduceSub, Int.reduceToNat, reduceCtorEq, branch_decide, branch_not, branch_beq, branch_bne]
    simp [rng]
  · simp only [push_cast, ↓branch_true, ↓branch_false, Nat.reduceBEq, Nat.reduceAdd, Nat.reduceMul, Nat.reduceSub, Int.reduceToNat, reduceCtorEq, branch_decide, branch_not, branch_beq, branch_bne]
    simp [rng]
  rintro ⟨k, cap⟩ ⟨h1, h2⟩
  simp only at h1 h2
  have hrl := rng_len k
  simp only [push_cast, ↓branch_true, ↓branch_false, Nat.reduceBEq, Nat.reduceAdd, Nat.reduceMul, Nat.reduceSub, Int.reduceToNat, reduceCtorEq, branch_decide, branch_not, branch_beq, branch_bne]
  refine ⟨fun h => ?_, fun h => ?_⟩
  · repeat (with_reducible refine And.intro (by omega) ?_)
    refine Or.inr ?_
    repeat (with_reducible refine And.intro (by omega) ?_)
    intro cap2 hcap2
    repeat (with_reducible refine And.intro (by omega) ?_)
    refine lpK_normal (k + 1, cap2) [0, 1, 4] ⟨by simp only; omega, by simp only; omega⟩ (by simp only; omega) (by kernel_rfl) ?_ ?_
    · simp only [push_cast, ↓branch_true, ↓branch_false, Nat.reduceBEq, Nat.reduceAdd, Nat.reduceMul, Nat.reduceSub, Int.reduceToNat, reduceCtorEq, branch_decide, branch_not, branch_beq, branch_bne, rng_len]
    · simp only [push_cast, ↓branch_true, ↓branch_false, Nat.reduceBEq, Nat.reduceAdd, Nat.reduceMul, Nat.reduceSub, Int.reduceToNat, reduceCtorEq, branch_decide, branch_not, branch_beq, branch_bne]
      exact fun i hi => app_int (rng_succ k) _
  · obtain rfl : k = l.length := by omega
    refine sp_at (sort_sp 60 [] [.p 1 0 0] (rng l.length).length cap [rBoxB 2 l.length c, rB l] (VB l) (fun y x => y < x) _ (KH l) (fun k => ix (rng l.length) k) (h_cmp l hv c _ cap) (knH hlen) (fun k _ h => by have e := rng_ix (n := l.length) (k := k) (by omega); show VB l (ix (rng l.length) k); rw [e]; exact ⟨by omega, by omega⟩) (fun p q h1 h2 => by have e1 := rng_ix (n := l.length) (k := p) (by omega); have e2 := rng_ix (n := l.length) (k := q) (by omega); show ix (rng l.length) p < ix (rng l.length) q; rw [e1, e2]; omega) rfl (by omega) (by omega)) [2, 1, 0] rfl ?_ ?_ ?_
    · simp only [push_cast, ↓branch_true, ↓branch_false, Nat.reduceBEq, Nat.reduceAdd, Nat.reduceMul, Nat.reduceSub, Int.reduceToNat, reduceCtorEq, branch_decide, branch_not, branch_beq, branch_bne]
    · simp only [push_cast, ↓branch_true, ↓branch_false, Nat.reduceBEq, Nat.reduceAdd, Nat.reduceMul, Nat.reduceSub, Int.reduceToNat, reduceCtorEq, branch_decide, branch_not, branch_beq, branch_bne]
    rintro _ _ ⟨f', rfl, rfl, hi⟩
    simp only [push_cast, ↓branch_true, ↓branch_false, Nat.reduceBEq, Nat.reduceAdd, Nat.reduceMul, Nat.reduceSub, Int.reduceToNat, reduceCtorEq, branch_decide, branch_not, branch_beq, branch_bne]
    have hs := sorted_of hi fun x hx y hy => kH_inj hlen (rng_mem hx) (rng_mem hy)
    refine ⟨_, _, [0, 2], ?_, by kernel_rfl, ?_, cap, h2, rfl, rfl⟩
    · simp only [push_cast, ↓branch_true, ↓branch_false, Nat.reduceBEq, Nat.reduceAdd, Nat.reduceMul, Nat.reduceSub, Int.reduceToNat, reduceCtorEq, branch_decide, branch_not, branch_beq, branch_bne]
      exact hrl.symm
    · simp only [push_cast, ↓branch_true, ↓branch_false, Nat.reduceBEq, Nat.reduceAdd, Nat.reduceMul, Nat.reduceSub, Int.reduceToNat, reduceCtorEq, branch_decide, branch_not, branch_beq, branch_bne]
      exact fun i _ => ⟨by omega, fun k hk => by rw [hs k (by omega)]; rfl⟩
end Go.Proofs.Ytdinkpefoljigaa
