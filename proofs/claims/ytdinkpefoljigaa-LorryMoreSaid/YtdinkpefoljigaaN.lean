/- Contracts: the first number with a property; plain facts on greedy loads. -/
import Derived.Test.YtdinkpefoljigaaM
set_option maxRecDepth 100000
set_option linter.unusedSimpArgs false
set_option linter.unusedVariables false
namespace Go.Proofs.Ytdinkpefoljigaa
open Go.RowKit
def rIR (l : List Int) : Ob := ⟨3, true, .row 1 1 (fun _ => l.length) (fun _ => 0) (fun _ k => [.v (.int .i64 (ix l k))])⟩
attribute [push_cast] rIR
theorem indexI_pu (l : List Int) (c : Nat) (g : FuncId) (fs cs : List SV) (H : List Ob) (p : Int → Bool) (hro : roB H = true) (hl : l.length ≤ 9223372036854775807)
    (hp : ∀ x ∈ l, Pu Try.prog g (fs ++ [.v (.int .i64 x)] ++ cs) (rIR l :: H) (.v (.bool (p x)))) : Pu Try.prog 43 [.s 0 0 0 l.length c 1, .f (.func g) fs cs] (rIR l :: H) (.v (.int .i64 (idxB p l 0))) := by
  refine pu_of_ex true [] mixed Try.call43 Try.func43 rfl Try.ntmps43 Try.results43 (by decide +kernel) rfl (by simp [roB, hro, rIR]) rfl ?_
  simp only [push_cast, ↓branch_true, ↓branch_false, Nat.reduceBEq, Nat.reduceAdd, Nat.reduceMul, Nat.reduceSub, Int.reduceToNat, reduceCtorEq, branch_decide, branch_not, branch_beq, branch_bne]
  refine tr_loop0 mixed (by kernel_rfl) (fun (k : Nat) => [(8, .v (.int .i64 k)), (7, .v (.int .i64 l.length)), (0, .s 0 0 0 l.length c 1), (1, .f (.func g) fs cs)]) (fun k => k ≤ l.length ∧ ∀ j, j < k → p (ix l j) = false) (fun k => l.length - k) 0 ⟨Nat.zero_le _, fun j h => by omega⟩ ?_ ?_
  · simp only [push_cast, ↓branch_true, ↓branch_false, Nat.reduceBEq, Nat.reduceAdd, Nat.reduceMul, Nat.reduceSub, Int.reduceToNat, reduceCtorEq, branch_decide, branch_not, branch_beq, branch_bne]
  · rintro k ⟨hk, hn⟩
    simp only [push_cast, ↓branch_true, ↓branch_false, Nat.reduceBEq, Nat.reduceAdd, Nat.reduceMul, Nat.reduceSub, Int.reduceToNat, reduceCtorEq, branch_decide, branch_not, branch_beq, branch_bne]
    refine ⟨fun h1 => ?_, fun h1 => ?_⟩
    · repeat (with_reducible refine And.intro (by omega) ?_)
      have hp1 := hp _ (ix_mem (l := l) (k := k) (by omega))
      refine sp_pu (by simpa only [push_cast] using hp1) ?_
      simp only [push_cast, ↓branch_true, ↓branch_false, Nat.reduceBEq, Nat.reduceAdd, Nat.reduceMul, Nat.reduceSub, Int.reduceToNat, reduceCtorEq, branch_decide, branch_not, branch_beq, branch_bne]
      simp only [branch]
      refine ⟨fun h2 => ?_, fun h2 => ?_⟩
      · rw [idxB_at p l 0 k (by omega) hn h2]; simp
      · repeat (with_reducible refine And.intro (by omega) ?_)
        refine lp0_normal (k + 1) ⟨by omega, fun j hj => ?_⟩ (by omega) ?_
        · by_cases e : j = k
          · rw [e]; exact h2
          · exact hn j (by omega)
        · simp only [push_cast, ↓branch_true, ↓branch_false, Nat.reduceBEq, Nat.reduceAdd, Nat.reduceMul, Nat.reduceSub, Int.reduceToNat, reduceCtorEq, branch_decide, branch_not, branch_beq, branch_bne]
    · rw [idxB_none p l 0 fun j hj => hn j (by omega)]
/-- A variable that holds a number. -/
def oI (i : Int) : Ob := ⟨3, true, .st [.v (.int .i64 i)]⟩
attribute [push_cast] oI
def fitB (l : List Bun) (most i n : Int) : Bool := decide (n + (ix l i.toNat).mass ≤ most)
theorem gcl_pu (l : List Bun) (c : Nat) (most i n : Int) (hv : vB l = true) (hi : 0 ≤ i ∧ i < l.length) (hn : 0 ≤ n ∧ n ≤ 1099511627776) : Pu Try.prog 44 [.v (.int .i64 n), .p 0 0 0, .p 1 0 0, .p 2 0 0] [rBoxB 3 l.length c, oI i, oI most, rB l] (.v (.bool (fitB l most i n))) := by
  have m1 := okA_mass ((vB_yes.1 hv).2 i.toNat (by omega))
  refine pu_of_ex true [] mixed Try.call44 Try.func44 rfl Try.ntmps44 Try.results44 (by decide +kernel) rfl rfl rfl ?_
  simp only [push_cast, ↓branch_true, ↓branch_false, Nat.reduceBEq, Nat.reduceAdd, Nat.reduceMul, Nat.reduceSub, Int.reduceToNat, reduceCtorEq, branch_decide, branch_not, branch_beq, branch_bne]
  unfold fitB
  repeat (first | (with_reducible refine And.intro (by omega) ?_) | omega | rfl)
/-- The mass of a load. -/
def massL (l : List Bun) (x : List Int) : Int := (x.map fun i => (ix l i.toNat).mass).sum
theorem massL_app (l : List Bun) (x y : List Int) : massL l (x ++ y) = massL l x + massL l y := by simp [massL]
theorem massL_one (l : List Bun) (i : Int) : massL l [i] = (ix l i.toNat).mass := by simp [massL]
/-- A bundle joins the first load that it fits in, or a new one. -/
def gput (i : Int) (k : Nat) (out : List (List Int)) : List (List Int) := if k < out.length then out.set k (ix out k ++ [i]) else out ++ [[i]]
def fitAt (l : List Bun) (most i : Int) (out : List (List Int)) : Nat := out.findIdx fun x => fitB l most i (massL l x)
def gstep (l : List Bun) (most : Int) (out : List (List Int)) (i : Int) : List (List Int) := gput i (fitAt l most i out) out
def greedyT (l : List Bun) (most : Int) (k : Nat) : List (List Int) := ((heavO l).take k).foldl (gstep l most) []
def greedyL (l : List Bun) (most : Int) : List (List Int) := (heavO l).foldl (gstep l most) []
theorem greedyT_succ {l : List Bun} {most : Int} {k : Nat} (h : k < (heavO l).length) : greedyT l most (k + 1) = gstep l most (greedyT l most k) (ix (heavO l) k) := by
  unfold greedyT
  rw [take_snoc h, List.foldl_append]
  rfl
theorem greedyT_all (l : List Bun) (most : Int) : greedyT l most l.length = greedyL l most := by
  unfold greedyT greedyL
  rw [List.take_of_length_le (by rw [heavO_len]; exact Nat.le_refl _)]
/-- What holds of loads all the way. -/
structure Lds (l : List Bun) (most : Int) (out : List (List Int)) : Prop where
  mem : ∀ x ∈ out, ∀ i ∈ x, 0 ≤ i ∧ i < l.length
  mass : ∀ x ∈ out, 0 ≤ massL l x ∧ massL l x ≤ most
  some : ∀ x ∈ out, x ≠ []
theorem gput_lds {l : List Bun} {most i : Int} {k : Nat} {out : List (List Int)} (hv : vB l = true) (h : Lds l most out) (hi : 0 ≤ i ∧ i < l.length) (hm : (ix l i.toNat).mass ≤ most) (hk : k < out.length → massL l (ix out k) + (ix l i.toNat).mass ≤ most) : Lds l most (gput i k out) := by
  have m1 := okA_mass ((vB_yes.1 hv).2 i.toNat (by omega))
  unfold gput
  split
  · rename_i hlt
    have hx := ix_mem hlt
    refine ⟨fun x hx' j hj => ?_, fun x hx' => ?_, fun x hx' => ?_⟩
    · rcases List.mem_or_eq_of_mem_set hx' with hx' | rfl
      · exact h.mem x hx' j hj
      · rcases List.mem_append.1 hj with hj | hj
        · exact h.mem _ hx j hj
        · simp at hj; subst hj; exact hi
    · rcases List.mem_or_eq_of_mem_set hx' with hx' | rfl
      · exact h.mass x hx'
      · rw [massL_app, massL_one]
        have := h.mass _ hx
        have := hk hlt
        omega
    · rcases List.mem_or_eq_of_mem_set hx' with hx' | rfl
      · exact h.some x hx'
      · simp
  · refine ⟨fun x hx' j hj => ?_, fun x hx' => ?_, fun x hx' => ?_⟩
    · rcases List.mem_append.1 hx' with hx' | hx'
      · exact h.mem x hx' j hj
      · simp at hx'; subst hx'; simp at hj; subst hj; exact hi
    · rcases List.mem_append.1 hx' with hx' | hx'
      · exact h.mass x hx'
      · simp at hx'; subst hx'; rw [massL_one]; omega
    · rcases List.mem_append.1 hx' with hx' | hx'
      · exact h.some x hx'
      · simp at hx'; subst hx'; simp
theorem gput_len {i : Int} {k : Nat} {out : List (List Int)} : (gput i k out).length ≤ out.length + 1 := by
  unfold gput
  split <;> simp
theorem fitAt_le (l : List Bun) (most i : Int) (out : List (List Int)) : fitAt l most i out ≤ out.length := List.findIdx_le_length
theorem fitAt_fits {l : List Bun} {most i : Int} {out : List (List Int)} (h : fitAt l most i out < out.length) : massL l (ix out (fitAt l most i out)) + (ix l i.toNat).mass ≤ most := by
  have h2 : fitB l most i (massL l (out[fitAt l most i out]'h)) = true := List.findIdx_getElem (p := fun x => fitB l most i (massL l x)) (w := h)
  rw [ix_eq h]
  simpa [fitB] using h2
theorem lds_T {l : List Bun} {most : Int} (hv : vB l = true) (hm : ∀ k, k < l.length → (ix l k).mass ≤ most) : ∀ k, k ≤ l.length → Lds l most (greedyT l most k) ∧ (greedyT l most k).length ≤ k
  | 0, _ => ⟨⟨fun x hx => by simp [greedyT] at hx, fun x hx => by simp [greedyT] at hx, fun x hx => by simp [greedyT] at hx⟩, by simp [greedyT]⟩
  | k + 1, h => by
    obtain ⟨ih1, ih2⟩ := lds_T hv hm k (by omega)
    have hk : k < (heavO l).length := by rw [heavO_len]; omega
    have hi := heavO_mem (ix_mem hk)
    rw [greedyT_succ hk]
    refine ⟨gput_lds hv ih1 hi (hm _ (by omega)) fun h => fitAt_fits h, ?_⟩
    have := gput_len (i := ix (heavO l) k) (k := fitAt l most (ix (heavO l) k) (greedyT l most k)) (out := greedyT l most k)
    unfold gstep
    omega
theorem mem_len {l : List Bun} {most : Int} : ∀ k, k ≤ l.length → ∀ x ∈ greedyT l most k, x.length ≤ k
  | 0, _, x, hx => by simp [greedyT] at hx
  | k + 1, h, x, hx => by
    have hk : k < (heavO l).length := by rw [heavO_len]; omega
    have ih := mem_len (l := l) (most := most) k (by omega)
    rw [greedyT_succ hk] at hx
    unfold gstep gput at hx
    split at hx
    · rename_i hlt
      rcases List.mem_or_eq_of_mem_set hx with hx | rfl
      · have := ih x hx; omega
      · have := ih _ (ix_mem hlt); simp; omega
    · rcases List.mem_append.1 hx with hx | hx
      · have := ih x hx; omega
      · simp at hx; subst hx; simp
/-- What IndexFunc finds. -/
theorem idx_fit (l : List Bun) (most i : Int) (out : List (List Int)) : idxB (fitB l most i) (out.map (massL l)) 0 = if fitAt l most i out < out.length then (fitAt l most i out : Int) else -1 := by
  split
  · rename_i h
    have e := idxB_at (fitB l most i) (out.map (massL l)) 0 (fitAt l most i out) (by simpa using h) (fun j hj => ?_) ?_
    · rw [e]; simp
    · have := List.not_of_lt_findIdx (p := fun x => fitB l most i (massL l x)) (xs := out) (i := j) hj
      rw [ix_eq (by simp; omega), List.getElem_map]
      simpa using this
    · have := List.findIdx_getElem (p := fun x => fitB l most i (massL l x)) (xs := out) (w := h)
      rw [ix_eq (by simpa using h), List.getElem_map]
      exact this
  · rename_i h
    refine idxB_none _ _ _ fun j hj => ?_
    have hj' : j < out.length := by simpa using hj
    have := List.not_of_lt_findIdx (p := fun x => fitB l most i (massL l x)) (xs := out) (i := j) (by unfold fitAt at h; omega)
    rw [ix_eq hj, List.getElem_map]
    simpa using this
end Go.Proofs.Ytdinkpefoljigaa
