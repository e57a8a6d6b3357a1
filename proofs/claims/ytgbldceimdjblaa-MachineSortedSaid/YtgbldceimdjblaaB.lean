/- Contracts: jobs, and whether they are valid. -/
import Derived.Test.YtgbldceimdjblaaA
set_option maxRecDepth 100000
set_option linter.unusedSimpArgs false
set_option linter.unusedVariables false
namespace Go.Proofs.Ytgbldceimdjblaa
open Go.RowKit
structure Jb where
  mark : ByteArray
  cut : Int
  bend : Int
instance : Inhabited Jb := ⟨⟨⟨#[]⟩, 0, 0⟩⟩
def cJb (x : Jb) : List SV := [.v (.string x.mark), .v (.int .i64 x.cut), .v (.int .i64 x.bend)]
attribute [push_cast] cJb
def rJb (l : List Jb) : Ob := ⟨43, true, .row 3 1 (fun _ => l.length) (fun _ => 0) (fun _ k => cJb (ix l k))⟩
attribute [push_cast] rJb
def stW (x : Jb) : Ob := ⟨43, true, .st (cJb x)⟩
attribute [push_cast] stW
def idxB {α : Type} (p : α → Bool) : List α → Int → Int
  | [], _ => -1
  | x :: l, i => bif p x then i else idxB p l (i + 1)
theorem idxB_at {α : Type} [Inhabited α] (p : α → Bool) : ∀ (l : List α) (i : Int) (k : Nat), k < l.length → (∀ j, j < k → p (ix l j) = false) → p (ix l k) = true → idxB p l i = i + k
  | [], i, k, h, _, _ => by simp at h
  | x :: l, i, 0, _, _, h => by
    have : ix (x :: l) 0 = x := rfl
    rw [this] at h
    simp [idxB, h]
  | x :: l, i, k + 1, hk, hn, h => by
    have e : ∀ j, ix (x :: l) (j + 1) = ix l j := fun j => by unfold ix; simp
    have h0 : p x = false := hn 0 (by omega)
    rw [idxB, h0, cond_false, idxB_at p l (i + 1) k (by simpa using hk) (fun j hj => by have := hn (j + 1) (by omega); rwa [e] at this) (by rwa [e] at h)]
    omega
theorem idxB_none {α : Type} [Inhabited α] (p : α → Bool) : ∀ (l : List α) (i : Int), (∀ j, j < l.length → p (ix l j) = false) → idxB p l i = -1
  | [], _, _ => rfl
  | x :: l, i, h => by
    have e : ∀ j, ix (x :: l) (j + 1) = ix l j := fun j => by unfold ix; simp
    have h0 : p x = false := h 0 (by simp)
    rw [idxB, h0, cond_false, idxB_none p l (i + 1) fun j hj => by have := h (j + 1) (by simpa using hj); rwa [e] at this]
theorem idxB_any {α : Type} (p : α → Bool) : ∀ (l : List α) (i : Int), 0 ≤ i → decide (0 ≤ idxB p l i) = l.any p
  | [], i, _ => by simp [idxB]
  | x :: l, i, h => by
    rw [idxB, List.any_cons]
    cases hx : p x with
    | true => simp [h]
    | false => simpa using idxB_any p l (i + 1) (by omega)
theorem indexJb_pu (l : List Jb) (c : Nat) (g : FuncId) (fs cs : List SV) (H : List Ob) (p : Jb → Bool) (hro : roB H = true) (hl : l.length ≤ 9223372036854775806)
    (hp : ∀ x ∈ l, Pu Try.prog g (fs ++ [.a (cJb x)] ++ cs) (rJb l :: H) (.v (.bool (p x)))) : Pu Try.prog 58 [.s 0 0 0 l.length c 3, .f (.func g) fs cs] (rJb l :: H) (.v (.int .i64 (idxB p l 0))) := by
  refine pu_of_ex true [] mixed Try.call58 Try.func58 rfl Try.ntmps58 Try.results58 (by decide +kernel) rfl (by simp [roB, hro, rJb]) rfl ?_
  simp only [push_cast, ↓branch_true, ↓branch_false, Nat.reduceBEq, Nat.reduceAdd, Nat.reduceMul, Nat.reduceSub, Int.reduceToNat, reduceCtorEq, branch_decide, branch_not, branch_beq, branch_bne]
  refine tr_loop0 mixed (by kernel_rfl) (fun (k : Nat) => [(8, .v (.int .i64 k)), (7, .v (.int .i64 l.length)), (0, .s 0 0 0 l.length c 3), (1, .f (.func g) fs cs)]) (fun k => k ≤ l.length ∧ ∀ j, j < k → p (ix l j) = false) (fun k => l.length - k) 0 ⟨Nat.zero_le _, fun j h => by omega⟩ ?_ ?_
  · simp only [push_cast, ↓branch_true, ↓branch_false, Nat.reduceBEq, Nat.reduceAdd, Nat.reduceMul, Nat.reduceSub, Int.reduceToNat, reduceCtorEq, branch_decide, branch_not, branch_beq, branch_bne]
  · rintro k ⟨hk, hn⟩
    simp only [push_cast, ↓branch_true, ↓branch_false, Nat.reduceBEq, Nat.reduceAdd, Nat.reduceMul, Nat.reduceSub, Int.reduceToNat, reduceCtorEq, branch_decide, branch_not, branch_beq, branch_bne]
    refine ⟨fun h1 => ?_, fun h1 => ?_⟩
    · repeat (with_reducible refine And.intro (by omega) ?_)
      have hp1 := hp _ (ix_mem (l := l) (k := k) (by omega))
      refine sp_pu (by simpa only [push_cast] using hp1) ?_
      simp only [push_cast, ↓branch_true, ↓branch_false, Nat.reduceBEq, Nat.reduceAdd, Nat.reduceMul, Nat.reduceSub, Int.reduceToNat, reduceCtorEq, branch_decide, branch_not, branch_beq, branch_bne]
      simp only [branch]
      refine ⟨fun h2 => ?_, fun h2 => ?_⟩
      · rw [idxB_at p l 0 k (by omega) hn h2]; simp
      · repeat (with_reducible refine And.intro (by omega) ?_)
        refine lp0_normal (k + 1) ⟨by omega, fun j hj => ?_⟩ (by omega) ?_
        · by_cases e : j = k
          · rw [e]; exact h2
          · exact hn j (by omega)
        · simp only [push_cast, ↓branch_true, ↓branch_false, Nat.reduceBEq, Nat.reduceAdd, Nat.reduceMul, Nat.reduceSub, Int.reduceToNat, reduceCtorEq, branch_decide, branch_not, branch_beq, branch_bne]
    · obtain rfl : k = l.length := by omega
      rw [idxB_none p l 0 fun j hj => hn j (by omega)]
theorem containsJb_pu (l : List Jb) (c : Nat) (g : FuncId) (fs cs : List SV) (H : List Ob) (p : Jb → Bool) (hro : roB H = true) (hl : l.length ≤ 9223372036854775806)
    (hp : ∀ x ∈ l, Pu Try.prog g (fs ++ [.a (cJb x)] ++ cs) (rJb l :: H) (.v (.bool (p x)))) : Pu Try.prog 38 [.s 0 0 0 l.length c 3, .f (.func g) fs cs] (rJb l :: H) (.v (.bool (l.any p))) := by
  refine pu_of_ex true [] mixed Try.call38 Try.func38 rfl Try.ntmps38 Try.results38 (by decide +kernel) rfl (by simp [roB, hro, rJb]) rfl ?_
  simp only [push_cast, ↓branch_true, ↓branch_false, Nat.reduceBEq, Nat.reduceAdd, Nat.reduceMul, Nat.reduceSub, Int.reduceToNat, reduceCtorEq, branch_decide, branch_not, branch_beq, branch_bne]
  refine sp_pu (indexJb_pu l c g fs cs H p hro hl hp) ?_
  simp only [push_cast, ↓branch_true, ↓branch_false, Nat.reduceBEq, Nat.reduceAdd, Nat.reduceMul, Nat.reduceSub, Int.reduceToNat, reduceCtorEq, branch_decide, branch_not, branch_beq, branch_bne]
  rw [idxB_any p l 0 (Int.le_refl 0)]
def eqN (a b : ByteArray) : Bool := bytes a == bytes b
theorem same_pu (y x : Jb) : Pu Try.prog 48 [.a (cJb y), .p 0 0 0] [stW x] (.v (.bool (eqN y.mark x.mark))) := by
  refine pu_of_ex true [] mixed Try.call48 Try.func48 rfl Try.ntmps48 Try.results48 (by decide +kernel) rfl rfl rfl ?_
  simp only [push_cast, ↓branch_true, ↓branch_false, Nat.reduceBEq, Nat.reduceAdd, Nat.reduceMul, Nat.reduceSub, Int.reduceToNat, reduceCtorEq, branch_decide, branch_not, branch_beq, branch_bne]
  rw [toList_bytes, toList_bytes]
  rfl
theorem long1_pu (x : Jb) : Pu Try.prog 39 [.a (cJb x)] [] (.v (.bool (decide (100 < x.mark.size)))) := by
  refine pu_of_ex true [] mixed Try.call39 Try.func39 rfl Try.ntmps39 Try.results39 (by decide +kernel) rfl rfl rfl ?_
  simp only [push_cast, ↓branch_true, ↓branch_false, Nat.reduceBEq, Nat.reduceAdd, Nat.reduceMul, Nat.reduceSub, Int.reduceToNat, reduceCtorEq, branch_decide, branch_not, branch_beq, branch_bne]
  congr 2
  rw [decide_eq_decide]
  omega
theorem ix_take {α : Type} [Inhabited α] {l : List α} {k j : Nat} (h : j < k) (hk : k ≤ l.length) : ix (l.take k) j = ix l j := by
  rw [ix_eq (by simp; omega), ix_eq (show j < l.length by omega), List.getElem_take]
/-- Whether a job among others is valid. -/
def okAt (l : List Jb) (i : Nat) : Bool := nameB (ix l i).mark && (decide (0 ≤ (ix l i).cut) && decide ((ix l i).cut ≤ 10000)) && (decide (0 ≤ (ix l i).bend) && decide ((ix l i).bend ≤ 10000)) && !(l.take i).any fun y => eqN y.mark (ix l i).mark
def validB (l : List Jb) : Bool := decide (l.length ≤ 60) && (List.range l.length).all (okAt l)
theorem validB_of {l : List Jb} (h : l.length ≤ 60) (hk : ∀ j, j < l.length → okAt l j = true) : validB l = true := by
  rw [validB, Bool.and_eq_true, decide_eq_true_eq, List.all_eq_true]
  exact ⟨h, fun j hj => hk j (List.mem_range.1 hj)⟩
theorem validB_not {l : List Jb} {k : Nat} (hk : k < l.length) (h : okAt l k = false) : validB l = false := by
  rw [validB, Bool.and_eq_false_iff]
  right
  rw [List.all_eq_false]
  exact ⟨k, List.mem_range.2 hk, by simp [h]⟩
theorem valid_pu (l : List Jb) (c : Nat) (hlc : l.length ≤ c) (hl : l.length ≤ 9223372036854775807) : Pu Try.prog 21 [.s 0 0 0 l.length c 3] [rJb l] (.v (.bool (validB l))) := by
  refine pu_of_ex true [] mixed Try.call21 Try.func21 rfl Try.ntmps21 Try.results21 (by decide +kernel) rfl rfl rfl ?_
  simp only [push_cast, ↓branch_true, ↓branch_false, Nat.reduceBEq, Nat.reduceAdd, Nat.reduceMul, Nat.reduceSub, Int.reduceToNat, reduceCtorEq, branch_decide, branch_not, branch_beq, branch_bne]
  refine ⟨fun h => by simp [validB, show ¬ l.length ≤ 60 by omega], fun h60 => ?_⟩
  refine tr_loop mixed (by kernel_rfl) (fun (k : Nat) => [(10, .v (.int .i64 k)), (9, .v (.int .i64 l.length)), (8, .s 0 0 0 l.length c 3), (0, .s 0 0 0 l.length c 3)]) (fun _ => [rJb l]) (fun k => k ≤ l.length ∧ ∀ j, j < k → okAt l j = true) (fun k => l.length - k) 0 ⟨Nat.zero_le _, fun j h => by omega⟩ (Mt.wk (rl := [0]) ⟨by kernel_rfl, ?_, ?_⟩) ?_
  · simp only [push_cast, ↓branch_true, ↓branch_false, Nat.reduceBEq, Nat.reduceAdd, Nat.reduceMul, Nat.reduceSub, Int.reduceToNat, reduceCtorEq, branch_decide, branch_not, branch_beq, branch_bne]
  · simp only [push_cast, ↓branch_true, ↓branch_false, Nat.reduceBEq, Nat.reduceAdd, Nat.reduceMul, Nat.reduceSub, Int.reduceToNat, reduceCtorEq, branch_decide, branch_not, branch_beq, branch_bne]
  rintro k ⟨r1, r2⟩
  simp only [push_cast, ↓branch_true, ↓branch_false, Nat.reduceBEq, Nat.reduceAdd, Nat.reduceMul, Nat.reduceSub, Int.reduceToNat, reduceCtorEq, branch_decide, branch_not, branch_beq, branch_bne]
  refine ⟨fun h => ?_, fun h => ?_⟩
  · have hk : k < l.length := by omega
    repeat (with_reducible refine And.intro (by omega) ?_)
    refine sp_call (name_pu (ix l k).mark) rfl [] rfl (by simp only [push_cast, ↓branch_true, ↓branch_false, Nat.reduceBEq, Nat.reduceAdd, Nat.reduceMul, Nat.reduceSub, Int.reduceToNat, reduceCtorEq, branch_decide, branch_not, branch_beq, branch_bne]) (by simp only [push_cast, ↓branch_true, ↓branch_false, Nat.reduceBEq, Nat.reduceAdd, Nat.reduceMul, Nat.reduceSub, Int.reduceToNat, reduceCtorEq, branch_decide, branch_not, branch_beq, branch_bne]) ?_
    simp only [push_cast, ↓branch_true, ↓branch_false, Nat.reduceBEq, Nat.reduceAdd, Nat.reduceMul, Nat.reduceSub, Int.reduceToNat, reduceCtorEq, branch_decide, branch_not, branch_beq, branch_bne]
    have no : okAt l k = false → SV.v (Value.bool false) = SV.v (Value.bool (validB l)) := fun h => by rw [validB_not hk h]
    simp only [branch]
    refine ⟨fun hn => ⟨fun h1 => no ?_, fun h1 => ⟨fun h2 => no ?_, fun h2 => ?_⟩⟩, fun hn => no (by simp [okAt, hn])⟩
    · unfold okAt
      rcases (show (ix l k).cut < 0 ∨ (ix l k).bend < 0 by omega) with h | h
      · simp [show ¬ 0 ≤ (ix l k).cut by omega]
      · simp [show ¬ 0 ≤ (ix l k).bend by omega]
    · unfold okAt
      rcases (show 10000 < (ix l k).cut ∨ 10000 < (ix l k).bend by omega) with h | h
      · simp [show ¬ (ix l k).cut ≤ 10000 by omega]
      · simp [show ¬ (ix l k).bend ≤ 10000 by omega]
    · repeat (with_reducible refine And.intro (by omega) ?_)
      have hlt : (l.take k).length = k := by simp; omega
      have hc := containsJb_pu (l.take k) (c - 0) 48 [] [.p 1 0 0] [stW (ix l k)] (fun y => eqN y.mark (ix l k).mark) rfl (by omega) fun x _ => pu_at (same_pu x (ix l k)) rfl [1] rfl (by (simp only [push_cast, ↓branch_true, ↓branch_false, Nat.reduceBEq, Nat.reduceAdd, Nat.reduceMul, Nat.reduceSub, Int.reduceToNat, reduceCtorEq, branch_decide, branch_not, branch_beq, branch_bne])) (by (simp only [push_cast, ↓branch_true, ↓branch_false, Nat.reduceBEq, Nat.reduceAdd, Nat.reduceMul, Nat.reduceSub, Int.reduceToNat, reduceCtorEq, branch_decide, branch_not, branch_beq, branch_bne]))
      rw [hlt] at hc
      have hok : okAt l k = !(l.take k).any fun y => eqN y.mark (ix l k).mark := by
        simp [okAt, hn, show 0 ≤ (ix l k).cut by omega, show (ix l k).cut ≤ 10000 by omega, show 0 ≤ (ix l k).bend by omega, show (ix l k).bend ≤ 10000 by omega]
      refine sp_call hc rfl [0, 1] rfl ?_ ?_ ?_
      · simp only [push_cast, ↓branch_true, ↓branch_false, Nat.reduceBEq, Nat.reduceAdd, Nat.reduceMul, Nat.reduceSub, Int.reduceToNat, reduceCtorEq, branch_decide, branch_not, branch_beq, branch_bne]
        exact (Nat.sub_zero k).symm
      · simp only [push_cast, ↓branch_true, ↓branch_false, Nat.reduceBEq, Nat.reduceAdd, Nat.reduceMul, Nat.reduceSub, Int.reduceToNat, reduceCtorEq, branch_decide, branch_not, branch_beq, branch_bne]
        refine fun i hi => ⟨by omega, fun j hj => ?_⟩
        rw [ix_take (by omega) (Nat.le_of_lt hk)]
        exact ⟨rfl, rfl, rfl⟩
      simp only [push_cast, ↓branch_true, ↓branch_false, Nat.reduceBEq, Nat.reduceAdd, Nat.reduceMul, Nat.reduceSub, Int.reduceToNat, reduceCtorEq, branch_decide, branch_not, branch_beq, branch_bne]
      simp only [branch]
      refine ⟨fun ha => no (by rw [hok, ha]; rfl), fun ha => ?_⟩
      repeat (with_reducible refine And.intro (by omega) ?_)
      refine lpK_normal (k + 1) [0] ⟨by omega, fun j hj => ?_⟩ (by omega) (by kernel_rfl) ?_ ?_
      · by_cases e : j = k
        · subst e; rw [hok, ha]; rfl
        · exact r2 j (by omega)
      · simp only [push_cast, ↓branch_true, ↓branch_false, Nat.reduceBEq, Nat.reduceAdd, Nat.reduceMul, Nat.reduceSub, Int.reduceToNat, reduceCtorEq, branch_decide, branch_not, branch_beq, branch_bne]
      · simp only [push_cast, ↓branch_true, ↓branch_false, Nat.reduceBEq, Nat.reduceAdd, Nat.reduceMul, Nat.reduceSub, Int.reduceToNat, reduceCtorEq, branch_decide, branch_not, branch_beq, branch_bne]
  · obtain rfl : k = l.length := by omega
    rw [validB_of (by omega) r2]
theorem time_pu (n : Int) : Pu Try.prog 44 [.v (.int .i64 n)] [] (.v (.bool (decide (0 ≤ n) && decide (n ≤ 10000)))) := by
  refine pu_of_ex true [] mixed Try.call44 Try.func44 rfl Try.ntmps44 Try.results44 (by decide +kernel) rfl rfl rfl ?_
  simp only [push_cast, ↓branch_true, ↓branch_false, Nat.reduceBEq, Nat.reduceAdd, Nat.reduceMul, Nat.reduceSub, Int.reduceToNat, reduceCtorEq, branch_decide, branch_not, branch_beq, branch_bne]
  repeat' (with_reducible (first | apply And.intro | intro _))
  all_goals simp [*]
theorem any_take {l : List Jb} {i : Nat} {x : Jb} (hi : i ≤ l.length) : ((l.take i).any fun y => eqN y.mark x.mark) = true ↔ ∃ j, j < i ∧ eqN (ix l j).mark x.mark = true := by
  rw [List.any_eq_true]
  constructor
  · rintro ⟨y, hy, h⟩
    obtain ⟨j, hj, rfl⟩ := List.getElem_of_mem hy
    have hj' : j < i := by simp at hj; omega
    refine ⟨j, hj', ?_⟩
    rw [← ix_take hj' hi, ix_eq hj]
    exact h
  · rintro ⟨j, hj, h⟩
    have hj' : j < (l.take i).length := by simp; omega
    exact ⟨ix (l.take i) j, ix_mem hj', by rw [ix_take hj hi]; exact h⟩
theorem rvalid_pu (l : List Jb) (c : Nat) (hl : l.length ≤ 9223372036854775807) : Pu Try.prog 14 [.s 0 0 0 l.length c 3] [rJb l] (.v (.bool (validB l))) := by
  refine pu_of_ex true [] mixed Try.call14 Try.func14 rfl Try.ntmps14 Try.results14 (by decide +kernel) rfl rfl rfl ?_
  simp only [push_cast, ↓branch_true, ↓branch_false, Nat.reduceBEq, Nat.reduceAdd, Nat.reduceMul, Nat.reduceSub, Int.reduceToNat, reduceCtorEq, branch_decide, branch_not, branch_beq, branch_bne]
  refine ⟨fun h => by simp [validB, show ¬ l.length ≤ 60 by omega], fun h60 => ?_⟩
  refine tr_loop0 mixed (by kernel_rfl) (fun (k : Nat) => [(3, .v (.int .i64 k)), (0, .s 0 0 0 l.length c 3)]) (fun k => k ≤ l.length ∧ ∀ j, j < k → okAt l j = true) (fun k => l.length - k) 0 ⟨Nat.zero_le _, fun j h => by omega⟩ ?_ ?_
  · simp only [push_cast, ↓branch_true, ↓branch_false, Nat.reduceBEq, Nat.reduceAdd, Nat.reduceMul, Nat.reduceSub, Int.reduceToNat, reduceCtorEq, branch_decide, branch_not, branch_beq, branch_bne]
  rintro k ⟨r1, r2⟩
  simp only [push_cast, ↓branch_true, ↓branch_false, Nat.reduceBEq, Nat.reduceAdd, Nat.reduceMul, Nat.reduceSub, Int.reduceToNat, reduceCtorEq, branch_decide, branch_not, branch_beq, branch_bne]
  refine ⟨fun h => ?_, fun h => ?_⟩
  · have hk : k < l.length := by omega
    repeat (with_reducible refine And.intro (by omega) ?_)
    refine sp_call (rname_pu (ix l k).mark) rfl [] rfl (by simp only [push_cast, ↓branch_true, ↓branch_false, Nat.reduceBEq, Nat.reduceAdd, Nat.reduceMul, Nat.reduceSub, Int.reduceToNat, reduceCtorEq, branch_decide, branch_not, branch_beq, branch_bne]) (by simp only [push_cast, ↓branch_true, ↓branch_false, Nat.reduceBEq, Nat.reduceAdd, Nat.reduceMul, Nat.reduceSub, Int.reduceToNat, reduceCtorEq, branch_decide, branch_not, branch_beq, branch_bne]) ?_
    simp only [push_cast, ↓branch_true, ↓branch_false, Nat.reduceBEq, Nat.reduceAdd, Nat.reduceMul, Nat.reduceSub, Int.reduceToNat, reduceCtorEq, branch_decide, branch_not, branch_beq, branch_bne]
    have no : okAt l k = false → SV.v (Value.bool false) = SV.v (Value.bool (validB l)) := fun h => by rw [validB_not hk h]
    simp only [branch]
    refine ⟨fun hn => ?_, fun hn => no (by simp [okAt, hn])⟩
    repeat (with_reducible refine And.intro (by omega) ?_)
    refine sp_call (time_pu (ix l k).cut) rfl [] rfl (by simp only [push_cast, ↓branch_true, ↓branch_false, Nat.reduceBEq, Nat.reduceAdd, Nat.reduceMul, Nat.reduceSub, Int.reduceToNat, reduceCtorEq, branch_decide, branch_not, branch_beq, branch_bne]) (by simp only [push_cast, ↓branch_true, ↓branch_false, Nat.reduceBEq, Nat.reduceAdd, Nat.reduceMul, Nat.reduceSub, Int.reduceToNat, reduceCtorEq, branch_decide, branch_not, branch_beq, branch_bne]) ?_
    simp only [push_cast, ↓branch_true, ↓branch_false, Nat.reduceBEq, Nat.reduceAdd, Nat.reduceMul, Nat.reduceSub, Int.reduceToNat, reduceCtorEq, branch_decide, branch_not, branch_beq, branch_bne]
    simp only [branch]
    refine ⟨fun h1 => ?_, fun h1 => no (by simp only [okAt, h1, Bool.and_false, Bool.false_and])⟩
    repeat (with_reducible refine And.intro (by omega) ?_)
    refine sp_call (time_pu (ix l k).bend) rfl [] rfl (by simp only [push_cast, ↓branch_true, ↓branch_false, Nat.reduceBEq, Nat.reduceAdd, Nat.reduceMul, Nat.reduceSub, Int.reduceToNat, reduceCtorEq, branch_decide, branch_not, branch_beq, branch_bne]) (by simp only [push_cast, ↓branch_true, ↓branch_false, Nat.reduceBEq, Nat.reduceAdd, Nat.reduceMul, Nat.reduceSub, Int.reduceToNat, reduceCtorEq, branch_decide, branch_not, branch_beq, branch_bne]) ?_
    simp only [push_cast, ↓branch_true, ↓branch_false, Nat.reduceBEq, Nat.reduceAdd, Nat.reduceMul, Nat.reduceSub, Int.reduceToNat, reduceCtorEq, branch_decide, branch_not, branch_beq, branch_bne]
    simp only [branch]
    refine ⟨fun h2 => ?_, fun h2 => no (by simp only [okAt, h2, Bool.and_false, Bool.false_and])⟩
    have hok : okAt l k = !(l.take k).any fun y => eqN y.mark (ix l k).mark := by
      simp only [okAt, hn, h1, h2, Bool.true_and]
    refine tr_loop0 mixed (by kernel_rfl) (fun (j : Nat) => [(4, .v (.int .i64 j)), (3, .v (.int .i64 k)), (0, .s 0 0 0 l.length c 3)]) (fun j => j ≤ k ∧ ∀ i, i < j → eqN (ix l i).mark (ix l k).mark = false) (fun j => k - j) 0 ⟨Nat.zero_le _, fun j h => by omega⟩ ?_ ?_
    · simp only [push_cast, ↓branch_true, ↓branch_false, Nat.reduceBEq, Nat.reduceAdd, Nat.reduceMul, Nat.reduceSub, Int.reduceToNat, reduceCtorEq, branch_decide, branch_not, branch_beq, branch_bne]
    rintro j ⟨s1, s2⟩
    simp only [push_cast, ↓branch_true, ↓branch_false, Nat.reduceBEq, Nat.reduceAdd, Nat.reduceMul, Nat.reduceSub, Int.reduceToNat, reduceCtorEq, branch_decide, branch_not, branch_beq, branch_bne]
    refine ⟨fun h3 => ?_, fun h3 => ?_⟩
    · repeat (with_reducible refine And.intro (by omega) ?_)
      have he : ((ix l j).mark.toList == (ix l k).mark.toList) = eqN (ix l j).mark (ix l k).mark := by rw [toList_bytes, toList_bytes]; rfl
      rw [he]
      simp only [branch]
      refine ⟨fun h4 => no ?_, fun h4 => ?_⟩
      · rw [hok, (any_take (Nat.le_of_lt hk)).2 ⟨j, by omega, h4⟩]; rfl
      · repeat (with_reducible refine And.intro (by omega) ?_)
        refine lp0_normal (j + 1) ⟨by omega, fun i hi => ?_⟩ (by omega) ?_
        · by_cases e : i = j
          · subst e; exact h4
          · exact s2 i (by omega)
        · simp only [push_cast, ↓branch_true, ↓branch_false, Nat.reduceBEq, Nat.reduceAdd, Nat.reduceMul, Nat.reduceSub, Int.reduceToNat, reduceCtorEq, branch_decide, branch_not, branch_beq, branch_bne]
    · repeat (with_reducible refine And.intro (by omega) ?_)
      refine lp0_normal (k + 1) ⟨by omega, fun i hi => ?_⟩ (by omega) ?_
      · by_cases e : i = k
        · subst e
          rw [hok]
          cases ha : (l.take i).any fun y => eqN y.mark (ix l i).mark with
          | false => rfl
          | true =>
            obtain ⟨m, hm, h5⟩ := (any_take (Nat.le_of_lt hk)).1 ha
            rw [s2 m (by omega)] at h5
            cases h5
        · exact r2 i (by omega)
      · simp only [push_cast, ↓branch_true, ↓branch_false, Nat.reduceBEq, Nat.reduceAdd, Nat.reduceMul, Nat.reduceSub, Int.reduceToNat, reduceCtorEq, branch_decide, branch_not, branch_beq, branch_bne]
  · obtain rfl : k = l.length := by omega
    rw [validB_of (by omega) r2]
end Go.Proofs.Ytgbldceimdjblaa
