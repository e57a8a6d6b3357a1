/- Plain facts: the search for the maximal patterns finds them all; the search for the dearest one finds it. -/
import Derived.Test.YtdeaaonppokgkaaO9
set_option maxRecDepth 100000
set_option linter.unusedSimpArgs false
set_option linter.unusedVariables false
-- 
namespace Go.Proofs.Ytdeaaonppokgkaa.Pat
open Go.RowKit
theorem downG_prune {α : Type} {g : Int → List α} {stop : Int → Bool} : ∀ {m : Nat}, (∀ n : Nat, n ≤ m → stop n = true → ∀ n' : Nat, n' ≤ n → g n' = []) → downG g stop m = downG g (fun _ => false) m
  | 0, h => by
    simp only [downG, Bool.false_eq_true, if_false]
    split
    · rename_i hs; exact (h 0 (Nat.le_refl _) hs 0 (Nat.le_refl _)).symm
    · rfl
  | m + 1, h => by
    simp only [downG, Bool.false_eq_true, if_false]
    split
    · rename_i hs
      have h1 := h (m + 1) (Nat.le_refl _) hs
      have e : ∀ k : Nat, k ≤ m → downG g (fun _ => false) k = [] := by
        intro k
        induction k with
        | zero => intro _; simp only [downG, Bool.false_eq_true, if_false]; exact h1 0 (by omega)
        | succ k ih =>
          intro hk
          simp only [downG, Bool.false_eq_true, if_false]
          rw [ih (by omega), List.append_nil]
          exact h1 (k + 1) (by omega)
      rw [e m (Nat.le_refl _), List.append_nil]
      exact (h1 (m + 1) (Nat.le_refl _)).symm
    · rw [downG_prune (fun n hn => h n (by omega))]
theorem downG_congr {α : Type} {g g' : Int → List α} {stop : Int → Bool} : ∀ {m : Nat}, (∀ n : Nat, n ≤ m → g n = g' n) → downG g stop m = downG g' stop m
  | 0, h => by simp only [downG]; rw [show g 0 = g' 0 from h 0 (Nat.le_refl _)]
  | m + 1, h => by
    simp only [downG]
    rw [show g ((m : Int) + 1) = g' ((m : Int) + 1) from h (m + 1) (Nat.le_refl _), downG_congr (g' := g') fun n hn => h n (by omega)]
theorem downG_filter {α β : Type} {g : Int → List α} {F : α → Bool} {f : α → β} : ∀ {m : Nat}, ((downG g (fun _ => false) m).filter F).map f = downG (fun n => ((g n).filter F).map f) (fun _ => false) m
  | 0 => by simp [downG]
  | m + 1 => by simp only [downG, Bool.false_eq_true, if_false, List.filter_append, List.map_append, downG_filter]
theorem fullB_false {r : Int} {p : Pc} {n : Int} (h1 : n < p.cnt) (h2 : p.len ≤ r) : ∀ {d ps : List Pc} {pre s : List Int}, pre.length = d.length → fullB r (d ++ p :: ps) (pre ++ n :: s) = false
  | [], ps, [], s, _ => by simp [fullB, h1, h2]
  | a :: d, ps, b :: pre, s, h => by
    simp only [List.cons_append, fullB]
    rw [fullB_false h1 h2 (by simpa using h), Bool.and_false]
  | [], _, _ :: _, _, h => by simp at h
  | _ :: _, _, [], _, h => by simp at h
theorem sumL_aft : ∀ {l : List Pc} {s : List Int}, PosL l → inB l s = true → sumL l s ≤ aft l
  | [], s, _, _ => by simp [sumL, aft]
  | p :: l, [], hp, _ => by
    simp only [sumL, aft]
    have h1 : 0 ≤ aft l := by
      have := sumL_aft (s := []) hp.tail (by cases l <;> rfl)
      rw [sumL_nil] at this
      exact this
    have := Int.mul_nonneg (show 0 ≤ p.cnt by have := hp.head; omega) (show 0 ≤ p.len by have := hp.head; omega)
    omega
  | p :: l, n :: s, hp, h => by
    simp only [inB, Bool.and_eq_true, decide_eq_true_eq] at h
    simp only [sumL, aft]
    have h1 := sumL_aft hp.tail h.2
    have h2 := Int.mul_le_mul_of_nonneg_left h.1.2 (show 0 ≤ p.len by have := hp.head; omega)
    rw [Int.mul_comm p.cnt]
    omega
theorem allG_eq : ∀ {ps d : List Pc} {pre : List Int} {rest : Int}, PosL ps → pre.length = d.length → 0 ≤ rest →
    allG (d ++ ps) ps pre rest = ((eachG ps rest).filter fun s => fullB (rest - sumL ps s) (d ++ ps) (pre ++ s)).map (pre ++ ·)
  | [], d, pre, rest, _, _, _ => by
    simp only [allG, eachG, List.filter_cons, List.filter_nil, sumL, List.append_nil, Int.sub_zero]
    cases fullB rest d pre <;> simp
  | p :: ps, d, pre, rest, hp, hl, h0 => by
    have hpp := hp.head
    have hM := most_nonneg hpp h0
    rw [allG, eachG, downG_filter]
    have e : ∀ n : Nat, n ≤ (mostF p rest).toNat → allG (d ++ p :: ps) ps (pre ++ [(n : Int)]) (rest - n * p.len) = (((eachG ps (rest - n * p.len)).map ((n : Int) :: ·)).filter fun s => fullB (rest - sumL (p :: ps) s) (d ++ p :: ps) (pre ++ s)).map (pre ++ ·) := by
      intro n hn
      have hm := most_mul hpp (show (n : Int) ≤ mostF p rest by omega)
      have := allG_eq (ps := ps) (d := d ++ [p]) (pre := pre ++ [(n : Int)]) (rest := rest - n * p.len) hp.tail (by simp [hl]) (by omega)
      rw [show d ++ [p] ++ ps = d ++ p :: ps by simp] at this
      rw [this, List.filter_map, List.map_map]
      congr 1
      · funext s; simp
      · refine List.filter_congr fun s _ => ?_
        simp only [Function.comp, sumL, List.append_assoc, List.singleton_append]
        rw [show rest - n * p.len - sumL ps s = rest - (p.len * n + sumL ps s) by rw [Int.mul_comm]; omega]
    rw [downG_congr (g' := fun n => (((eachG ps (rest - n * p.len)).map (n :: ·)).filter fun s => fullB (rest - sumL (p :: ps) s) (d ++ p :: ps) (pre ++ s)).map (pre ++ ·)) e]
    refine downG_prune fun n hn hs n' hn' => ?_
    simp only [stopF, Bool.and_eq_true, decide_eq_true_eq] at hs
    rw [List.map_eq_nil_iff, List.filter_eq_nil_iff]
    intro q hq
    obtain ⟨s, hs1, rfl⟩ := List.mem_map.1 hq
    have hm := most_mul hpp (show (n' : Int) ≤ mostF p rest by omega)
    obtain ⟨_, q2, _⟩ := (mem_eachG hp.tail (by omega)).1 hs1
    have q3 := sumL_aft hp.tail q2
    have hcnt : mostF p rest ≤ p.cnt := ((most_iff hpp).1 (Int.le_refl _)).1
    have hmul : (n' : Int) * p.len ≤ n * p.len := Int.mul_le_mul_of_nonneg_right (by omega) (by omega)
    rw [fullB_false (by omega) ?_ hl]
    · simp
    · simp only [sumL]
      rw [Int.mul_comm p.len]
      omega
/-- The price of a pattern. -/
def priceL : List Int → List Int → Int
  | n :: ns, q :: qs => n * q + priceL ns qs
  | _, _ => 0
def pickB (pre : List Int) (price : Int) (qs : List Int) (s : Bst) (q : List Int) : Bst := if s.2 < price + priceL q qs then (pre ++ q, price + priceL q qs) else s
theorem foldl_downG {α σ : Type} {g : Int → List α} {F : σ → α → σ} : ∀ {m : Nat} {s : σ}, (downG g (fun _ => false) m).foldl F s = downS (fun n s => (g n).foldl F s) m s
  | 0, s => by simp [downG, downS]
  | m + 1, s => by simp only [downG, Bool.false_eq_true, if_false, List.foldl_append, downS, foldl_downG]
theorem downS_congr {σ : Type} {f f' : Int → σ → σ} : ∀ {m : Nat} {s : σ}, (∀ (n : Nat) s, n ≤ m → f n s = f' n s) → downS f m s = downS f' m s
  | 0, s, h => by simp only [downS]; exact h 0 s (Nat.le_refl _)
  | m + 1, s, h => by
    simp only [downS]
    rw [show f ((m : Int) + 1) s = f' ((m : Int) + 1) s from h (m + 1) s (Nat.le_refl _)]
    exact downS_congr fun n s hn => h n s (by omega)
theorem price_hope : ∀ {ps : List Pc} {qs q : List Int} {rest : Int}, PosL ps → (∀ x ∈ qs, 0 ≤ x) → inB ps q = true → q.length = ps.length → sumL ps q ≤ rest → priceL q qs ≤ hopeF rest ps qs
  | [], qs, q, rest, _, _, _, hl, _ => by
    obtain rfl := List.length_eq_zero_iff.1 hl
    simp [priceL, hopeF]
  | p :: ps, [], q, rest, _, _, _, _, _ => by cases q <;> simp [priceL, hopeF]
  | p :: ps, x :: qs, [], rest, _, _, _, hl, _ => by simp at hl
  | p :: ps, x :: qs, n :: q, rest, hp, hx, hi, hl, hs => by
    simp only [inB, Bool.and_eq_true, decide_eq_true_eq] at hi
    simp only [sumL] at hs
    have hpp := hp.head
    have s0 := sumL_nonneg (fun q hq => (hp.tail q hq).1) hi.2
    have t0 := Int.mul_nonneg (show 0 ≤ p.len by omega) hi.1.1
    have ih := price_hope (rest := rest) hp.tail (fun y hy => hx y (List.mem_cons_of_mem _ hy)) hi.2 (by simpa using hl) (by omega)
    have hm : n ≤ mostF p rest := (most_iff hpp).2 ⟨hi.1.2, by rw [Int.mul_comm]; omega⟩
    have := Int.mul_le_mul_of_nonneg_right hm (hx x (List.mem_cons_self ..))
    simp only [priceL, hopeF]
    omega
theorem foldl_stay {α σ : Type} {F : σ → α → σ} {s : σ} : ∀ {E : List α}, (∀ a ∈ E, F s a = s) → E.foldl F s = s
  | [], _ => rfl
  | a :: E, h => by rw [List.foldl_cons, h a (List.mem_cons_self ..)]; exact foldl_stay fun b hb => h b (List.mem_cons_of_mem _ hb)
theorem dearG_eq : ∀ {ps : List Pc} {qs pre : List Int} {rest price : Int} {s : Bst}, PosL ps → qs.length = ps.length → (∀ x ∈ qs, 0 ≤ x) → 0 ≤ rest →
    dearG ps qs pre rest price s = (eachG ps rest).foldl (pickB pre price qs) s
  | [], [], pre, rest, price, s, _, _, _, _ => by simp [dearG, eachG, pickB, priceL]
  | [], _ :: _, _, _, _, _, _, h, _, _ => by simp at h
  | _ :: _, [], _, _, _, _, _, h, _, _ => by simp at h
  | p :: ps, x :: qs, pre, rest, price, s, hp, hl, hx, h0 => by
    have hpp := hp.head
    have hM := most_nonneg hpp h0
    rw [dearG]
    split
    · rename_i hh
      refine (foldl_stay fun q hq => ?_).symm
      obtain ⟨q1, q2, q3⟩ := (mem_eachG hp h0).1 hq
      have := price_hope (qs := x :: qs) hp hx q2 q1 q3
      unfold pickB
      rw [if_neg (by omega)]
    · rw [eachG, foldl_downG]
      refine downS_congr fun n s hn => ?_
      have hm := most_mul hpp (show (n : Int) ≤ mostF p rest by omega)
      rw [dearG_eq hp.tail (by simpa using hl) (fun y hy => hx y (List.mem_cons_of_mem _ hy)) (by omega), List.foldl_map]
      congr 1
      funext s q
      simp only [pickB, priceL, List.append_assoc, List.singleton_append, Int.add_assoc]
      rfl
/-- How many patterns there can be. -/
def prodL (length : Int) : List Pc → Int
  | [] => 1
  | p :: l => (mostF p length + 1) * prodL length l
theorem prodL_pos : ∀ {l : List Pc} {length : Int}, PosL l → 0 ≤ length → 1 ≤ prodL length l
  | [], _, _, _ => by simp [prodL]
  | p :: l, length, hp, h0 => by
    have h1 := prodL_pos hp.tail h0
    have h2 := most_nonneg hp.head h0
    simp only [prodL]
    have := Int.mul_le_mul (show 1 ≤ mostF p length + 1 by omega) h1 (by omega) (by omega)
    omega
theorem eachG_count : ∀ {l : List Pc} {left length : Int}, PosL l → 0 ≤ left → left ≤ length → ((eachG l left).length : Int) ≤ prodL length l
  | [], _, _, _, _, _ => by simp [eachG, prodL]
  | p :: l, left, length, hp, h0, hle => by
    have hpp := hp.head
    have hM := most_nonneg hpp h0
    have key : ∀ m : Nat, (m : Int) ≤ mostF p left → ((downG (fun n => (eachG l (left - n * p.len)).map (n :: ·)) (fun _ => false) m).length : Int) ≤ (m + 1) * prodL length l := by
      intro m
      induction m with
      | zero =>
        intro hm
        have := eachG_count (l := l) (left := left - 0 * p.len) (length := length) hp.tail (by omega) (by omega)
        simpa [downG] using this
      | succ m ih =>
        intro hm
        have h1 := ih (by omega)
        have h2 := most_mul hpp hm
        have h3 : 0 ≤ ((m + 1 : Nat) : Int) * p.len := Int.mul_nonneg (by omega) (by omega)
        have := eachG_count (l := l) (left := left - ((m + 1 : Nat) : Int) * p.len) (length := length) hp.tail (by omega) (by omega)
        rw [downG, if_neg (by simp), List.length_append, List.length_map]
        rw [show ((m + 1 : Nat) : Int) = (m : Int) + 1 by omega] at this ⊢
        rw [Int.add_mul ((m : Int) + 1) 1, Int.one_mul]
        omega
    rw [eachG, prodL]
    refine Int.le_trans (key _ (by omega)) ?_
    have hmono : mostF p left ≤ mostF p length := by
      have h := (most_iff hpp).1 (Int.le_refl (mostF p left))
      exact (most_iff hpp).2 ⟨h.1, by omega⟩
    have := prodL_pos (l := l) (length := length) hp.tail (by omega)
    exact Int.mul_le_mul_of_nonneg_right (by omega) (by omega)
end Go.Proofs.Ytdeaaonppokgkaa.Pat
